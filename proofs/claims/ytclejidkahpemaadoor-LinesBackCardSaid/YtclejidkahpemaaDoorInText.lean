/- ints.Text, walked. -/
import Derived.Test.YtclejidkahpemaaDoorInDigits
namespace Go.Proofs.YtclejidkahpemaaDoor
open Go.RowKit
attribute [local irreducible] ByteArray.extract ByteArray.toList
attribute [local go_sem] Oper.semAt_some run_store_func run_store_nilFunc

theorem enters_dig : ∀ args w, (callFunc 58 args).run Tryd.prog w = .ok (.enter 58 args) w := enters_fn Tryd.func58 (by kernel_rfl) rfl

def sOf (l : List UInt8) : ByteArray := ⟨l.toArray⟩
theorem sOf_size (l : List UInt8) : (sOf l).size = l.length := by unfold sOf; show l.toArray.size = _; simp
theorem sOf_app (a b : List UInt8) : sOf a ++ sOf b = sOf (a ++ b) := by
  apply ByteArray.ext
  unfold sOf
  rw [ByteArray.data_append]; simp
theorem enc_byte (c : UInt8) (h : c.toNat < 128) : Utf8.encode (wrap32 c.toNat) = sOf [c] := by
  have e : wrap32 (c.toNat : Int) = c.toNat := by unfold wrap32; omega
  rw [e]
  have v : Utf8.valid (c.toNat : Int) = true := by simp [Utf8.valid]; omega
  unfold Utf8.encode sOf
  simp [v, h]

/-- The text that has been gathered when i digits have come. -/
def got (m i : Nat) : ByteArray := sOf ((revd m).take i).reverse
theorem got_zero (m : Nat) : got m 0 = ⟨#[]⟩ := by unfold got sOf; simp
theorem got_all (m : Nat) : got m (revd m).length = sOf (decs m) := by unfold got; rw [List.take_length, revd_decs]
theorem revd_len (m : Nat) (h : m < 18446744073709551616) : (revd m).length ≤ 20 := by
  have : (revd m).reverse.length ≤ 20 := by rw [revd_decs]; exact decs_len m 20 (by omega) (by omega)
  rwa [List.length_reverse] at this
theorem got_size (m i : Nat) (h : m < 18446744073709551616) : (got m i).size ≤ 20 := by
  unfold got; rw [sOf_size, List.length_reverse, List.length_take]; have := revd_len m h; omega
theorem revd_dig (m i : Nat) (hi : i < (revd m).length) : 48 ≤ ((revd m)[i]).toNat ∧ ((revd m)[i]).toNat ≤ 57 := by
  have h1 : ((revd m)[i]) ∈ decs m := by rw [← revd_decs]; exact List.mem_reverse.2 (List.getElem_mem hi)
  exact (isDig_iff _).1 (List.all_eq_true.1 (decs_dig m) _ h1)
theorem got_succ (m i : Nat) (hi : i < (revd m).length) : Utf8.encode (wrap32 ((revd m)[i]).toNat) ++ got m i = got m (i + 1) := by
  rw [enc_byte _ (by have := revd_dig m i hi; omega)]
  unfold got
  rw [sOf_app, List.take_succ_eq_append_getElem hi, List.reverse_append]; rfl
theorem enc_small (m i : Nat) (hi : i < (revd m).length) : (Utf8.encode (wrap32 ((revd m)[i]).toNat)).size ≤ 1 := by
  rw [enc_byte _ (by have := revd_dig m i hi; omega), sOf_size]; simp

def RetT (n : Int) (w : World) (e : Ending) (w' : World) : Prop := e = .returned (.string (sOf (textL n))) ∧ Below w.heap.size w w'

set_option maxHeartbeats 1600000 in
theorem itext_any (n : Int) (w : World) (h0 : -9223372036854775808 ≤ n) (h1 : n ≤ 9223372036854775807) : Calls Tryd.prog 40 #[.int .i64 n] w (RetT n w) := by
  have hsg : (n < 0 ∧ IntKind.u64.wrap (-IntKind.u64.wrap n) = ((n.natAbs : Nat) : Int)) ∨ (0 ≤ n ∧ IntKind.u64.wrap n = ((n.natAbs : Nat) : Int)) := by
    rcases Int.lt_or_le n 0 with h | h
    · refine .inl ⟨h, ?_⟩
      rw [show ∀ x, IntKind.u64.wrap x = x % 18446744073709551616 from fun x => by simp [IntKind.wrap, IntKind.bits, IntKind.signed], show ∀ x, IntKind.u64.wrap x = x % 18446744073709551616 from fun x => by simp [IntKind.wrap, IntKind.bits, IntKind.signed]]
      omega
    · refine .inr ⟨h, ?_⟩
      rw [IntWalk.u64_in n (by omega)]; omega
  have hm : n.natAbs < 18446744073709551616 := by omega
  have hT : Hid ((n < 0 → sOf (textL n) = sOf [45] ++ got n.natAbs (revd n.natAbs).length) ∧ (0 ≤ n → sOf (textL n) = got n.natAbs (revd n.natAbs).length)) := by
    refine ⟨fun h => ?_, fun h => ?_⟩
    · rw [got_all, sOf_app]; unfold textL; rw [if_pos h]; rfl
    · rw [got_all]; unfold textL; rw [if_neg (by omega)]
  have hgs := got_size n.natAbs (revd n.natAbs).length hm
  generalize n.natAbs = m at *
  refine (callsIn_wide (n := 3)).1 ?_
  refine callsIn_of_wp_marks Tryd.func40 rfl trivial ?_
  simp only [Tryd.ntmps40, List.size_toArray, List.length_cons, List.length_nil, Nat.reduceAdd, Nat.reduceSub, Array.replicate_succ, Array.replicate_zero, List.push_toArray, List.append_toArray, List.nil_append, List.cons_append]
  have hs := cell_new1 w (.string ⟨#[]⟩) 9
  have hb := cell_new1 (w.alloc (.cells #[.string ⟨#[]⟩] 9)) (.int .u64 m) 71
  rw [World.size_alloc] at hb
  have Hs := Lib.hid hs
  have Hb := Lib.hid hb
  have Hd := Lib.hid (digits_iter m hm (w.heap.size + 1) ((w.alloc (.cells #[.string ⟨#[]⟩] 9)).alloc (.cells #[.int .u64 m] 71)) (by simp) hb.1 hb.2)
  clear hs hb
  rcases hsg with ⟨hn, he⟩ | ⟨hn, he⟩
  all_goals
    gi_wp2_with ((refine ⟨trivial, ?_⟩; gi_at_call 49); refine (callsIn_wide.2 (digits_any _ _)).mono ?_; rintro e w' ⟨rfl, rfl⟩)
    have HE := Lib.hid he
    clear he
    refine wp_range (gf := 58) (lb := #[.pointer (some ⟨w.heap.size + 1, 0, none⟩)]) rfl enters_dig
      Hd.out (by rintro b (rfl | h); simp; exact h.elim) (fun _ => rfl)
      (fun i W => W.cell? ⟨w.heap.size, 0, none⟩ = some (.string (got m i)) ∧ W.frozen? ⟨w.heap.size, 0, none⟩ = false ∧ Below w.heap.size w W ∧ w.heap.size + 1 < W.heap.size)
      (fun _ _ _ => False) ?hI (fun _ _ _ _ h _ => h) ?h0 ?round ?done (fun _ _ _ _ h => h.elim)
    case hI =>
      rintro i A B ⟨ha, hb, hc, hd⟩ ho
      simp at ho
      have hn : ¬ (w.heap.size = w.heap.size + 1 ∨ w.heap.size = w.heap.size + 1 + 1 ∨ w.heap.size = w.heap.size + 1 + 1 + 1) := by omega
      refine ⟨(ho.cell (p := ⟨w.heap.size, 0, none⟩) (by simp; omega) hn).trans ha, (ho.frozen (p := ⟨w.heap.size, 0, none⟩) (by simp; omega) hn).trans hb, hc.trans (ho.below hc.size (fun b hb => by omega)), by have := ho.size; omega⟩
    case h0 =>
      rw [got_zero]
      exact ⟨cell_alloc1 _ Hs.out.1, frozen_alloc1 _ Hs.out.1 Hs.out.2, ((Below.refl _ _).alloc (Nat.le_refl _) _).alloc (by simp) _, by simp⟩
    case round =>
      rintro l i hi W rfl hlt ⟨hc, hf, hB, hz⟩
      gi_wp2
      refine ⟨Kept.refl _ _ _ _, ⟨hc, hf, hB, hz⟩, ?_⟩
      clear hlt hc hf hB hz
      rintro W2 hlt ⟨hc, hf, hB, hz⟩
      have hz1 := got_size m i hm
      have hz2 := enc_small m i hi
      have hle : ¬ 9223372036854775807 < (Utf8.encode (wrap32 ((revd m)[i]).toNat)).size + (got m i).size := by omega
      gi_wp2
      refine ⟨Kept.of_only (Only.setCell (S := (· = w.heap.size)) _ _ _ rfl) (fun b hb => ?_), ?_, ?_, hB.setCell (p := ⟨w.heap.size, 0, none⟩) (Nat.le_refl _) _, by simp [World.setCell]; omega⟩
      · simp at hb hlt; omega
      · rw [← got_succ m i hi]; exact World.cell?_setCell_same' _ _ _ (by rw [hc]; rfl)
      · rw [World.frozen?_setCell]; exact hf
    case done =>
      rintro W ⟨hc, hf, hB, hz⟩ hlt hD
      clear hf
      gi_wp2
      refine leaves_mark hD (leaves_nil (results_tmp rfl _ _ _) ⟨?_, below_putObj hB (by simp; omega) (by omega) _⟩)
      first
        | (show Ending.returned (.string (got m (revd m).length)) = _; rw [hT.out.2 hn]; done)
        | (show Ending.returned (.string (sOf [45] ++ got m (revd m).length)) = _; rw [hT.out.1 hn])
end Go.Proofs.YtclejidkahpemaaDoor
