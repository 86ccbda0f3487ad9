/- slices.Clone of bytes; Word, Bytes, NewWriter. -/
import Derived.Test.YtcapdmicekialaaGreatOcNum
namespace Go.Proofs.YtcapdmicekialaaGreat
open Go.RowKit
attribute [local go_sem] Oper.semAt_some run_store_func run_store_nilFunc

theorem own_empty (w : World) (e : TypeId) : (w.alloc (.cells #[] e)).ownsRow w.heap.size e 1 (.slice (some ⟨w.heap.size, 0, none⟩) 0 0) 0 [] :=
  ⟨rfl, .inr ⟨w.heap.size, 0, #[], rfl, Nat.le_refl _, World.alloc_heap_new w _, Nat.le_refl _, by simp [maxLen], rfl, rfl⟩⟩
theorem clone_nil (c n : Nat) (w : World) : Calls Tryz.prog 94 #[.slice none n c] w fun e w' => e = .returned (.slice none 0 0) ∧ w = w' := by
  have hq := fun (w : World) (a : Option Addr) (n c : Nat) => Lib.run_eql_slice_nil (P := Tryz.prog) w 31 5 a n c 0 0 Tryz.underlying31
  go_enter Tryz.func94, Tryz.ntmps94
  go_wp2
  go_ret
  exact ⟨rfl, rfl⟩
set_option maxHeartbeats 800000 in
theorem clone_some (a : Addr) (c : Nat) (bs : List UInt8) (w : World) (hx : Reads w w.heap.size 1 (some a) bs.length (bytesV bs)) (hl : bs.length ≤ 140737488355328) :
    Calls Tryz.prog 94 #[.slice (some a) bs.length c] w (RetBytes bs w) := by
  have hq := fun (w : World) (a : Option Addr) (n c : Nat) => Lib.run_eql_slice_nil (P := Tryz.prog) w 31 5 a n c 0 0 Tryz.underlying31
  have Hx := Lib.hid hx
  clear hx
  obtain ⟨i0, hi0, hz0, hz1, hz2⟩ := info_parts info_u8
  go_enter Tryz.func94, Tryz.ntmps94
  have hown0 : (w.alloc (.cells #[] 5)).ownsRow w.heap.size 5 1 (.slice (some ⟨w.heap.size, 0, none⟩) 0 0) 0 [] := own_empty w 5
  have hx1 := Lib.hid (Hx.out.alloc (Nat.le_refl _) (.cells #[] 5))
  clear Hx
  go_wp2_with (at_builtin; refine wpList_append_any _ rfl (.tmp 5) (.tmp 6) _ rfl w.heap.size 5 i0 _ 1 1 Tryz.underlying31 hi0 hz0 hz1 hz2 rfl (by decide) (.slice (some ⟨w.heap.size, 0, none⟩) 0 0) 0 [] rfl hown0 w.heap.size (some a) bs.length c (bytesV bs) rfl hx1.out (bytesV_one bs) (by simp only [maxLen]; omega) (by omega) (by simp) ?_; intro v' w1 hown' hgrow hat; rw [Nat.zero_add, List.nil_append] at hown'; obtain ⟨A', c', rfl, _⟩ := own_form hown')
  go_ret
  refine ⟨A', c', rfl, hown', ?_⟩
  exact ((Below.refl _ _).alloc (Nat.le_refl _) _).grown hgrow (by simp) (by simp [Value.ownBlock])
theorem clone_any (A : Option Addr) (c : Nat) (bs : List UInt8) (w : World) (hx : Reads w w.heap.size 1 A bs.length (bytesV bs)) (hl : bs.length ≤ 140737488355328) :
    Calls Tryz.prog 94 #[.slice A bs.length c] w (RetBytes bs w) := by
  cases A with
  | some a => exact clone_some a c bs w hx hl
  | none =>
    have hn : bs.length = 0 := by
      rcases Nat.eq_zero_or_pos bs.length with h | h
      · exact h
      · obtain ⟨ad, h, _⟩ := hx.2 h; cases h
    obtain rfl := List.eq_nil_of_length_eq_zero hn
    refine (clone_nil c _ w).mono ?_
    rintro e w' ⟨rfl, rfl⟩
    exact ⟨none, 0, rfl, World.ownsRow_nil _ _ _ _, Below.refl _ _⟩
theorem byteCells_bytesV (s : ByteArray) : byteCells s = bytesV s.data.toList := rfl
set_option maxHeartbeats 800000 in
theorem word_any (p : Nat) (s : ByteArray) (most bad : Int) (bs : List UInt8) (v : Value) (w : World) (h : Wr w p most bs bad v) (hs : s.size ≤ 140737488351232) :
    Calls Tryz.prog 90 #[.pointer (some ⟨p, 0, none⟩), .string s] w (WStep p most v (wrWord most bs bad s) w) := by
  have c3 := h.blk.cell 3
  simp at c3
  have H := Lib.hid h
  clear h
  have hsz : (grp s.size).length ≤ 10 := grp_len s.size (by omega)
  obtain ⟨i0, hi0, hz0, hz1, hz2⟩ := info_parts info_u8
  go_enter Tryz.func90, Tryz.ntmps90
  go_wp2_with fail
  refine (none_made p w c3).mono ?_
  rintro e w' ⟨rfl, rfl⟩
  go_wp2_with fail
  refine (number_any s.size (by omega) w).mono ?_
  rintro e w1 ⟨A, c, rfl, ho, hb⟩
  have HO := Lib.hid ho
  have HB := Lib.hid hb
  clear ho hb c3
  go_wp2_with (at_builtin; refine wpList_append_src _ rfl (.tmp 11) (.tmp 12) _ _ rfl w.heap.size 5 i0 _ 1 1 Tryz.underlying31 hi0 hz0 hz1 hz2 rfl (by decide) (.slice A (grp s.size).length c) (grp s.size).length (bytesV (grp s.size)) rfl HO.out (.string s) s.size (byteCells s) rfl (Src.ofString w1 Tryz.underlying9 s) (by simp only [maxLen]; omega) (by omega) HB.out.size ?_; intro v' w2 hown' hgrow hat; obtain ⟨A', c', rfl, _⟩ := own_form hown')
  have hlen : (grp s.size ++ s.data.toList).length = (grp s.size).length + s.size := by rw [List.length_append]; rfl
  have hB2 : Below w.heap.size w w2 := HB.out.grown hgrow HB.out.size (fun k hk => (World.ownsRow.lt HO.out k hk).1)
  have HH := Lib.hid (write_any p true A' c' most bad bs (grp s.size ++ s.data.toList) v w2 (H.out.keep (only_below hB2) (fun _ _ h => h)) (by rw [hlen, bytesV_app]; exact Reads.of_own hown') (by omega))
  rw [hlen] at HH
  clear hown' hgrow hat hlen
  go_wp2_with fail
  refine HH.out.mono ?_
  rintro e w3 hs
  have HS := Lib.hid hs
  obtain ⟨rfl, _⟩ := hs
  go_wp2_with fail
  go_ret
  exact HS.out.from_ (only_below hB2)
/-- What Bytes hands back. -/
def RetBytesE (bs : List UInt8) (bad : Int) (w : World) (e : Ending) (w' : World) : Prop :=
  ∃ A c, e = .returned (.tuple #[.slice A bs.length c, .int .i64 bad]) ∧ w'.ownsRow w.heap.size 5 1 (.slice A bs.length c) bs.length (bytesV bs) ∧ Below w.heap.size w w'
theorem bytes_any (p : Nat) (most bad : Int) (bs : List UInt8) (v : Value) (w : World) (h : Wr w p most bs bad v) : Calls Tryz.prog 36 #[.pointer (some ⟨p, 0, none⟩)] w (RetBytesE (if bad = 0 then bs else []) bad w) := by
  have c1 := h.blk.cell 1
  have c2 := h.blk.cell 2
  have c3 := h.blk.cell 3
  simp at c1 c2 c3
  obtain ⟨Av, cv, rfl, _⟩ := own_form h.own
  have m1 := h.m1
  have m2 := h.m2
  have HC := Lib.hid (clone_any Av cv bs w (Reads.of_own h.own) (by omega))
  clear h
  by_cases hb : bad = 0
  · subst hb
    rw [if_pos rfl]
    go_enter Tryz.func36, Tryz.ntmps36
    go_wp2_with fail
    refine (none_made p w c3).mono ?_
    rintro e w' ⟨rfl, rfl⟩
    go_wp2_with fail
    refine HC.out.mono ?_
    rintro e w1 ⟨A, c, rfl, ho, hb⟩
    have HO := Lib.hid ho
    clear ho
    go_wp2_with fail
    go_ret2
    exact ⟨A, c, rfl, HO.out, hb⟩
  · rw [if_neg hb]
    have hb' : (bad != 0) = true := by simpa using hb
    go_enter Tryz.func36, Tryz.ntmps36
    go_wp2_with fail
    refine (none_made p w c3).mono ?_
    rintro e w' ⟨rfl, rfl⟩
    go_wp2_with fail
    go_quiet (fail)
    go_wp2_with fail
    go_ret2
    exact ⟨none, 0, rfl, World.ownsRow_nil _ _ _ _, ⟨rfl, rfl, rfl, Nat.le_refl _, fun _ _ => rfl⟩⟩
theorem new_bad (n : Int) (w : World) (h : n < 0 ∨ 1048576 < n) : Calls Tryz.prog 26 #[.int .i64 n] w fun e w' => e = .returned (.tuple #[.pointer none, .int .i64 3]) ∧ w = w' := by
  rcases h with h | h
  · go_enter Tryz.func26, Tryz.ntmps26
    go_wp2_with fail
    go_ret2
    exact ⟨rfl, rfl⟩
  · have h2 : ¬ n < 0 := by omega
    go_enter Tryz.func26, Tryz.ntmps26
    go_wp2_with fail
    go_ret2
    exact ⟨rfl, rfl⟩
theorem new_ok (n : Int) (w : World) (h0 : 0 ≤ n) (h1 : n ≤ 1048576) : Calls Tryz.prog 26 #[.int .i64 n] w fun e w' => ∃ p, e = .returned (.tuple #[.pointer (some ⟨p, 0, none⟩), .int .i64 0]) ∧ p = w.heap.size ∧ Wr w' p n [] 0 (.slice none 0 0) ∧ Below w.heap.size w w' := by
  go_enter Tryz.func26, Tryz.ntmps26
  go_wp2_with fail
  go_ret2
  exact ⟨_, rfl, rfl, ⟨World.alloc_heap_new _ _, World.ownsRow_nil _ _ _ _, h0, by omega, by simpa using h0⟩, (Below.refl _ _).alloc (Nat.le_refl _) _⟩
end Go.Proofs.YtcapdmicekialaaGreat
