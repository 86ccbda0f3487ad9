/- octet.groups, its iterator, and octet.number. -/
import Derived.Test.YtcapdmicekialaaGreatProg
import Derived.Test.YtcapdmicekialaaGreatWords
import Derived.Test.YtcapdmicekialaaGreatOcPure
import Derived.Deep.Onto
import Derived.Laws.ResultCell
namespace Go.Proofs.YtcapdmicekialaaGreat
open Go.RowKit
attribute [local go_sem] Oper.semAt_some run_store_func run_store_nilFunc

theorem or_128 (x : Nat) (h : x < 256) : bits BinOp.or IntKind.u8 (x : Int) 128 = ((x % 128 + 128 : Nat) : Int) := by
  have H : ∀ y : Fin 256, bits BinOp.or IntKind.u8 ((y.val : Nat) : Int) 128 = ((y.val % 128 + 128 : Nat) : Int) := by decide +kernel
  exact H ⟨x, h⟩

theorem groups_any (n : Int) (w : World) : Calls Tryz.prog 122 #[.int .u64 n] w fun e w' => e = .returned (.func (.func 136) #[] #[.pointer (some ⟨w.heap.size, 0, none⟩)]) ∧ w.alloc (.cells #[.int .u64 n] 136) = w' := by
  have hmf : ∀ (fn : Fn) (first cap : Array Value) (w : World), (Instr.makeFunc fn first cap).run Tryz.prog w = .ok (.func fn first cap) w := fun _ _ _ _ => rfl
  go_enter Tryz.func122, Tryz.ntmps122
  go_wp2
  go_ret
  exact ⟨rfl, rfl⟩

/-- What is left of the loop: the captured number. -/
def meaG (B : Nat) (wr : World) : Nat := match wr.cell? ⟨B, 0, none⟩ with | some (.int _ q) => q.toNat | _ => 0
theorem meaG_eq {B : Nat} {wr : World} {m : Nat} (h : wr.cell? ⟨B, 0, none⟩ = some (.int .u64 m)) : meaG B wr = m := by unfold meaG; rw [h]; simp
theorem drop_atG {α : Type} {l : List α} {i : Nat} {x : α} {t : List α} (h : l.drop i = x :: t) : ∃ hi : i < l.length, l[i] = x ∧ l.drop (i + 1) = t := by
  have hi : i < l.length := by
    rcases Nat.lt_or_ge i l.length with k | k
    · exact k
    · rw [List.drop_eq_nil_of_le k] at h; cases h
  rw [List.drop_eq_getElem_cons hi] at h
  injection h with h1 h2
  exact ⟨hi, h1, h2⟩

set_option maxHeartbeats 800000 in
theorem groups_iter (n : Nat) (hn : n < 18446744073709551616) (B : Nat) (w0 : World) (hc : w0.cell? ⟨B, 0, none⟩ = some (.int .u64 n)) (hf : w0.frozen? ⟨B, 0, none⟩ = false) :
    IterC Tryz.prog 136 #[.pointer (some ⟨B, 0, none⟩)] (grp n) (fun c => #[.int .u8 c.toNat]) (· = B) (fun _ => False) w0 := by
  intro k l J Jx W hW hkeep hJ hJx hY h0
  have hWB : W.heap[B]? = w0.heap[B]? := hkeep B (.inl rfl)
  have hcW : W.cell? ⟨B, 0, none⟩ = some (.int .u64 n) := (World.cell?_of_block (w := w0) hWB).trans hc
  have hfW : W.frozen? ⟨B, 0, none⟩ = false := (World.frozen?_of_block (w := w0) hWB).trans hf
  clear hc hf hWB hkeep
  refine callsIn_of_wp Tryz.func136 rfl trivial ?_
  simp only [Tryz.ntmps136, List.size_toArray, List.length_cons, List.length_nil, Nat.reduceAdd, Nat.reduceSub, Array.replicate_succ, Array.replicate_zero, List.push_toArray, List.append_toArray, List.nil_append, List.cons_append]
  gi_wp2
  gi_loopw [] (fun wr => ∃ (i : Nat) (m : Nat), J i wr ∧ (grp n).drop i = grp m ∧ m < 18446744073709551616 ∧ wr.cell? ⟨B, 0, none⟩ = some (.int .u64 m) ∧ wr.frozen? ⟨B, 0, none⟩ = false)
    (fun wr => meaG B wr)
  case atStart => exact ⟨0, n, h0, by rw [List.drop_zero], hn, hcW, hfW⟩
  case round =>
    obtain ⟨i, m, hj, hd, hm, hcell, hfr⟩ := hrel
    by_cases hlt : m < 128
    · have hno : ¬ (128 : Int) ≤ (m : Int) := by omega
      rw [grp_lt hlt] at hd
      obtain ⟨hi, hxi, hdi⟩ := drop_atG hd
      have hlen : i + 1 = (grp n).length := by
        have := congrArg List.length hdi
        rw [List.length_drop, List.length_nil] at this; omega
      obtain ⟨fn, tmps, assign, body, hy, hR⟩ := hY i hi wr hj
      have ex : (((grp n)[i]).toNat : Int) = (m : Int) := by rw [hxi, ofNat_nat (by omega)]
      rw [ex] at hy
      have hm8 : (m : Int) % 256 = m := by omega
      have HL := Lib.hid hlen
      clear hxi hdi hd ex hlen
      gi_wp2
      refine ⟨(fun h => nomatch h), hR.mono ?_⟩
      intro e W3 hpost
      obtain ⟨hs3, hk3, hpost⟩ := hpost
      rcases hpost with ⟨rfl, hJ3⟩ | ⟨rfl, hJx3⟩
      · gi_wp2
        go_end0
        exact ⟨⟨_, rfl⟩, .inl (by rw [← HL.out]; exact hJ3)⟩
      · gi_wp2
        go_end0
        exact ⟨⟨_, rfl⟩, .inr ⟨i + 1, by have := HL.out; omega, hJx3⟩⟩
    · have hyes : (128 : Int) ≤ (m : Int) := by omega
      rw [grp_ge hlt] at hd
      obtain ⟨hi, hxi, hdi⟩ := drop_atG hd
      obtain ⟨fn, tmps, assign, body, hy, hR⟩ := hY i hi wr hj
      have ex : (((grp n)[i]).toNat : Int) = (m : Int) % 128 + 128 := by rw [hxi, ofNat_nat (by omega)]; omega
      rw [ex] at hy
      have hor : bits BinOp.or IntKind.u8 ((m : Int) % 256) 128 = (m : Int) % 128 + 128 := by
        have := or_128 (m % 256) (by omega)
        rw [show ((m % 256 : Nat) : Int) = (m : Int) % 256 from by omega, show m % 256 % 128 = m % 128 from by omega] at this
        rw [this]; omega
      have HD := Lib.hid hdi
      have hB2 := hcell
      clear hxi hdi hd ex
      gi_wp2
      refine ⟨(fun h => nomatch h), hR.mono ?_⟩
      intro e W3 hpost
      obtain ⟨hs3, hk3, hpost⟩ := hpost
      rcases hpost with ⟨rfl, hJ3⟩ | ⟨rfl, hJx3⟩
      · have hb3 : W3.heap[B]? = wr.heap[B]? := hk3 B (.inl rfl)
        have hc3 : W3.cell? ⟨B, 0, none⟩ = some (.int .u64 m) := (World.cell?_of_block (w := wr) hb3).trans hcell
        have hf3 : W3.frozen? ⟨B, 0, none⟩ = false := (World.frozen?_of_block (w := wr) hb3).trans hfr
        have hsetc : (W3.setCell ⟨B, 0, none⟩ (.int .u64 ((m : Int) / 128))).cell? ⟨B, 0, none⟩ = some (.int .u64 ((m : Int) / 128)) := World.cell?_setCell_same' _ _ _ (by rw [hc3]; rfl)
        have hsetf : (W3.setCell ⟨B, 0, none⟩ (.int .u64 ((m : Int) / 128))).frozen? ⟨B, 0, none⟩ = false := by rw [World.frozen?_setCell]; exact hf3
        have hJ4 := hJ _ _ _ hJ3 (Only.setCell (S := (· = B)) W3 ⟨B, 0, none⟩ (.int .u64 ((m : Int) / 128)) rfl)
        clear hb3 hcell hfr hor
        gi_wp2
        have ecast : ((m : Int) / 128) = ((m / 128 : Nat) : Int) := rfl
        refine ⟨⟨i + 1, m / 128, hJ4, HD.out, by omega, by rw [hsetc, ecast], hsetf⟩, ?_⟩
        rw [meaG_eq hB2, meaG_eq (m := m / 128) (by rw [hsetc, ecast])]
        omega
      · gi_wp2
        refine bodyPost_ret (results_none rfl _ _ _) rfl ?_
        exact ⟨⟨_, rfl⟩, .inr ⟨i + 1, by omega, hJx3⟩⟩

theorem enters_groups1 : ∀ args w, (callFunc 136 args).run Tryz.prog w = .ok (.enter 136 args) w := enters_fn Tryz.func136 (by kernel_rfl) rfl
theorem info_u8 : (Tryz.prog.info? 5).map (fun i => (i.zero, i.size, i.bytes)) = some (some (.int .u8 0), 1, 1) := by kernel_rfl
/-- Bytes as values. -/
def bytesV (bs : List UInt8) : List Value := bs.map fun b => .int .u8 b.toNat
theorem bytesV_len (bs : List UInt8) : (bytesV bs).length = bs.length := by unfold bytesV; simp
theorem bytesV_app (a b : List UInt8) : bytesV (a ++ b) = bytesV a ++ bytesV b := by unfold bytesV; simp
theorem bytesV_one (bs : List UInt8) : ∀ u ∈ bytesV bs, u.oneCell' = true := by
  intro u hu
  obtain ⟨b, _, rfl⟩ := List.mem_map.1 hu
  rfl
theorem bytesV_take (bs : List UInt8) (i : Nat) (hi : i < bs.length) : bytesV (bs.take i) ++ [.int .u8 (bs[i].toNat : Int)] = bytesV (bs.take (i + 1)) := by
  rw [List.take_succ_eq_append_getElem hi, bytesV_app]; rfl
/-- A slice of bytes of its own, new. -/
def RetBytes (bs : List UInt8) (w : World) (e : Ending) (w' : World) : Prop := ∃ A c, e = .returned (.slice A bs.length c) ∧ w'.ownsRow w.heap.size 5 1 (.slice A bs.length c) bs.length (bytesV bs) ∧ Below w.heap.size w w'

theorem own_form {w : World} {base e n : Nat} {v : Value} {xs : List Value} (h : w.ownsRow base e 1 v n xs) : ∃ A c, v = .slice A n c ∧ (A = none → n = 0 ∧ c = 0) := by
  rcases h.2 with ⟨rfl, hx⟩ | ⟨g, cap, cur, rfl, _⟩
  · have hn : n = 0 := by have := h.1; rw [hx] at this; simp at this; omega
    subst hn
    exact ⟨none, 0, rfl, fun _ => ⟨rfl, rfl⟩⟩
  · exact ⟨_, _, rfl, fun h => by cases h⟩

theorem results_cell_slice {P : Program} {fn : Func} {p : Tmp} {ty : TypeId} (h : fn.results = #[.cell p ty]) (tmps : Array Value) (w : World) (g : Nat) (e : TypeId) (v : Value)
    (hp : tmps.getD p undef = .pointer (some ⟨g, 0, none⟩)) (hg : w.cell? ⟨g, 0, none⟩ = some v) (hu : P.underlying ty = some (.slice e)) : (results fn tmps).run P w = .ok v w := by
  have hp' : tmps[p]?.getD undef = .pointer (some ⟨g, 0, none⟩) := by simpa using hp
  simp [results, h, hp', asAddr, go_sem, isAgg, run_underlying hu, hg]
set_option maxRecDepth 10000 in
set_option maxHeartbeats 1600000 in
theorem number_any (n : Nat) (hn : n < 18446744073709551616) (w : World) : Calls Tryz.prog 84 #[.int .u64 n] w (RetBytes (grp n) w) := by
  have hlen := grp_len n hn
  refine (callsIn_wide (n := 3)).1 ?_
  refine callsIn_of_wp_marks Tryz.func84 rfl trivial ?_
  simp only [Tryz.ntmps84, List.size_toArray, List.length_nil, List.length_cons, Nat.reduceSub, Nat.reduceAdd, Array.replicate_succ, Array.replicate_zero, List.push_toArray, List.append_toArray, List.nil_append, List.cons_append]
  have hb := cell_new1 (w.alloc (.cells #[.slice none 0 0] 31)) (.int .u64 n) 136
  rw [World.size_alloc] at hb
  have Hd := Lib.hid (groups_iter n hn (w.heap.size + 1) _ hb.1 hb.2)
  have HL := Lib.hid hlen
  clear hb hlen
  gi_wp2_with ((refine ⟨trivial, ?_⟩; gi_at_call 122); refine (callsIn_wide.2 (groups_any _ _)).mono ?_; rintro e w' ⟨rfl, rfl⟩)
  change Code.wpIn _ _ _ _ _ _ ((w.alloc (Obj.cells #[Value.slice none 0 0] 31)).alloc (Obj.cells #[Value.int .u64 n] 136))
  generalize hw0 : ((w.alloc (Obj.cells #[Value.slice none 0 0] 31)).alloc (Obj.cells #[Value.int .u64 n] 136)) = w0 at Hd ⊢
  have hs0 : w0.heap.size = w.heap.size + 2 := by rw [← hw0]; simp
  have hB0 : Below w.heap.size w w0 := by rw [← hw0]; exact ((Below.refl _ _).alloc (Nat.le_refl _) _).alloc (by simp) _
  have hx0 : Boxed w0 w.heap.size 31 (.slice none 0 0) := by rw [← hw0]; exact (Boxed.new w 31 _).alloc _
  have hlen := HL.out
  refine wp_range (w := w0) (gf := 136) (lb := #[.pointer (some ⟨w.heap.size + 1, 0, none⟩)]) rfl enters_groups1
    Hd.out (by rintro b (rfl | h); omega; exact h.elim) (fun _ => rfl)
    (fun i W => ∃ v, Boxed W w.heap.size 31 v ∧ W.ownsRow (w.heap.size + 4) 5 1 v i (bytesV ((grp n).take i)) ∧ Below w.heap.size w W ∧ w.heap.size + 2 ≤ W.heap.size)
    (fun _ _ _ => False) ?hI (fun _ _ _ _ h _ => h) ?h0 ?round ?done (fun _ _ _ _ h => h.elim)
  case hI =>
    rintro i A B ⟨v, hv, hr, hB, hz⟩ ho
    rw [hs0] at ho
    refine ⟨v, box_only ho hv (by rintro (h | h | h) <;> omega), own_only ho hr (by rintro g hg _ (h | h | h) <;> omega), hB.trans (ho.below hB.size (by rintro b (h | h | h) <;> omega)), by have := ho.size; omega⟩
  case h0 => exact ⟨_, hx0, World.ownsRow_nil _ _ _ _, hB0, by omega⟩
  case round =>
    rintro l i hi W rfl hlt ⟨v, hv, hr, hB, hz⟩
    rw [hs0] at hlt
    gi_wp2
    refine ⟨Kept.refl _ _ _ _, ⟨v, hv, hr, hB, hz⟩, ?_⟩
    clear hlt hv hr hB hz
    clear v
    rintro W2 hlt ⟨v, hv, hr, hB, hz⟩
    rw [hs0] at hlt
    have hcell := hv.cell
    have hfr := hv.frozen
    obtain ⟨i0, hi0, hz0, hz1, hz2⟩ := info_parts info_u8
    gi_wp2_with (gi_at_builtin; refine wpListIn_append_own _ rfl _ _ 31 rfl (w.heap.size + 4) 5 i0 (.int .u8 0) 1 1 Tryz.underlying31 hi0 hz0 hz1 hz2 rfl (by decide) _ _ _ rfl (hr.alloc _) ⟨W2.heap.size, 0, none⟩ 1 1 [.int .u8 ((grp n)[i].toNat : Int)] rfl rfl (cell_one_new _ _ _) (by simp [Value.oneCell']) (by simp only [maxLen]; omega) (by omega) (by simp; omega) ?_; clear hcell hfr; intro v' w1 hown' hgrow _; obtain ⟨g', cap', rfl⟩ := ownsRow_succ hown'; obtain ⟨hcell, hfr, hv2, hr2, ho2⟩ := box_append hv hr (by omega) hown' hgrow)
    rw [bytesV_take _ i hi] at hr2
    have hB2 := hB.trans (ho2.below hB.size (by rintro b (h | ⟨h, _⟩) <;> omega))
    refine ⟨Kept.of_only ho2 ?_, _, hv2, hr2, hB2, by have := ho2.size; omega⟩
    rw [hs0]
    rintro b ((h | h) | h | h)
    · refine ⟨by omega, ?_⟩; rintro (k | ⟨k, _⟩) <;> omega
    · exact h.elim
    all_goals refine ⟨by omega, ?_⟩; rintro (k | ⟨k, _⟩) <;> omega
  case done =>
    rintro W ⟨v, hv, hr, hB, hz⟩ hlt hD
    have hcell := hv.cell
    have hfr := hv.frozen
    rw [List.take_of_length_le (Nat.le_refl _)] at hr
    obtain ⟨A, c, rfl, _⟩ := own_form hr
    rw [hs0] at hD hlt
    rw [hs0]
    gi_wp2
    have hS := Only.setCell (S := (· = w.heap.size)) W ⟨w.heap.size, 0, none⟩ (.slice A (grp n).length c) rfl
    have hcell2 : (W.setCell ⟨w.heap.size, 0, none⟩ (.slice A (grp n).length c)).cell? ⟨w.heap.size, 0, none⟩ = some (.slice A (grp n).length c) := World.cell?_setCell_same' _ _ _ (by rw [hcell]; rfl)
    have hD2 : (W.setCell ⟨w.heap.size, 0, none⟩ (.slice A (grp n).length c)).heap[w.heap.size + 2]? = some (.deferred (some [])) := (hS.block _ (by omega) (by omega)).trans hD
    have hP := Only.putObj (S := (· = w.heap.size + 2)) (W.setCell ⟨w.heap.size, 0, none⟩ (.slice A (grp n).length c)) (w.heap.size + 2) (.deferred none) rfl
    have hcell3 : ((W.setCell ⟨w.heap.size, 0, none⟩ (.slice A (grp n).length c)).putObj (w.heap.size + 2) (.deferred none)).cell? ⟨w.heap.size, 0, none⟩ = some (.slice A (grp n).length c) :=
      (hP.cell (p := ⟨w.heap.size, 0, none⟩) (by have := hS.size; show w.heap.size < _; omega) (by show ¬ (w.heap.size = w.heap.size + 2); omega)).trans hcell2
    refine leaves_mark hD2 (leaves_nil (results_cell_slice rfl _ _ w.heap.size 5 _ rfl hcell3 Tryz.underlying31) ⟨A, c, rfl, ?_, ?_⟩)
    · exact (own_only hP (own_only hS hr (by rintro g hg _ h; omega)) (by rintro g hg _ h; omega)).mono (by omega)
    · exact below_putObj (hB.setCell (p := ⟨w.heap.size, 0, none⟩) (Nat.le_refl _) _) (by omega) (by have := hS.size; omega) _
end Go.Proofs.YtcapdmicekialaaGreat
