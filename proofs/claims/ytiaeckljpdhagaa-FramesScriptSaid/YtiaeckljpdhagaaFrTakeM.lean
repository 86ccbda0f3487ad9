/- Take, Pop. -/
import Derived.Test.YtiaeckljpdhagaaFrElem
namespace Go.Proofs.Ytiaeckljpdhagaa
open Go.RowKit
attribute [local go_sem] Oper.semAt_some run_store_func run_store_nilFunc
def Cal.takeE (k : Cal) (n : Int) : Int := if n < 0 then 3 else if (k.stack.length : Int) < n then 15 else 0
def Cal.take (k : Cal) (n : Int) : Cal := if k.takeE n = 0 then { k with stack := k.stack.take (k.stack.length - n.toNat) } else k
def Cal.taken (k : Cal) (n : Int) : List Val := if k.takeE n = 0 then k.stack.drop (k.stack.length - n.toNat) else []
def loK (i : Nat) : Nat := [0, 0, 0, 0, 0, 1, 1].getD i 0
def upK (i : Nat) : Nat := [0, 0, 0, 0, 1, 1, 1].getD i 0
theorem takeV_nil {N : Nat} {w0 W : World} {R : Thing} (c : Nat) (m m2 m3 : Value) (H : Lies N w0 W (sepT (blkT c 82 #[.slice none 0 0, m, m2, m3]) R)) :
    Calls Try.prog 51 #[.pointer (some ⟨c, 0, none⟩), .int .i64 0] W fun e w' => e = .returned (.slice none 0 0) ∧ Lies N w0 w' (sepT (blkT c 82 #[.slice none 0 0, m, m2, m3]) R) := by
  have c0 := H.blk.1.cell 0
  have f0 := H.blk.1.frozen 0
  simp at c0
  have HF := Lib.hid (H.setBlk 0 (.slice none 0 0))
  clear H
  go_enter Try.func51, Try.ntmps51
  go_wp2_with fail
  refine (cloneV_nil _ _ _).mono ?_
  rintro e w1 ⟨rfl, rfl⟩
  go_wp2
  go_ret
  exact ⟨rfl, HF.out⟩
set_option maxRecDepth 100000 in
set_option maxHeartbeats 800000 in
theorem take1_any {N : Nat} {w0 W : World} {R : Thing} {c b : Nat} {k : Cal} (n : Int) (H : Lies N w0 W (sepT (callT c k) R)) (hb : W.cell? ⟨b, 0, none⟩ = some (.int .i64 n)) :
    Calls Try.prog 50 #[ptrV c, .pointer (some ⟨b, 0, none⟩)] W fun e w' => ∃ y z, e = .returned (.tuple #[y, z]) ∧ z = .int .i64 (k.takeE n) ∧ Lies N w0 w' (sepT (valsT (k.taken n) y) (sepT (callT c (k.take n)) R)) := by
  unfold ptrV
  by_cases h0 : n < 0
  · have HE : Hid (k.takeE n = 3 ∧ k.take n = k ∧ k.taken n = []) := by
      have h : k.takeE n = 3 := if_pos h0
      exact ⟨h, by simp [Cal.take, h], by simp [Cal.taken, h]⟩
    have HH := Lib.hid H
    clear H
    go_enter Try.func50, Try.ntmps50
    go_wp2
    go_ret2
    rw [HE.out.1, HE.out.2.1, HE.out.2.2]
    exact ⟨_, _, rfl, rfl, vals_nil HH.out⟩
  · obtain ⟨j, rfl⟩ : ∃ j : Nat, n = j := ⟨n.toNat, by omega⟩
    obtain ⟨ss, ls, la, sa, hk, H1⟩ := call_parts H
    have hsl : sa.length = k.stack.length := by rw [← hk.2.2, List.length_map]
    have c0 := H1.blk.1.cell 0
    simp at c0
    have H2 : Lies N w0 W (sepT (blkT c 82 #[ss, .int .i64 k.number, .int .i64 k.place, ls]) (sepT (rowT 30 5 ss sa.length (avV sa)) (sepT (chainsT sa) (sepT (rowsT ls la) R)))) := H1.turn (by unfold rowsT; ac_rfl)
    obtain ⟨As, cs, rfl, _⟩ := own_form H2.drop.row
    by_cases h1 : sa.length < j
    · have HE : Hid (k.takeE j = 15 ∧ k.take j = k ∧ k.taken j = []) := by
        have h : k.takeE j = 15 := by unfold Cal.takeE; rw [if_neg h0, if_pos (by omega)]
        exact ⟨h, by simp [Cal.take, h], by simp [Cal.taken, h]⟩
      have h1' : (sa.length : Int) < (j : Int) := by omega
      have HH := Lib.hid H
      clear H H1 H2 hk hsl
      go_enter Try.func50, Try.ntmps50
      go_wp2
      go_quiet (fail)
      go_wp2
      go_ret2
      rw [HE.out.1, HE.out.2.1, HE.out.2.2]
      exact ⟨_, _, rfl, rfl, vals_nil (HH.out.drewN _)⟩
    · have hE : k.takeE j = 0 := by unfold Cal.takeE; rw [if_neg h0, if_neg (by omega)]
      have HE : Hid (k.takeE j = 0 ∧ k.take j = { k with stack := (sa.take (sa.length - j)).map (·.1) } ∧ k.taken j = (sa.drop (sa.length - j)).map (·.1)) :=
        ⟨hE, by simp [Cal.take, hE, List.map_take, hk.2.2, hsl], by simp [Cal.taken, hE, List.map_drop, hk.2.2, hsl]⟩
      have h1' : ¬ (sa.length : Int) < (j : Int) := by omega
      have hlen : sa.length ≤ 5000 := by have := hk.1.2.1; omega
      have HT : Hid (∀ m, Calls Try.prog 51 #[.pointer (some ⟨c, 0, none⟩), .int .i64 j] (W.drewN m) fun e w' => ∃ y, e = .returned y ∧ Lies N w0 w' (sepT (valsT (k.taken j) y) (sepT (callT c (k.take j)) R))) := by
        refine Lib.hid fun m => ?_
        rcases H2.drop.row.2 with ⟨hnil, _⟩ | ⟨g, cap, _, hsome, _⟩
        · obtain ⟨rfl, hz, rfl⟩ : As = none ∧ sa.length = 0 ∧ cs = 0 := by injection hnil with h1 h2 h3; exact ⟨h1, h2, h3⟩
          obtain rfl : j = 0 := by omega
          have hsa : sa = [] := List.length_eq_zero_iff.1 hz
          subst hsa
          refine (takeV_nil c _ _ _ (H2.drewN m)).mono ?_
          rintro e w1 ⟨rfl, h⟩
          refine ⟨_, rfl, ?_⟩
          have e1 : k.taken ((0 : Nat) : Int) = [] := by rw [HE.out.2.2]; rfl
          have e2 : k.take ((0 : Nat) : Int) = k := by rw [HE.out.2.1]; cases k; simpa using hk.2.2
          rw [e1, e2]
          refine vals_nil (call_whole (la := la) (sa := []) hk (ss := .slice none 0 0) (ls := ls) (h.turn ?_))
          unfold rowsT
          ac_rfl
        · obtain ⟨rfl, rfl⟩ : As = some ⟨g, 0, none⟩ ∧ cs = cap := by injection hsome with h1 h2 h3; exact ⟨h1, h3⟩
          have hch := chains_are (H2.drop.drop) (fun y hy => hk.1.2.2.2 _ (by rw [← hk.2.2]; exact List.mem_map.2 ⟨y, hy, rfl⟩))
          refine (takeV_any c g sa.length j cs _ _ _ (avV sa) (avV_one hch) (H2.drewN m) (by omega) hlen).mono ?_
          rintro e w1 ⟨A, c2, rfl, h⟩
          refine ⟨_, rfl, ?_⟩
          rw [HE.out.2.1, HE.out.2.2]
          refine vals_in (la := sa.drop (sa.length - j)) rfl ?_
          refine (call_whole (k := { k with stack := (sa.take (sa.length - j)).map (·.1) }) (la := la) (sa := sa.take (sa.length - j)) (ss := .slice (some ⟨g, 0, none⟩) (sa.length - j) cs) (ls := ls) (R := sepT (rowsT (.slice A j c2) (sa.drop (sa.length - j))) R) ⟨⟨hk.1.1, ?_, hk.1.2.2.1, ?_⟩, hk.2.1, rfl⟩ (h.turn ?_)).turn (by ac_rfl)
          · rw [List.length_map, List.length_take]; omega
          · intro v hv
            obtain ⟨y, hy, rfl⟩ := List.mem_map.1 hv
            exact hk.1.2.2.2 _ (by rw [← hk.2.2]; exact List.mem_map.2 ⟨y, List.mem_of_mem_take hy, rfl⟩)
          · unfold rowsT
            rw [chainsT_cut sa (sa.length - j), avV_take, avV_drop, List.length_take, List.length_drop, show min (sa.length - j) sa.length = sa.length - j by omega, show sa.length - (sa.length - j) = j by omega]
            ac_rfl
      have hcp : Hid (sa.length ≤ 5000) := Lib.hid hlen
      clear H H1 H2 hk hsl hE
      go_enter Try.func50, Try.ntmps50
      go_wp2
      go_quiet (fail)
      go_wp2
      refine wp_region_text [4] loK upK (by kernel_rfl) (by kernel_rfl) (by kernel_rfl) (by kernel_rfl) (by kernel_rfl) ?_
      repeat (refine wpTx_now (by rfl) (by rfl) (by rfl) (fun K hK => ?_); go_simp; refine hK _ ?_; clear hK K)
      refine wpTx_eff (by rfl) (fun K hK => ?_)
      go_simp
      refine (HT.out _).mono ?_
      rintro e w1 ⟨y, rfl, h⟩
      refine ⟨_, rfl, hK _ _ (by simp [lateOK]) ?_⟩
      clear hK K HT
      have HN := Lib.hid h
      clear h
      repeat (refine wpTx_now (by rfl) (by rfl) (by rfl) (fun K hK => ?_); go_simp; refine hK _ ?_; clear hK K)
      refine wpTx_nil ?_
      go_wp2_with fail
      go_ret2
      rw [HE.out.1]
      exact ⟨_, _, rfl, rfl, HN.out⟩
set_option maxRecDepth 100000 in
theorem take_any {N : Nat} {w0 W : World} {R : Thing} {p : Nat} {most : Int} {fr : List Cal} {k : Cal} (n : Int) (H : Lies N w0 W (sepT (framesT p most (fr ++ [k])) R)) :
    Calls Try.prog 22 #[.pointer (some ⟨p, 0, none⟩), .int .i64 n] W fun e w' => ∃ y, e = .returned (.tuple #[y, .int .i64 (k.takeE n)]) ∧ Lies N w0 w' (sepT (valsT (k.taken n) y) (sepT (framesT p most (fr ++ [k.take n])) R)) := by
  obtain ⟨g, cp, cs, c, hl, hm, H⟩ := frames_top (H.alloc (.cells #[.int .i64 n] 3))
  obtain ⟨h0, h1, ht⟩ := frames_cells hl H
  have hm0 : (most == 0) = false := by simp; omega
  have hj := take1_any (b := W.heap.size) n H.drew ((Blk.new W 3 #[.int .i64 n]).cell 0)
  have HT := Lib.hid (topL_call p g fr.length cp c most (.slice none 0 0) 50 #[] #[.pointer (some ⟨W.heap.size, 0, none⟩)] _ _ (fun _ _ => rfl) (by omega) hm0 h0 h1 ht hj)
  have hmf : ∀ fn first cap (w : World), (Instr.makeFunc fn first cap).run Try.prog w = .ok (.func fn first cap) w := fun _ _ _ _ => rfl
  have HM := Lib.hid hm
  clear H h0 h1 ht hm0 hj hm
  go_enter Try.func22, Try.ntmps22
  go_wp2_with fail
  refine HT.out.mono ?_
  rintro e w' ⟨y, z, rfl, rfl, h⟩
  have HL := Lib.hid (frames_untop hl HM.out (R := sepT (valsT (k.taken n) y) R) (h.turn (by ac_rfl)))
  clear h HT
  go_wp2_with fail
  go_ret2
  exact ⟨_, rfl, HL.out.turn (by ac_rfl)⟩
end Go.Proofs.Ytiaeckljpdhagaa
