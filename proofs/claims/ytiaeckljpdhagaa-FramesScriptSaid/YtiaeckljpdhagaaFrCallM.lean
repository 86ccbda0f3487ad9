/- Call. -/
import Derived.Test.YtiaeckljpdhagaaFrCall
import Derived.Test.YtiaeckljpdhagaaFrElem
namespace Go.Proofs.Ytiaeckljpdhagaa
open Go.RowKit
attribute [local go_sem] Oper.semAt_some run_store_func run_store_nilFunc
set_option maxRecDepth 100000 in
theorem call_many {N : Nat} {w0 W : World} {R : Thing} {p : Nat} {most : Int} {fr : List Cal} (number : Int) (A : Option Addr) (n c : Nat) (H : Lies N w0 W (sepT (framesT p most fr) R)) (hd : (fr.length : Int) < most) (hn : 200 < n) :
    Calls Try.prog 13 #[.pointer (some ⟨p, 0, none⟩), .int .i64 number, .slice A n c] W fun e w' => e = .returned (.int .i64 12) ∧ Lies N w0 w' (sepT (framesT p most fr) R) := by
  obtain ⟨sl, cs, _, hm, H1⟩ := frames_parts H
  have hb := H1.blk.1
  obtain ⟨Af, cf, rfl, _⟩ := own_form H1.drop.row
  have c0 := hb.cell 0
  have c1 := hb.cell 1
  simp at c0 c1
  have hm0 : (most == 0) = false := by simp; omega
  have hd' : ¬ most ≤ (fr.length : Int) := by omega
  have hn' : (200 : Int) < (n : Int) := by omega
  have HH := Lib.hid H
  clear H H1 hb
  go_enter Try.func13, Try.ntmps13
  go_wp2_with fail
  refine (none_at p most W c1).mono ?_
  rintro e w' ⟨rfl, rfl⟩
  go_wp2_with fail
  go_quiet (fail)
  go_wp2_with fail
  go_ret
  exact ⟨rfl, HH.out.drewN _⟩
def loC (i : Nat) : Nat := [0, 0, 0, 0, 0, 0, 1, 1, 2].getD i 0
def upC (i : Nat) : Nat := [2, 2, 2, 1, 0, 1, 1, 2, 3].getD i 0
set_option maxRecDepth 100000 in
set_option maxHeartbeats 800000 in
theorem call_good {N : Nat} {w0 W : World} {R : Thing} {p : Nat} {most : Int} {fr : List Cal} (number : Int) (l : List AV) (A : Option Addr) (c : Nat) (H : Lies N w0 W (sepT (framesT p most fr) R)) (hd : (fr.length : Int) < most) (hn : l.length ≤ 200) (ha : ArgRow W l A) (hlo : ∀ y ∈ l, y.1.ok) :
    Calls Try.prog 13 #[.pointer (some ⟨p, 0, none⟩), .int .i64 number, .slice A l.length c] W fun e w' => e = .returned (.int .i64 0) ∧ Lies N w0 w' (sepT (framesT p most (fr ++ [⟨number, 0, l.map (·.1), []⟩])) R) := by
  obtain ⟨sl, cs, hl, hm, H1⟩ := frames_parts H
  have hb := H1.blk.1
  obtain ⟨Af, cf, rfl, _⟩ := own_form H1.drop.row
  have c0 := hb.cell 0
  have c1 := hb.cell 1
  simp at c0 c1
  have hm0 : (most == 0) = false := by simp; omega
  have hd' : ¬ most ≤ (fr.length : Int) := by omega
  have hn' : ¬ (200 : Int) < (l.length : Int) := by omega
  have HO := Lib.hid (fun m => owned_any l A c (H1.drewN m) (ha.below (below_drewN W m)) (by omega))
  have HL := Lib.hid (And.intro hl hlo)
  have HM := Lib.hid (And.intro hm hd)
  have HN := Lib.hid hn
  clear H H1 hb ha hl hlo hm hd hn
  go_enter Try.func13, Try.ntmps13
  go_wp2_with fail
  refine (none_at p most W c1).mono ?_
  rintro e w' ⟨rfl, rfl⟩
  go_wp2_with fail
  go_quiet (fail)
  go_wp2_with fail
  refine wp_region_text [5, 7, 8] loC upC (by kernel_rfl) (by kernel_rfl) (by kernel_rfl) (by kernel_rfl) (by kernel_rfl) ?_
  repeat (first | (refine wpTx_now (by rfl) (by rfl) (by rfl) (fun K hK => ?_); go_simp; refine hK _ ?_; clear hK K) | (refine wpTx_late [] (by rfl) (by rfl) (by rfl) (fun K hK => ?_); go_simp; refine hK _ _ ?_; clear hK K))
  refine wpTx_eff (by rfl) (fun K hK => ?_)
  go_simp
  refine (HO.out _).mono ?_
  rintro e w1 ⟨sl2, la, rfl, hla, h⟩
  obtain ⟨A2, c2, rfl, _⟩ := own_form (h.turn (a' := sepT (rowT 30 5 sl2 la.length (avV la)) (sepT (chainsT la) (sepT (blkT p 71 #[.slice Af fr.length cf, .int .i64 most]) (sepT (rowT 78 1 (.slice Af fr.length cf) fr.length (cs.map ptrV)) (sepT (callsT cs fr) R))))) (by unfold rowsT; ac_rfl)).row
  refine ⟨_, rfl, hK _ _ ?_ ?_⟩
  · repeat (first | exact lateOK_nil | refine lateOK_skip (by rfl) ?_ | refine lateOK_cons (by go_simp) ?_)
  clear hK K HO
  have HL2 := Lib.hid hla
  have hl5 : la.length ≤ 200 := by have := congrArg List.length hla; simp at this; have := HN.out; omega
  have HH := Lib.hid h
  clear h hla
  repeat (refine wpTx_now (by rfl) (by rfl) (by rfl) (fun K hK => ?_); go_simp; refine hK _ ?_; clear hK K)
  refine wpTx_eff (by rfl) (fun K hK => ?_)
  go_simp
  refine hK _ _ (by repeat (first | exact lateOK_nil | refine lateOK_skip (by rfl) ?_ | refine lateOK_cons (by go_simp) ?_)) ?_
  clear hK K
  have h2 := HH.out.newBlk 82 #[.slice none 0 0, .int .i64 number, .int .i64 0, .slice A2 la.length c2]
  have h3 := (h2.add (rowT 30 5 (.slice none 0 0) 0 []) (Only.refl _ _) ⟨_, ⟨World.ownsRow_nil _ _ _ _, rfl⟩, fun b hb => by simp [Value.ownBlock] at hb⟩)
  have h4 : Lies N w0 (w1.alloc (.cells #[.slice none 0 0, .int .i64 number, .int .i64 0, .slice A2 la.length c2] 82)) (sepT (callT w1.heap.size ⟨number, 0, l.map (·.1), []⟩) (sepT (blkT p 71 #[.slice Af fr.length cf, .int .i64 most]) (sepT (rowT 78 1 (.slice Af fr.length cf) fr.length (cs.map ptrV)) (sepT (callsT cs fr) R)))) := by
    refine call_whole (k := ⟨number, 0, l.map (·.1), []⟩) (la := la) (sa := []) (ss := .slice none 0 0) (ls := .slice A2 la.length c2) ⟨⟨?_, ?_, ?_, ?_⟩, HL2.out, rfl⟩ (h3.turn ?_)
    · show (l.map (·.1)).length ≤ 200
      rw [List.length_map]; exact HN.out
    · show (0 : Nat) ≤ 5000
      omega
    · intro v hv
      obtain ⟨y, hy, rfl⟩ := List.mem_map.1 hv
      exact HL.out.2 y hy
    · intro v hv; cases hv
    · show _ = sepT _ (sepT _ (sepT (sepT (rowT 30 5 (.slice none 0 0) 0 []) empT) _))
      rw [sep_empT]
      ac_rfl
  have HP := Lib.hid (pushC_any p _ _ fr.length w1.heap.size _ (h4.turn (a' := sepT (blkT p 71 #[.slice Af fr.length cf, .int .i64 most]) (sepT (rowT 78 1 (.slice Af fr.length cf) fr.length (cs.map ptrV)) (sepT (callT w1.heap.size ⟨number, 0, l.map (·.1), []⟩) (sepT (callsT cs fr) R)))) (by ac_rfl)) (by have := HM.out; omega))
  unfold ptrV at HP
  clear h2 h3 h4 HH
  refine wpTx_eff (by rfl) (fun K hK => ?_)
  go_simp
  refine HP.out.mono ?_
  rintro e w2 ⟨rfl, sl', h⟩
  refine ⟨_, rfl, hK _ _ (by repeat (first | exact lateOK_nil | refine lateOK_skip (by rfl) ?_)) ?_⟩
  clear hK K HP
  have h5 : Lies N w0 w2 (sepT (framesT p most (fr ++ [⟨number, 0, l.map (·.1), []⟩])) R) := by
    refine frames_whole (sl := sl') (cs := cs ++ [w1.heap.size]) (by simp [HL.out.1]) ⟨HM.out.1.1, HM.out.1.2.1, by have := HM.out; simp; omega⟩ (h.turn ?_)
    rw [callsT_snoc HL.out.1, List.map_append, List.length_append, List.length_singleton]
    show sepT _ (sepT (rowT 78 1 sl' (fr.length + 1) (cs.map ptrV ++ [ptrV w1.heap.size])) _) = _
    ac_rfl
  have HF := Lib.hid h5
  clear h h5
  refine wpTx_nil ?_
  go_wp2_with fail
  go_ret
  exact ⟨rfl, HF.out⟩
end Go.Proofs.Ytiaeckljpdhagaa
