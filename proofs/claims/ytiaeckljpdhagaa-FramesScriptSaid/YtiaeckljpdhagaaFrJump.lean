/- New, Calls, Jump. -/
import Derived.Test.YtiaeckljpdhagaaFrOpen
namespace Go.Proofs.Ytiaeckljpdhagaa
open Go.RowKit
attribute [local go_sem] Oper.semAt_some run_store_func run_store_nilFunc
/-- A call taken apart. -/
theorem call_parts {N : Nat} {w0 W : World} {R : Thing} {c : Nat} {k : Cal} (H : Lies N w0 W (sepT (callT c k) R)) : ∃ ss ls la sa, (k.ok ∧ la.map (·.1) = k.locals ∧ sa.map (·.1) = k.stack) ∧
    Lies N w0 W (sepT (blkT c 82 #[ss, .int .i64 k.number, .int .i64 k.place, ls]) (sepT (rowsT ls la) (sepT (rowsT ss sa) R))) := by
  obtain ⟨⟨⟨ss, ls⟩, la, sa⟩, H⟩ := H.ex
  rw [sepT_assoc] at H
  obtain ⟨h, H⟩ := H.fact
  exact ⟨ss, ls, la, sa, h, H.turn (by ac_rfl)⟩
theorem call_whole {N : Nat} {w0 W : World} {R : Thing} {c : Nat} {k : Cal} {ss ls : Value} {la sa : List AV} (h : k.ok ∧ la.map (·.1) = k.locals ∧ sa.map (·.1) = k.stack)
    (H : Lies N w0 W (sepT (blkT c 82 #[ss, .int .i64 k.number, .int .i64 k.place, ls]) (sepT (rowsT ls la) (sepT (rowsT ss sa) R)))) : Lies N w0 W (sepT (callT c k) R) := by
  refine Lies.intro ((ss, ls), la, sa) ?_
  rw [sepT_assoc]
  exact (H.turn (by ac_rfl)).withFact h
def Cal.jump (k : Cal) (place : Int) : Cal := if place < 0 then k else { k with place := place }
def jumpE (place : Int) : Int := if place < 0 then 3 else 0
set_option maxRecDepth 100000 in
theorem jump1_any {N : Nat} {w0 W : World} {R : Thing} {c b : Nat} {k : Cal} (place : Int) (H : Lies N w0 W (sepT (callT c k) R)) (hb : W.cell? ⟨b, 0, none⟩ = some (.int .i64 place)) :
    Calls Try.prog 37 #[ptrV c, .pointer (some ⟨b, 0, none⟩)] W fun e w' => ∃ y z, e = .returned (.tuple #[y, z]) ∧ z = .int .i64 (jumpE place) ∧ Lies N w0 w' (sepT (callT c (k.jump place)) R) := by
  unfold ptrV
  by_cases hp : place < 0
  · have HE : Hid (jumpE place = 3 ∧ k.jump place = k) := ⟨if_pos hp, if_pos hp⟩
    have HH := Lib.hid H
    clear H
    go_enter Try.func37, Try.ntmps37
    go_wp2
    go_ret2
    rw [HE.out.1, HE.out.2]
    exact ⟨_, _, rfl, rfl, HH.out⟩
  · have HE : Hid (jumpE place = 0 ∧ k.jump place = { k with place := place }) := ⟨if_neg hp, if_neg hp⟩
    obtain ⟨ss, ls, la, sa, hk, H⟩ := call_parts H
    have HK := Lib.hid hk
    have HH := Lib.hid H
    have c2 := H.blk.1.cell 2
    have f2 := H.blk.1.frozen 2
    simp at c2
    clear H hk
    go_enter Try.func37, Try.ntmps37
    go_wp2
    go_ret2
    rw [HE.out.1, HE.out.2]
    exact ⟨_, _, rfl, rfl, call_whole (k := { k with place := place }) HK.out (HH.out.setBlk 2 (.int .i64 place))⟩
set_option maxRecDepth 100000 in
theorem jump_any {N : Nat} {w0 W : World} {R : Thing} {p : Nat} {most : Int} {fr : List Cal} {k : Cal} (place : Int) (H : Lies N w0 W (sepT (framesT p most (fr ++ [k])) R)) :
    Calls Try.prog 9 #[ptrV p, .int .i64 place] W fun e w' => e = .returned (.int .i64 (jumpE place)) ∧ Lies N w0 w' (sepT (framesT p most (fr ++ [k.jump place])) R) := by
  obtain ⟨g, cp, cs, c, hl, hm, H⟩ := frames_top (H.alloc (.cells #[.int .i64 place] 3))
  obtain ⟨h0, h1, ht⟩ := frames_cells hl H
  have hm0 : (most == 0) = false := by simp; omega
  have hj := jump1_any (b := W.heap.size) place H.drew ((Blk.new W 3 #[.int .i64 place]).cell 0)
  have HT := Lib.hid (topI_call p g fr.length cp c most (.int .i64 0) 37 #[] #[.pointer (some ⟨W.heap.size, 0, none⟩)] _ _ (fun _ _ => rfl) (by omega) hm0 h0 h1 ht hj)
  have hmf : ∀ fn first cap (w : World), (Instr.makeFunc fn first cap).run Try.prog w = .ok (.func fn first cap) w := fun _ _ _ _ => rfl
  have HM := Lib.hid hm
  clear H h0 h1 ht hm0 hj hm
  unfold ptrV
  go_enter Try.func9, Try.ntmps9
  go_wp2_with fail
  refine HT.out.mono ?_
  rintro e w' ⟨y, z, rfl, rfl, h⟩
  have HL := Lib.hid (frames_untop hl HM.out h)
  clear h HT
  go_wp2_with fail
  go_ret
  exact ⟨rfl, HL.out⟩
end Go.Proofs.Ytiaeckljpdhagaa
