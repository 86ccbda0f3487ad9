/- New, Calls, Height, Return. -/
import Derived.Test.YtiaeckljpdhagaaFrTake
namespace Go.Proofs.Ytiaeckljpdhagaa
open Go.RowKit
attribute [local go_sem] Oper.semAt_some run_store_func run_store_nilFunc
theorem new_bad (most : Int) (w : World) (h : most < 1 ∨ 200 < most) : Calls Try.prog 18 #[.int .i64 most] w fun e w' => e = .returned (.tuple #[.pointer none, .int .i64 3]) ∧ w = w' := by
  by_cases h1 : most < 1
  · go_enter Try.func18, Try.ntmps18
    go_wp2
    go_ret2
    exact ⟨rfl, rfl⟩
  · have h2 : 200 < most := by omega
    go_enter Try.func18, Try.ntmps18
    go_wp2
    go_ret2
    exact ⟨rfl, rfl⟩
theorem new_good {N : Nat} {w0 W : World} {R : Thing} (most : Int) (h1 : 1 ≤ most) (h2 : most ≤ 200) (H : Lies N w0 W R) : Calls Try.prog 18 #[.int .i64 most] W fun e w' => ∃ p, e = .returned (.tuple #[.pointer (some ⟨p, 0, none⟩), .int .i64 0]) ∧ Lies N w0 w' (sepT (framesT p most []) R) := by
  have h1' : ¬ most < 1 := by omega
  have h2' : ¬ 200 < most := by omega
  have HH := Lib.hid (H.newBlk 71 #[.slice none 0 0, .int .i64 most])
  clear H
  go_enter Try.func18, Try.ntmps18
  go_wp2
  go_ret2
  refine ⟨_, rfl, frames_whole (sl := .slice none 0 0) (cs := []) rfl ⟨h1, h2, by simp; omega⟩ ?_⟩
  have h3 := (HH.out.add (rowT 78 1 (.slice none 0 0) 0 []) (Only.refl _ _) ⟨_, ⟨World.ownsRow_nil _ _ _ _, rfl⟩, fun b hb => by simp [Value.ownBlock] at hb⟩)
  refine h3.turn ?_
  show _ = sepT _ (sepT (rowT 78 1 (.slice none 0 0) 0 []) (sepT empT R))
  rw [empT_sep]
  ac_rfl
theorem calls_any {N : Nat} {w0 W : World} {R : Thing} {p : Nat} {most : Int} {fr : List Cal} (H : Lies N w0 W (sepT (framesT p most fr) R)) : Calls Try.prog 31 #[.pointer (some ⟨p, 0, none⟩)] W fun e w' => e = .returned (.int .i64 fr.length) ∧ Lies N w0 w' (sepT (framesT p most fr) R) := by
  obtain ⟨sl, cs, _, hm, H1⟩ := frames_parts H
  have hb := H1.blk.1
  obtain ⟨A, c, rfl, _⟩ := own_form H1.drop.row
  have c0 := hb.cell 0
  have c1 := hb.cell 1
  simp at c0 c1
  have hm0 : (most == 0) = false := by simp; omega
  have HH := Lib.hid H
  clear H H1 hb
  go_enter Try.func31, Try.ntmps31
  go_wp2_with fail
  refine (none_at p most W c1).mono ?_
  rintro e w' ⟨rfl, rfl⟩
  go_wp2
  go_ret
  exact ⟨rfl, HH.out⟩
theorem height1_any {N : Nat} {w0 W : World} {R : Thing} {c : Nat} {k : Cal} (H : Lies N w0 W (sepT (callT c k) R)) :
    Calls Try.prog 52 #[ptrV c] W fun e w' => ∃ y z, e = .returned (.tuple #[y, z]) ∧ y = .int .i64 k.stack.length ∧ Lies N w0 w' (sepT (callT c k) R) := by
  unfold ptrV
  obtain ⟨ss, ls, la, sa, hk, H1⟩ := call_parts H
  have hsl : sa.length = k.stack.length := by rw [← hk.2.2, List.length_map]
  have c0 := H1.blk.1.cell 0
  simp at c0
  have hrow : W.ownsRow 0 30 5 ss sa.length (avV sa) := (H1.turn (a' := sepT (rowT 30 5 ss sa.length (avV sa)) (sepT (chainsT sa) (sepT (blkT c 82 #[ss, .int .i64 k.number, .int .i64 k.place, ls]) (sepT (rowsT ls la) R)))) (by unfold rowsT; ac_rfl)).row
  obtain ⟨As, cs, rfl, _⟩ := own_form hrow
  rw [hsl] at c0
  have HH := Lib.hid H
  clear H H1 hrow hk
  go_enter Try.func52, Try.ntmps52
  go_wp2
  go_ret2
  exact ⟨_, _, rfl, rfl, HH.out⟩
set_option maxRecDepth 100000 in
theorem height_any {N : Nat} {w0 W : World} {R : Thing} {p : Nat} {most : Int} {fr : List Cal} {k : Cal} (H : Lies N w0 W (sepT (framesT p most (fr ++ [k])) R)) :
    Calls Try.prog 24 #[.pointer (some ⟨p, 0, none⟩)] W fun e w' => e = .returned (.int .i64 k.stack.length) ∧ Lies N w0 w' (sepT (framesT p most (fr ++ [k])) R) := by
  obtain ⟨g, cp, cs, c, hl, hm, H⟩ := frames_top H
  obtain ⟨h0, h1, ht⟩ := frames_cells hl H
  have hm0 : (most == 0) = false := by simp; omega
  have hj := height1_any H.drew
  have HT := Lib.hid (topI_call p g fr.length cp c most (.int .i64 0) 52 #[] #[] _ _ (fun _ _ => rfl) (by omega) hm0 h0 h1 ht hj)
  have HM := Lib.hid hm
  clear H h0 h1 ht hm0 hj hm
  go_enter Try.func24, Try.ntmps24
  go_wp2_with fail
  refine HT.out.mono ?_
  rintro e w' ⟨y, z, rfl, rfl, h⟩
  have HL := Lib.hid (frames_untop hl HM.out h)
  clear h HT
  go_wp2_with fail
  go_ret
  exact ⟨rfl, HL.out⟩
end Go.Proofs.Ytiaeckljpdhagaa
