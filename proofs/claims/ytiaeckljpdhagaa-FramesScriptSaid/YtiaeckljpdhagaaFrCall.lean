/- Call. -/
import Derived.Test.YtiaeckljpdhagaaFrReturn
namespace Go.Proofs.Ytiaeckljpdhagaa
open Go.RowKit
attribute [local go_sem] Oper.semAt_some run_store_func run_store_nilFunc
set_option maxRecDepth 100000 in
theorem call_deep {N : Nat} {w0 W : World} {R : Thing} {p : Nat} {most : Int} {fr : List Cal} (number : Int) (x : Value) (H : Lies N w0 W (sepT (framesT p most fr) R)) (hd : most ≤ (fr.length : Int)) :
    Calls Try.prog 13 #[.pointer (some ⟨p, 0, none⟩), .int .i64 number, x] W fun e w' => e = .returned (.int .i64 11) ∧ Lies N w0 w' (sepT (framesT p most fr) R) := by
  obtain ⟨sl, cs, _, hm, H1⟩ := frames_parts H
  have hb := H1.blk.1
  obtain ⟨A, c, rfl, _⟩ := own_form H1.drop.row
  have c0 := hb.cell 0
  have c1 := hb.cell 1
  simp at c0 c1
  have hm0 : (most == 0) = false := by simp; omega
  have HH := Lib.hid H
  clear H H1 hb
  go_enter Try.func13, Try.ntmps13
  go_wp2_with fail
  refine (none_at p most W c1).mono ?_
  rintro e w' ⟨rfl, rfl⟩
  go_wp2_with fail
  go_quiet (fail)
  go_wp2_with fail
  go_ret
  exact ⟨rfl, HH.out.drewN _⟩
end Go.Proofs.Ytiaeckljpdhagaa
