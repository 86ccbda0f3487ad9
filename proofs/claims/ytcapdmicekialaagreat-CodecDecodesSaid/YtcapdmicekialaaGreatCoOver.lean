/- What writes over: OverTexts. -/
import Derived.Test.YtcapdmicekialaaGreatCoXDec
import Derived.Test.YtcapdmicekialaaGreatRowSet
namespace Go.Proofs.YtcapdmicekialaaGreat
open Go.RowKit
set_option linter.unusedVariables false
set_option linter.unusedSimpArgs false
attribute [local go_sem] Oper.semAt_some run_store_func run_store_nilFunc
section
variable {N : Nat} {w0 W : World} {R M : Thing}
theorem overTx_any {A : Option Addr} {n c : Nat} {xs : List Value} (hn : n ≤ 140737488351232) (H : Lies N w0 W (sepT (rowT 9 1 (.slice A n c) n xs) R)) : Calls Tryz.prog 69 #[.slice A n c] W fun e w' => e = .returned (.tuple #[]) ∧ Lies N w0 w' R := by
  have HH := Lib.hid H
  clear H
  go_enter Tryz.func69, Tryz.ntmps69
  go_wp2_with fail
  go_loopw [2] (fun ix wr => ∃ (i : Nat) (xs : List Value), ix = .int .i64 i ∧ i ≤ n ∧ Lies N w0 wr (sepT (rowT 9 1 (.slice A n c) n xs) R)) (fun ix _ => n - (intOf ix).toNat)
  case atStart => exact ⟨0, xs, rfl, Nat.zero_le _, HH.out⟩
  case round =>
    clear HH
    obtain ⟨i, ys, rfl, hi, hh⟩ := hrel
    by_cases hlt : i < n
    · have hlt' : (i : Int) < (n : Int) := by omega
      obtain ⟨g, rfl⟩ := row_addr hh.row (by omega)
      have hfz := (row_cells hh.row).1
      have f0 := hfz i
      have c0 := row_get hh.row i (by omega)
      have HZ := Lib.hid (hh.setRow i (by omega) (.string ⟨#[119, 114, 105, 116, 116, 101, 110, 32, 111, 118, 101, 114]⟩))
      clear hh hfz
      generalize ys.getD i undef = u0 at c0
      go_wp2_with fail
      exact ⟨⟨i + 1, _, by go_num, by omega, HZ.out⟩, by simp [intOf]; omega⟩
    · have hlt' : ¬ (i : Int) < (n : Int) := by omega
      have HZ := Lib.hid hh.drop
      clear hh
      go_wp2_with fail
      go_end0
      exact ⟨rfl, HZ.out⟩
end
end Go.Proofs.YtcapdmicekialaaGreat
