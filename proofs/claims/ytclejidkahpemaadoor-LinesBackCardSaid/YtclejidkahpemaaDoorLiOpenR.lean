/- A row of commands handed in, opened. -/
import Derived.Test.YtclejidkahpemaaDoorLiOpen
import Derived.Test.YtclejidkahpemaaDoorOpenR
import Derived.Test.YtclejidkahpemaaDoorLiSame
namespace Go.Proofs.YtclejidkahpemaaDoor
open Go.ChangeShapes Go.WideShapes Go.ChangeAt Go.RowKit
set_option linter.unusedVariables false
set_option linter.unusedSimpArgs false
section
variable {H : Type} {enc : TypeId × Value → H} {W : World}
def okC (c : Cm) : Prop := -9223372036854775808 ≤ c.n ∧ c.n ≤ 9223372036854775807
theorem rd_cmd (cs : List Value) (n : Nat) (y : DataW H × List MemPlace) (h : DataW.trod enc Tryd.prog W 0 (fun _ => true) true n 23 cs = some y) : ∃ z : Cm, cs = cmL z ∧ okC z := by
  obtain ⟨xs, n', rfl, hy, hl, hxl, hf⟩ := DataW.trod_struct Tryd.underlying23 h
  have h3 : Tryd.prog.cellsOf 23 = 3 := by kernel_rfl
  have k0 : Tryd.prog.cellsOf 3 = 1 := by kernel_rfl
  have k1 : Tryd.prog.cellsOf 9 = 1 := by kernel_rfl
  rw [h3] at hl
  obtain ⟨c0, c1, c2, rfl⟩ : ∃ c0 c1 c2, cs = [c0, c1, c2] := by
    rcases cs with _ | ⟨c0, _ | ⟨c1, _ | ⟨c2, _ | ⟨c3, cs⟩⟩⟩⟩ <;> simp at hl
    exact ⟨_, _, _, rfl⟩
  have t0 := hf 0 _ rfl
  have t1 := hf 1 _ rfl
  have t2 := hf 2 _ rfl
  simp only [List.getElem_toArray, List.getElem_cons_zero, List.getElem_cons_succ] at t0 t1 t2
  simp only [k0, k1, List.drop_zero, List.drop_succ_cons, List.take_succ_cons, List.take_zero] at t0 t1 t2
  have hx : xs.length = 3 := hxl
  rw [List.getElem?_eq_getElem (by omega)] at t0 t1 t2
  obtain ⟨s0, e0, _, _⟩ := DataW.trod_string Tryd.underlying9 t0
  obtain ⟨s1, e1, _, _⟩ := DataW.trod_string Tryd.underlying9 t1
  obtain ⟨s2, e2, _, hw⟩ := DataW.trod_int Tryd.underlying3 t2
  simp at e0 e1 e2
  subst e0 e1 e2
  exact ⟨⟨s0.data.toList, s1.data.toList, s2⟩, rfl, bd_64 hw⟩
set_option maxRecDepth 100000 in
theorem open_cmds {base : Nat} {v : Value} {d : DataW H} {p : List MemPlace} (hv : Value.okWide Tryd.prog W .any base 34 v)
    (h : DataW.Trod enc Tryd.prog W 0 (fun _ => true) true 34 v d p) : ∃ (A : Option Addr) (c : Nat) (l : List Cm), v = .slice A l.length c ∧ RowAt W A l ∧ (∀ z ∈ l, okC z) ∧ (l.length ≤ c ∧ c ≤ maxLen) := by
  obtain ⟨A, n, c, rfl⟩ := okWide_slice Tryd.underlying34 hv
  obtain ⟨fuel, hf⟩ := h
  obtain ⟨A', c', l, hc, hr, hq, hn, _⟩ := open_rows (f := cmL) (C := 3) (Q := okC) (fun z => rfl) (by decide) Tryd.underlying34 (by kernel_rfl) rd_cmd hf
  have hc' : Value.slice A n c = .slice A' l.length c' := by simpa [Value.cells] using hc
  rw [hc']
  refine ⟨A', c', l, rfl, ?_, hq, hn⟩
  cases l with
  | nil => exact .inl rfl
  | cons x l =>
    obtain ⟨ad, rfl, hlt, hcell⟩ := hr.2 (by simp)
    have h0 := hcell 0 _ rfl
    rw [Addr.add_zero'] at h0
    have hs := World.cell?_spot h0
    obtain ⟨b, o, s⟩ := ad
    simp only at hs
    subst hs
    exact .inr ⟨b, o, rfl, fun j u hu => by have := hcell j u hu; rwa [Addr.add_lit] at this⟩
end
end Go.Proofs.YtclejidkahpemaaDoor
