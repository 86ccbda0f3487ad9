/- Acts handed in, opened. -/
import Derived.Test.YtiaeckljpdhagaaFrPick
import Derived.Test.YtiaeckljpdhagaaOpenR
namespace Go.Proofs.Ytiaeckljpdhagaa
open Go.ChangeShapes Go.WideShapes Go.ChangeAt Go.RowKit
set_option linter.unusedVariables false
set_option linter.unusedSimpArgs false
section
variable {H : Type} {enc : TypeId × Value → H} {W : World}
theorem rd_layer {cs : List Value} {n : Nat} {y : DataW H × List MemPlace} (h : DataW.trod enc Try.prog W 0 (fun _ => true) true n 104 cs = some y) : ∃ z : Bool × ByteArray × Int, cs = [.bool z.1, .string z.2.1, .int .i64 z.2.2] ∧ True := by
  obtain ⟨xs, n', rfl, _, hl, hxl, hf⟩ := DataW.trod_struct Try.underlying104 h
  have h3 : Try.prog.cellsOf 104 = 3 := by kernel_rfl
  have k1 : Try.prog.cellsOf 4 = 1 := by kernel_rfl
  have k2 : Try.prog.cellsOf 9 = 1 := by kernel_rfl
  have k3 : Try.prog.cellsOf 3 = 1 := by kernel_rfl
  rw [h3] at hl
  obtain ⟨c0, c1, c2, rfl⟩ : ∃ c0 c1 c2, cs = [c0, c1, c2] := by
    rcases cs with _ | ⟨c0, _ | ⟨c1, _ | ⟨c2, _ | ⟨c3, cs⟩⟩⟩⟩ <;> simp at hl
    exact ⟨_, _, _, rfl⟩
  have t0 := hf 0 _ rfl
  have t1 := hf 1 _ rfl
  have t2 := hf 2 _ rfl
  simp only [List.getElem_toArray, List.getElem_cons_zero, List.getElem_cons_succ] at t0 t1 t2
  simp only [k1, k2, k3, List.drop_zero, List.drop_succ_cons, List.take_succ_cons, List.take_zero] at t0 t1 t2
  have hx : xs.length = 3 := hxl
  rw [List.getElem?_eq_getElem (by omega)] at t0 t1 t2
  obtain ⟨a, e0, _⟩ := DataW.trod_bool Try.underlying4 t0
  obtain ⟨s, e1, _⟩ := DataW.trod_string Try.underlying9 t1
  obtain ⟨k, e2, _⟩ := DataW.trod_int Try.underlying3 t2
  simp at e0 e1 e2
  subst e0 e1 e2
  exact ⟨(a, s, k), rfl, trivial⟩
/-- A chain that was handed in. -/
def InCh (W : World) (z : AV) : Prop := ∃ A c, z.2 = .slice A z.1.lay.length c ∧ Reads W W.heap.size 3 A z.1.lay.length (layV z.1.lay) ∧ z.1.lay.length ≤ maxLen
theorem rd_value {cs : List Value} {n : Nat} {y : DataW H × List MemPlace} (h : DataW.trod enc Try.prog W 0 (fun _ => true) true n 30 cs = some y) : ∃ z : AV, cs = z.1.cs z.2 ∧ InCh W z := by
  obtain ⟨xs, n', rfl, _, hl, hxl, hf⟩ := DataW.trod_struct Try.underlying30 h
  have h3 : Try.prog.cellsOf 30 = 5 := by kernel_rfl
  have k1 : Try.prog.cellsOf 27 = 1 := by kernel_rfl
  have k2 : Try.prog.cellsOf 9 = 1 := by kernel_rfl
  have k3 : Try.prog.cellsOf 3 = 1 := by kernel_rfl
  have k4 : Try.prog.cellsOf 28 = 1 := by kernel_rfl
  rw [h3] at hl
  obtain ⟨c0, c1, c2, c3, c4, rfl⟩ : ∃ c0 c1 c2 c3 c4, cs = [c0, c1, c2, c3, c4] := by
    rcases cs with _ | ⟨c0, _ | ⟨c1, _ | ⟨c2, _ | ⟨c3, _ | ⟨c4, _ | ⟨c5, cs⟩⟩⟩⟩⟩⟩ <;> simp at hl
    exact ⟨_, _, _, _, _, rfl⟩
  have t0 := hf 0 _ rfl
  have t1 := hf 1 _ rfl
  have t2 := hf 2 _ rfl
  have t3 := hf 3 _ rfl
  have t4 := hf 4 _ rfl
  simp only [List.getElem_toArray, List.getElem_cons_zero, List.getElem_cons_succ] at t0 t1 t2 t3 t4
  simp only [k1, k2, k3, k4, List.drop_zero, List.drop_succ_cons, List.take_succ_cons, List.take_zero] at t0 t1 t2 t3 t4
  have hx : xs.length = 5 := hxl
  rw [List.getElem?_eq_getElem (by omega)] at t0 t1 t2 t3 t4
  obtain ⟨a, e0, _⟩ := DataW.trod_int Try.underlying3 t0
  obtain ⟨b, e1, _⟩ := DataW.trod_int Try.underlying3 t1
  obtain ⟨k, e2, _⟩ := DataW.trod_int Try.underlying27 t2
  obtain ⟨s, e3, _⟩ := DataW.trod_string Try.underlying9 t3
  obtain ⟨A, c, zs, e4, hr, _, hc, _⟩ := open_rows (f := fun z : Bool × ByteArray × Int => [Value.bool z.1, .string z.2.1, .int .i64 z.2.2]) (C := 3) (Q := fun _ => True) (fun _ => rfl) (by decide) Try.underlying28 (by kernel_rfl) (fun cs n y h => rd_layer h) t4
  simp at e0 e1 e2 e3 e4
  subst e0 e1 e2 e3 e4
  exact ⟨(⟨a, b, k, s, zs⟩, .slice A zs.length c), rfl, A, c, rfl, hr, Nat.le_trans hc.1 hc.2⟩
/-- An act. -/
structure ActD where
  kind : Int
  n : Int
  v : AV
  l : List AV
  ls : Value
def ActD.cs (z : ActD) : List Value := [.int .i64 z.kind, .int .i64 z.n] ++ z.v.1.cs z.v.2 ++ [z.ls]
/-- Values that were handed in. -/
def InVs (W : World) (l : List AV) (x : Value) : Prop := ∃ A c, x = .slice A l.length c ∧ Reads W W.heap.size 5 A l.length (avV l) ∧ (∀ y ∈ l, InCh W y) ∧ l.length ≤ maxLen
def ActD.In (W : World) (z : ActD) : Prop := InCh W z.v ∧ InVs W z.l z.ls
theorem rd_values {cs : List Value} {n : Nat} {y : DataW H × List MemPlace} (h : DataW.trod enc Try.prog W 0 (fun _ => true) true n 31 cs = some y) : ∃ l x, cs = [x] ∧ InVs W l x := by
  obtain ⟨A, c, zs, e4, hr, hq, hc, _⟩ := open_rows (f := fun z : AV => z.1.cs z.2) (C := 5) (Q := InCh W) (fun _ => rfl) (by decide) Try.underlying31 (by kernel_rfl) (fun cs n y h => rd_value h) h
  exact ⟨zs, _, e4, A, c, rfl, hr, hq, Nat.le_trans hc.1 hc.2⟩
theorem rd_act {cs : List Value} {n : Nat} {y : DataW H × List MemPlace} (h : DataW.trod enc Try.prog W 0 (fun _ => true) true n 58 cs = some y) : ∃ z : ActD, cs = z.cs ∧ z.In W := by
  obtain ⟨xs, n', rfl, _, hl, hxl, hf⟩ := DataW.trod_struct Try.underlying58 h
  have h3 : Try.prog.cellsOf 58 = 8 := by kernel_rfl
  have k2 : Try.prog.cellsOf 30 = 5 := by kernel_rfl
  have k3 : Try.prog.cellsOf 3 = 1 := by kernel_rfl
  have k4 : Try.prog.cellsOf 31 = 1 := by kernel_rfl
  rw [h3] at hl
  obtain ⟨c0, c1, c2, c3, c4, c5, c6, c7, rfl⟩ : ∃ c0 c1 c2 c3 c4 c5 c6 c7, cs = [c0, c1, c2, c3, c4, c5, c6, c7] := by
    rcases cs with _ | ⟨c0, _ | ⟨c1, _ | ⟨c2, _ | ⟨c3, _ | ⟨c4, _ | ⟨c5, _ | ⟨c6, _ | ⟨c7, _ | ⟨c8, cs⟩⟩⟩⟩⟩⟩⟩⟩⟩ <;> simp at hl
    exact ⟨_, _, _, _, _, _, _, _, rfl⟩
  have t0 := hf 0 _ rfl
  have t1 := hf 1 _ rfl
  have t2 := hf 2 _ rfl
  have t3 := hf 3 _ rfl
  simp only [List.getElem_toArray, List.getElem_cons_zero, List.getElem_cons_succ] at t0 t1 t2 t3
  simp only [k2, k3, k4, List.drop_zero, List.drop_succ_cons, List.take_succ_cons, List.take_zero] at t0 t1 t2 t3
  have hx : xs.length = 4 := hxl
  rw [List.getElem?_eq_getElem (by omega)] at t0 t1 t2 t3
  obtain ⟨a, e0, _⟩ := DataW.trod_int Try.underlying3 t0
  obtain ⟨b, e1, _⟩ := DataW.trod_int Try.underlying3 t1
  obtain ⟨v, e2, hv⟩ := rd_value t2
  obtain ⟨l, x, e3, hl2⟩ := rd_values t3
  simp at e0 e1 e3
  subst e0 e1 e3
  refine ⟨⟨a, b, v, l, c7⟩, ?_, hv, hl2⟩
  show _ = [.int .i64 a, .int .i64 b] ++ v.1.cs v.2 ++ [c7]
  rw [← e2]
  rfl
set_option maxRecDepth 100000 in
theorem open_acts {base : Nat} {v : Value} {d : DataW H} {p : List MemPlace} (hv : Value.okWide Try.prog W .any base 51 v)
    (h : DataW.Trod enc Try.prog W 0 (fun _ => true) true 51 v d p) (hs : ∀ elems spare, d = .slice elems spare → (elems.length + spare.length) * Try.prog.bytesOf 58 ≤ reachBytes) :
    ∃ (A : Option Addr) (c : Nat) (xs : List ActD), v = .slice A xs.length c ∧ Reads W W.heap.size 8 A xs.length (xs.flatMap ActD.cs) ∧ (∀ z ∈ xs, z.In W) ∧ (xs.length ≤ c ∧ xs.length ≤ 140737488351232) := by
  obtain ⟨a0, len, cap, rfl⟩ := okWide_slice Try.underlying51 hv
  obtain ⟨fuel, hf⟩ := h
  obtain ⟨A, c, zs, hcs, hr, hq, hc, hE⟩ := open_rows (f := ActD.cs) (C := 8) (Q := ActD.In W) (fun _ => rfl) (by decide) Try.underlying51 (by kernel_rfl) (fun cs n y h => rd_act h) hf
  simp [Value.cells] at hcs
  obtain ⟨rfl, rfl, rfl⟩ := hcs
  refine ⟨_, _, zs, rfl, hr, hq, hc.1, ?_⟩
  rcases hE with rfl | ⟨elems, spare, hd, hl⟩
  · simp
  · have h1 := hs elems spare hd
    have hb : Try.prog.bytesOf 58 = 104 := by kernel_rfl
    rw [hb, hl] at h1
    simp only [reachBytes] at h1
    omega
end
end Go.Proofs.Ytiaeckljpdhagaa
