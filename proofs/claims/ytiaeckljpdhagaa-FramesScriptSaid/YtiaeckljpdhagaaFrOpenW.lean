/- Acts handed in, opened, with how great they may be. -/
import Derived.Test.YtiaeckljpdhagaaFrLong
namespace Go.Proofs.Ytiaeckljpdhagaa
open Go.ChangeShapes Go.WideShapes Go.ChangeAt Go.RowKit
set_option linter.unusedVariables false
set_option linter.unusedSimpArgs false
section
variable {H : Type} {enc : TypeId × Value → H} {W : World}
theorem part_w {P : Program} {t : TypeId} {fs : Array Field} {xs : List (DataW H × List MemPlace)} {j : Nat} {f : Field} (ht : P.underlying t = some (.struct fs)) (hw : ∀ u ∈ (DataW.agg (xs.map (·.1))).weights P t, u ≤ reachBytes) (hf : fs[j]? = some f) (hx : j < xs.length) :
    ∀ u ∈ (xs[j]).1.weights P f.type, u ≤ reachBytes := fun u hu => hw u (by
  simp only [DataW.weights, ht]
  exact DataW.weights_mem_each (j := j) (by rw [List.getElem?_map, Array.getElem?_toList, hf]; rfl) (by rw [List.getElem?_map, List.getElem?_eq_getElem hx]; rfl) u hu)
def AV.Fits (z : AV) : Prop := z.1.lay.length * 32 ≤ 140737488351232
def ActD.Fits (z : ActD) : Prop := AV.Fits z.v ∧ z.l.length * 64 ≤ 140737488351232 ∧ ∀ y ∈ z.l, AV.Fits y
theorem rd_value_w {cs : List Value} {n : Nat} {y : DataW H × List MemPlace} (h : DataW.trod enc Try.prog W 0 (fun _ => true) true n 30 cs = some y) (hw : ∀ u ∈ y.1.weights Try.prog 30, u ≤ reachBytes) : ∃ z : AV, cs = z.1.cs z.2 ∧ InCh W z ∧ AV.Fits z := by
  obtain ⟨xs, n', rfl, hy, hl, hxl, hf⟩ := DataW.trod_struct Try.underlying30 h
  have h3 : Try.prog.cellsOf 30 = 5 := by kernel_rfl
  have k1 : Try.prog.cellsOf 27 = 1 := by kernel_rfl
  have k2 : Try.prog.cellsOf 9 = 1 := by kernel_rfl
  have k3 : Try.prog.cellsOf 3 = 1 := by kernel_rfl
  have k4 : Try.prog.cellsOf 28 = 1 := by kernel_rfl
  rw [h3] at hl
  obtain ⟨c0, c1, c2, c3, c4, rfl⟩ : ∃ c0 c1 c2 c3 c4, cs = [c0, c1, c2, c3, c4] := by
    rcases cs with _ | ⟨c0, _ | ⟨c1, _ | ⟨c2, _ | ⟨c3, _ | ⟨c4, _ | ⟨c5, cs⟩⟩⟩⟩⟩⟩ <;> simp at hl
    exact ⟨_, _, _, _, _, rfl⟩
  have t0 := hf 0 _ rfl
  have t1 := hf 1 _ rfl
  have t2 := hf 2 _ rfl
  have t3 := hf 3 _ rfl
  have t4 := hf 4 _ rfl
  simp only [List.getElem_toArray, List.getElem_cons_zero, List.getElem_cons_succ] at t0 t1 t2 t3 t4
  simp only [k1, k2, k3, k4, List.drop_zero, List.drop_succ_cons, List.take_succ_cons, List.take_zero] at t0 t1 t2 t3 t4
  have hx : xs.length = 5 := hxl
  rw [List.getElem?_eq_getElem (by omega)] at t0 t1 t2 t3 t4
  obtain ⟨a, e0, _⟩ := DataW.trod_int Try.underlying3 t0
  obtain ⟨b, e1, _⟩ := DataW.trod_int Try.underlying3 t1
  obtain ⟨k, e2, _⟩ := DataW.trod_int Try.underlying27 t2
  obtain ⟨s, e3, _⟩ := DataW.trod_string Try.underlying9 t3
  rw [hy] at hw
  have hw4 := part_w Try.underlying30 hw (j := 4) rfl (by omega)
  obtain ⟨A, c, zs, e4, hr, _, hc, hb⟩ := open_rows_w (f := fun z : Bool × ByteArray × Int => [Value.bool z.1, .string z.2.1, .int .i64 z.2.2]) (C := 3) (Q := fun _ => True) (fun _ => rfl) (by decide) Try.underlying28 (by kernel_rfl) (fun cs n y h _ => rd_layer h) t4 hw4
  simp at e0 e1 e2 e3 e4
  subst e0 e1 e2 e3 e4
  have hb3 : Try.prog.bytesOf 104 = 32 := by kernel_rfl
  rw [hb3] at hb
  exact ⟨(⟨a, b, k, s, zs⟩, .slice A zs.length c), rfl, ⟨A, c, rfl, hr, Nat.le_trans hc.1 hc.2⟩, hb⟩
theorem rd_values_w {cs : List Value} {n : Nat} {y : DataW H × List MemPlace} (h : DataW.trod enc Try.prog W 0 (fun _ => true) true n 31 cs = some y) (hw : ∀ u ∈ y.1.weights Try.prog 31, u ≤ reachBytes) : ∃ l x, cs = [x] ∧ InVs W l x ∧ l.length * 64 ≤ 140737488351232 ∧ ∀ y ∈ l, AV.Fits y := by
  obtain ⟨A, c, zs, e4, hr, hq, hc, hb⟩ := open_rows_w (f := fun z : AV => z.1.cs z.2) (C := 5) (Q := fun z => InCh W z ∧ AV.Fits z) (fun _ => rfl) (by decide) Try.underlying31 (by kernel_rfl) (fun cs n y h hw => rd_value_w h hw) h hw
  have hb3 : Try.prog.bytesOf 30 = 64 := by kernel_rfl
  rw [hb3] at hb
  exact ⟨zs, _, e4, ⟨A, c, rfl, hr, fun z hz => (hq z hz).1, Nat.le_trans hc.1 hc.2⟩, hb, fun z hz => (hq z hz).2⟩
theorem rd_act_w {cs : List Value} {n : Nat} {y : DataW H × List MemPlace} (h : DataW.trod enc Try.prog W 0 (fun _ => true) true n 58 cs = some y) (hw : ∀ u ∈ y.1.weights Try.prog 58, u ≤ reachBytes) : ∃ z : ActD, cs = z.cs ∧ z.In W ∧ z.Fits := by
  obtain ⟨xs, n', rfl, hy, hl, hxl, hf⟩ := DataW.trod_struct Try.underlying58 h
  have h3 : Try.prog.cellsOf 58 = 8 := by kernel_rfl
  have k2 : Try.prog.cellsOf 30 = 5 := by kernel_rfl
  have k3 : Try.prog.cellsOf 3 = 1 := by kernel_rfl
  have k4 : Try.prog.cellsOf 31 = 1 := by kernel_rfl
  rw [h3] at hl
  obtain ⟨c0, c1, c2, c3, c4, c5, c6, c7, rfl⟩ : ∃ c0 c1 c2 c3 c4 c5 c6 c7, cs = [c0, c1, c2, c3, c4, c5, c6, c7] := by
    rcases cs with _ | ⟨c0, _ | ⟨c1, _ | ⟨c2, _ | ⟨c3, _ | ⟨c4, _ | ⟨c5, _ | ⟨c6, _ | ⟨c7, _ | ⟨c8, cs⟩⟩⟩⟩⟩⟩⟩⟩⟩ <;> simp at hl
    exact ⟨_, _, _, _, _, _, _, _, rfl⟩
  have t0 := hf 0 _ rfl
  have t1 := hf 1 _ rfl
  have t2 := hf 2 _ rfl
  have t3 := hf 3 _ rfl
  simp only [List.getElem_toArray, List.getElem_cons_zero, List.getElem_cons_succ] at t0 t1 t2 t3
  simp only [k2, k3, k4, List.drop_zero, List.drop_succ_cons, List.take_succ_cons, List.take_zero] at t0 t1 t2 t3
  have hx : xs.length = 4 := hxl
  rw [List.getElem?_eq_getElem (by omega)] at t0 t1 t2 t3
  obtain ⟨a, e0, _⟩ := DataW.trod_int Try.underlying3 t0
  obtain ⟨b, e1, _⟩ := DataW.trod_int Try.underlying3 t1
  rw [hy] at hw
  have hw2 := part_w Try.underlying58 hw (j := 2) rfl (by omega)
  have hw3 := part_w Try.underlying58 hw (j := 3) rfl (by omega)
  obtain ⟨v, e2, hv, hvf⟩ := rd_value_w t2 hw2
  obtain ⟨l, x, e3, hl2, hlf⟩ := rd_values_w t3 hw3
  simp at e0 e1 e3
  subst e0 e1 e3
  refine ⟨⟨a, b, v, l, c7⟩, ?_, ⟨hv, hl2⟩, hvf, hlf⟩
  show _ = [.int .i64 a, .int .i64 b] ++ v.1.cs v.2 ++ [c7]
  rw [← e2]
  rfl
set_option maxRecDepth 100000 in
theorem open_actsW {base : Nat} {v : Value} {d : DataW H} {p : List MemPlace} (hv : Value.okWide Try.prog W .any base 51 v)
    (h : DataW.Trod enc Try.prog W 0 (fun _ => true) true 51 v d p) (hs : ∀ u ∈ d.weights Try.prog 51, u ≤ reachBytes) :
    ∃ (A : Option Addr) (c : Nat) (xs : List ActD), v = .slice A xs.length c ∧ Reads W W.heap.size 8 A xs.length (xs.flatMap ActD.cs) ∧ (∀ z ∈ xs, z.In W) ∧ (∀ z ∈ xs, z.Fits) ∧ xs.length ≤ 140737488351232 := by
  obtain ⟨a0, len, cap, rfl⟩ := okWide_slice Try.underlying51 hv
  obtain ⟨fuel, hf⟩ := h
  obtain ⟨A, c, zs, hcs, hr, hq, hc, hE⟩ := open_rows_w (f := ActD.cs) (C := 8) (Q := fun z => z.In W ∧ z.Fits) (fun _ => rfl) (by decide) Try.underlying51 (by kernel_rfl) (fun cs n y h hw => rd_act_w h hw) hf hs
  simp [Value.cells] at hcs
  obtain ⟨rfl, rfl, rfl⟩ := hcs
  have hb : Try.prog.bytesOf 58 = 104 := by kernel_rfl
  rw [hb] at hE
  simp only [reachBytes] at hE
  exact ⟨_, _, zs, rfl, hr, fun z hz => (hq z hz).1, fun z hz => (hq z hz).2, by omega⟩
end
end Go.Proofs.Ytiaeckljpdhagaa
