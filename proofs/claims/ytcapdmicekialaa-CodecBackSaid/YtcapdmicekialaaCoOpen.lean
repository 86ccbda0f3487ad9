/- A module handed in, opened. -/
import Derived.Test.YtcapdmicekialaaCoTypes
import Derived.Test.YtcapdmicekialaaOpenR
import Derived.Test.YtcapdmicekialaaOcOpenB
namespace Go.Proofs.Ytcapdmicekialaa
open Go.ChangeShapes Go.WideShapes Go.ChangeAt Go.RowKit
set_option linter.unusedVariables false
set_option linter.unusedSimpArgs false
section
variable {H : Type} {enc : TypeId × Value → H} {W : World}
theorem bd_i64 {x : Int} (h : (Lit.int .i64 x).wf = true) : -9223372036854775808 ≤ x ∧ x ≤ 9223372036854775807 := by
  simp only [Lit.wf, IntKind.min, IntKind.max, IntKind.signed, IntKind.bits, Bool.and_eq_true, decide_eq_true_eq] at h
  simp at h; exact h
theorem part_w {P : Program} {t : TypeId} {fs : Array Field} {xs : List (DataW H × List MemPlace)} {j : Nat} {f : Field} (ht : P.underlying t = some (.struct fs)) (hw : ∀ u ∈ (DataW.agg (xs.map (·.1))).weights P t, u ≤ reachBytes) (hf : fs[j]? = some f) (hx : j < xs.length) :
    ∀ u ∈ (xs[j]).1.weights P f.type, u ≤ reachBytes := fun u hu => hw u (by
  simp only [DataW.weights, ht]
  exact DataW.weights_mem_each (j := j) (by rw [List.getElem?_map, Array.getElem?_toList, hf]; rfl) (by rw [List.getElem?_map, List.getElem?_eq_getElem hx]; rfl) u hu)
/-- What is handed in is read as of that kind. -/
def RdK (enc : TypeId × Value → H) (W : World) {α : Type} (K : Kind α) (e : TypeId) : Prop :=
  ∀ (cs : List Value) (n : Nat) (y : DataW H × List MemPlace), DataW.trod enc Try.prog W 0 (fun _ => true) true n e cs = some y → (∀ u ∈ y.1.weights Try.prog e, u ≤ reachBytes) → ∃ a, K.tells W cs a
theorem rd_tx : RdK enc W txK 9 := by
  intro cs n y h hw
  obtain ⟨s, rfl, rfl, _⟩ := DataW.trod_string Try.underlying9 h
  have := hw s.data.toList.length (by simp [DataW.weights])
  refine ⟨s, rfl, ?_⟩
  unfold sz
  rw [Array.length_toList] at this
  exact this
theorem rd_int {cs : List Value} {n : Nat} {y : DataW H × List MemPlace} (h : DataW.trod enc Try.prog W 0 (fun _ => true) true n 3 cs = some y) : ∃ a : Int, cs = [.int .i64 a] ∧ iz a := by
  obtain ⟨a, e, _, hw⟩ := DataW.trod_int Try.underlying3 h
  exact ⟨a, e, bd_i64 hw⟩
theorem all2_map {α β γ : Type} {P : β → γ → Prop} (f : α → β) (g : α → γ) : ∀ {l : List α}, (∀ x ∈ l, P (f x) (g x)) → all2 P (l.map f) (l.map g)
  | [], _ => trivial
  | x :: l, h => ⟨h x (List.mem_cons_self ..), all2_map f g fun y hy => h y (List.mem_cons_of_mem _ hy)⟩
theorem rd_sl {α : Type} {K : Kind α} {t e : TypeId} (hr : RdK enc W K e) (hpos : 0 < K.size) (ht : Try.prog.underlying t = some (.slice e)) (hC : Try.prog.cellsOf e = K.size) (hb : Nat.ble 1 (Try.prog.bytesOf e) = true)
    {cs : List Value} {n : Nat} {y : DataW H × List MemPlace} (h : DataW.trod enc Try.prog W 0 (fun _ => true) true n t cs = some y) (hw : ∀ u ∈ y.1.weights Try.prog t, u ≤ reachBytes) :
    ∃ v l, cs = [v] ∧ K.sl W v l := by
  obtain ⟨A, c, zs, hcs, hrd, hq, hc, hE⟩ := open_rows_w (α := {z : List Value × α // z.1.length = K.size}) (f := fun z => z.1.1) (C := K.size) (Q := fun z => K.tells W z.1.1 z.1.2) (fun z => z.2) hpos ht hC
    (fun cs n y h hw => by
      obtain ⟨a, ha⟩ := hr cs n y h hw
      exact ⟨⟨(cs, a), K.len ha⟩, rfl, ha⟩) h hw
  have hl : zs.length ≤ 140737488351232 := by
    have h1 : zs.length * 1 ≤ zs.length * Try.prog.bytesOf e := Nat.mul_le_mul_left _ (Nat.le_of_ble_eq_true hb)
    simp only [reachBytes] at hE
    omega
  refine ⟨_, zs.map (·.1.2), hcs, A, c, zs.map (·.1.1), by rw [List.length_map], ?_, all2_map (P := K.told (Eq W)) (fun z : {z : List Value × α // z.1.length = K.size} => z.1.1) (fun z => z.1.2) hq, by rw [List.length_map]; exact hl⟩
  rintro _ rfl
  rw [List.length_map, ← List.flatMap_def]
  exact hrd
theorem rd_vr : RdK enc W vrK 151 := by
  intro cs n y h hw
  obtain ⟨xs, n', rfl, hy, hl, hxl, hf⟩ := DataW.trod_struct Try.underlying151 h
  have h3 : Try.prog.cellsOf 151 = 2 := by kernel_rfl
  have k0 : Try.prog.cellsOf 9 = 1 := by kernel_rfl
  rw [h3] at hl
  obtain ⟨c0, c1, rfl⟩ : ∃ c0 c1, cs = [c0, c1] := by
    rcases cs with _ | ⟨c0, _ | ⟨c1, _ | ⟨c2, cs⟩⟩⟩ <;> simp at hl
    exact ⟨_, _, rfl⟩
  have t0 := hf 0 _ rfl
  have t1 := hf 1 _ rfl
  simp only [List.getElem_toArray, List.getElem_cons_zero, List.getElem_cons_succ] at t0 t1
  simp only [k0, List.drop_zero, List.drop_succ_cons, List.take_succ_cons, List.take_zero] at t0 t1
  have hx : xs.length = 2 := hxl
  rw [List.getElem?_eq_getElem (by omega)] at t0 t1
  rw [hy] at hw
  obtain ⟨s0, e0, z0⟩ := rd_tx _ _ _ t0 (part_w Try.underlying151 hw (j := 0) rfl (by omega))
  obtain ⟨s1, e1, z1⟩ := rd_tx _ _ _ t1 (part_w Try.underlying151 hw (j := 1) rfl (by omega))
  simp at e0 e1
  subst e0 e1
  exact ⟨(s0, s1), ⟨rfl, z0, z1⟩⟩
theorem rd_st : RdK enc W stK 99 := by
  intro cs n y h hw
  obtain ⟨xs, n', rfl, hy, hl, hxl, hf⟩ := DataW.trod_struct Try.underlying99 h
  have h3 : Try.prog.cellsOf 99 = 3 := by kernel_rfl
  have k0 : Try.prog.cellsOf 3 = 1 := by kernel_rfl
  have k1 : Try.prog.cellsOf 9 = 1 := by kernel_rfl
  rw [h3] at hl
  obtain ⟨c0, c1, c2, rfl⟩ : ∃ c0 c1 c2, cs = [c0, c1, c2] := by
    rcases cs with _ | ⟨c0, _ | ⟨c1, _ | ⟨c2, _ | ⟨c3, cs⟩⟩⟩⟩ <;> simp at hl
    exact ⟨_, _, _, rfl⟩
  have t0 := hf 0 _ rfl
  have t1 := hf 1 _ rfl
  have t2 := hf 2 _ rfl
  simp only [List.getElem_toArray, List.getElem_cons_zero, List.getElem_cons_succ] at t0 t1 t2
  simp only [k0, k1, List.drop_zero, List.drop_succ_cons, List.take_succ_cons, List.take_zero] at t0 t1 t2
  have hx : xs.length = 3 := hxl
  rw [List.getElem?_eq_getElem (by omega)] at t0 t1 t2
  rw [hy] at hw
  obtain ⟨s0, e0, z0⟩ := rd_int t0
  obtain ⟨s1, e1, z1⟩ := rd_tx _ _ _ t1 (part_w Try.underlying99 hw (j := 1) rfl (by omega))
  obtain ⟨s2, e2, z2⟩ := rd_tx _ _ _ t2 (part_w Try.underlying99 hw (j := 2) rfl (by omega))
  simp at e0 e1 e2
  subst e0 e1 e2
  exact ⟨⟨s0, s1, s2⟩, ⟨rfl, z0, z1, z2⟩⟩
theorem rd_in : RdK enc W inK 146 := by
  intro cs n y h hw
  obtain ⟨xs, n', rfl, hy, hl, hxl, hf⟩ := DataW.trod_struct Try.underlying146 h
  have h3 : Try.prog.cellsOf 146 = 4 := by kernel_rfl
  have k0 : Try.prog.cellsOf 3 = 1 := by kernel_rfl
  rw [h3] at hl
  obtain ⟨c0, c1, c2, c3, rfl⟩ : ∃ c0 c1 c2 c3, cs = [c0, c1, c2, c3] := by
    rcases cs with _ | ⟨c0, _ | ⟨c1, _ | ⟨c2, _ | ⟨c3, _ | ⟨c4, cs⟩⟩⟩⟩⟩ <;> simp at hl
    exact ⟨_, _, _, _, rfl⟩
  have t0 := hf 0 _ rfl
  have t1 := hf 1 _ rfl
  have t2 := hf 2 _ rfl
  have t3 := hf 3 _ rfl
  simp only [List.getElem_toArray, List.getElem_cons_zero, List.getElem_cons_succ] at t0 t1 t2 t3
  simp only [k0, List.drop_zero, List.drop_succ_cons, List.take_succ_cons, List.take_zero] at t0 t1 t2 t3
  have hx : xs.length = 4 := hxl
  rw [List.getElem?_eq_getElem (by omega)] at t0 t1 t2 t3
  rw [hy] at hw
  obtain ⟨s0, e0, z0⟩ := rd_int t0
  obtain ⟨s1, e1, z1⟩ := rd_int t1
  obtain ⟨s2, e2, z2⟩ := rd_int t2
  obtain ⟨s3, e3, z3⟩ := rd_int t3
  simp at e0 e1 e2 e3
  subst e0 e1 e2 e3
  exact ⟨⟨s0, s1, s2, s3⟩, ⟨rfl, z0, z1, z2, z3⟩⟩
theorem rd_sg : RdK enc W sgK 136 := by
  intro cs n y h hw
  obtain ⟨xs, n', rfl, hy, hl, hxl, hf⟩ := DataW.trod_struct Try.underlying136 h
  have h3 : Try.prog.cellsOf 136 = 3 := by kernel_rfl
  have k0 : Try.prog.cellsOf 92 = 1 := by kernel_rfl
  have k1 : Try.prog.cellsOf 9 = 1 := by kernel_rfl
  rw [h3] at hl
  obtain ⟨c0, c1, c2, rfl⟩ : ∃ c0 c1 c2, cs = [c0, c1, c2] := by
    rcases cs with _ | ⟨c0, _ | ⟨c1, _ | ⟨c2, _ | ⟨c3, cs⟩⟩⟩⟩ <;> simp at hl
    exact ⟨_, _, _, rfl⟩
  have t0 := hf 0 _ rfl
  have t1 := hf 1 _ rfl
  have t2 := hf 2 _ rfl
  simp only [List.getElem_toArray, List.getElem_cons_zero, List.getElem_cons_succ] at t0 t1 t2
  simp only [k0, k1, List.drop_zero, List.drop_succ_cons, List.take_succ_cons, List.take_zero] at t0 t1 t2
  have hx : xs.length = 3 := hxl
  rw [List.getElem?_eq_getElem (by omega)] at t0 t1 t2
  rw [hy] at hw
  obtain ⟨s0, e0, z0⟩ := rd_tx _ _ _ t0 (part_w Try.underlying136 hw (j := 0) rfl (by omega))
  obtain ⟨v1, s1, e1, z1⟩ := rd_sl (K := vrK) rd_vr (by decide) Try.underlying92 (by kernel_rfl) (by kernel_rfl) t1 (part_w Try.underlying136 hw (j := 1) rfl (by omega))
  obtain ⟨s2, e2, z2⟩ := rd_tx _ _ _ t2 (part_w Try.underlying136 hw (j := 2) rfl (by omega))
  simp at e0 e1 e2
  subst e0 e1 e2
  exact ⟨⟨s0, s1, s2⟩, ⟨_, rfl, z0, z2, z1⟩⟩
theorem rd_cl : RdK enc W clK 95 := by
  intro cs n y h hw
  obtain ⟨xs, n', rfl, hy, hl, hxl, hf⟩ := DataW.trod_struct Try.underlying95 h
  have h3 : Try.prog.cellsOf 95 = 4 := by kernel_rfl
  have k0 : Try.prog.cellsOf 93 = 1 := by kernel_rfl
  have k1 : Try.prog.cellsOf 92 = 1 := by kernel_rfl
  have k2 : Try.prog.cellsOf 9 = 1 := by kernel_rfl
  rw [h3] at hl
  obtain ⟨c0, c1, c2, c3, rfl⟩ : ∃ c0 c1 c2 c3, cs = [c0, c1, c2, c3] := by
    rcases cs with _ | ⟨c0, _ | ⟨c1, _ | ⟨c2, _ | ⟨c3, _ | ⟨c4, cs⟩⟩⟩⟩⟩ <;> simp at hl
    exact ⟨_, _, _, _, rfl⟩
  have t0 := hf 0 _ rfl
  have t1 := hf 1 _ rfl
  have t2 := hf 2 _ rfl
  have t3 := hf 3 _ rfl
  simp only [List.getElem_toArray, List.getElem_cons_zero, List.getElem_cons_succ] at t0 t1 t2 t3
  simp only [k0, k1, k2, List.drop_zero, List.drop_succ_cons, List.take_succ_cons, List.take_zero] at t0 t1 t2 t3
  have hx : xs.length = 4 := hxl
  rw [List.getElem?_eq_getElem (by omega)] at t0 t1 t2 t3
  rw [hy] at hw
  obtain ⟨s0, e0, z0⟩ := rd_tx _ _ _ t0 (part_w Try.underlying95 hw (j := 0) rfl (by omega))
  obtain ⟨s1, e1, z1⟩ := rd_tx _ _ _ t1 (part_w Try.underlying95 hw (j := 1) rfl (by omega))
  obtain ⟨v2, s2, e2, z2⟩ := rd_sl (K := vrK) rd_vr (by decide) Try.underlying92 (by kernel_rfl) (by kernel_rfl) t2 (part_w Try.underlying95 hw (j := 2) rfl (by omega))
  obtain ⟨v3, s3, e3, z3⟩ := rd_sl (K := sgK) rd_sg (by decide) Try.underlying93 (by kernel_rfl) (by kernel_rfl) t3 (part_w Try.underlying95 hw (j := 3) rfl (by omega))
  simp at e0 e1 e2 e3
  subst e0 e1 e2 e3
  exact ⟨⟨s0, s1, s2, s3⟩, ⟨_, _, rfl, z0, z1, z2, z3⟩⟩
theorem rd_fu : RdK enc W fuK 106 := by
  intro cs n y h hw
  obtain ⟨xs, n', rfl, hy, hl, hxl, hf⟩ := DataW.trod_struct Try.underlying106 h
  have h3 : Try.prog.cellsOf 106 = 4 := by kernel_rfl
  have k0 : Try.prog.cellsOf 104 = 1 := by kernel_rfl
  have k1 : Try.prog.cellsOf 65 = 1 := by kernel_rfl
  have k2 : Try.prog.cellsOf 9 = 1 := by kernel_rfl
  rw [h3] at hl
  obtain ⟨c0, c1, c2, c3, rfl⟩ : ∃ c0 c1 c2 c3, cs = [c0, c1, c2, c3] := by
    rcases cs with _ | ⟨c0, _ | ⟨c1, _ | ⟨c2, _ | ⟨c3, _ | ⟨c4, cs⟩⟩⟩⟩⟩ <;> simp at hl
    exact ⟨_, _, _, _, rfl⟩
  have t0 := hf 0 _ rfl
  have t1 := hf 1 _ rfl
  have t2 := hf 2 _ rfl
  have t3 := hf 3 _ rfl
  simp only [List.getElem_toArray, List.getElem_cons_zero, List.getElem_cons_succ] at t0 t1 t2 t3
  simp only [k0, k1, k2, List.drop_zero, List.drop_succ_cons, List.take_succ_cons, List.take_zero] at t0 t1 t2 t3
  have hx : xs.length = 4 := hxl
  rw [List.getElem?_eq_getElem (by omega)] at t0 t1 t2 t3
  rw [hy] at hw
  obtain ⟨s0, e0, z0⟩ := rd_tx _ _ _ t0 (part_w Try.underlying106 hw (j := 0) rfl (by omega))
  obtain ⟨s1, e1, z1⟩ := rd_tx _ _ _ t1 (part_w Try.underlying106 hw (j := 1) rfl (by omega))
  obtain ⟨v2, s2, e2, z2⟩ := rd_sl (K := txK) rd_tx (by decide) Try.underlying65 (by kernel_rfl) (by kernel_rfl) t2 (part_w Try.underlying106 hw (j := 2) rfl (by omega))
  obtain ⟨v3, s3, e3, z3⟩ := rd_sl (K := inK) rd_in (by decide) Try.underlying104 (by kernel_rfl) (by kernel_rfl) t3 (part_w Try.underlying106 hw (j := 3) rfl (by omega))
  simp at e0 e1 e2 e3
  subst e0 e1 e2 e3
  exact ⟨⟨s0, s1, s2, s3⟩, ⟨_, _, rfl, z0, z1, z2, z3⟩⟩
theorem rd_md : RdK enc W mdK 68 := by
  intro cs n y h hw
  obtain ⟨xs, n', rfl, hy, hl, hxl, hf⟩ := DataW.trod_struct Try.underlying68 h
  have h3 : Try.prog.cellsOf 68 = 4 := by kernel_rfl
  have k0 : Try.prog.cellsOf 63 = 1 := by kernel_rfl
  have k1 : Try.prog.cellsOf 66 = 1 := by kernel_rfl
  have k2 : Try.prog.cellsOf 64 = 1 := by kernel_rfl
  have k3 : Try.prog.cellsOf 65 = 1 := by kernel_rfl
  rw [h3] at hl
  obtain ⟨c0, c1, c2, c3, rfl⟩ : ∃ c0 c1 c2 c3, cs = [c0, c1, c2, c3] := by
    rcases cs with _ | ⟨c0, _ | ⟨c1, _ | ⟨c2, _ | ⟨c3, _ | ⟨c4, cs⟩⟩⟩⟩⟩ <;> simp at hl
    exact ⟨_, _, _, _, rfl⟩
  have t0 := hf 0 _ rfl
  have t1 := hf 1 _ rfl
  have t2 := hf 2 _ rfl
  have t3 := hf 3 _ rfl
  simp only [List.getElem_toArray, List.getElem_cons_zero, List.getElem_cons_succ] at t0 t1 t2 t3
  simp only [k0, k1, k2, k3, List.drop_zero, List.drop_succ_cons, List.take_succ_cons, List.take_zero] at t0 t1 t2 t3
  have hx : xs.length = 4 := hxl
  rw [List.getElem?_eq_getElem (by omega)] at t0 t1 t2 t3
  rw [hy] at hw
  obtain ⟨v0, s0, e0, z0⟩ := rd_sl (K := clK) rd_cl (by decide) Try.underlying63 (by kernel_rfl) (by kernel_rfl) t0 (part_w Try.underlying68 hw (j := 0) rfl (by omega))
  obtain ⟨v1, s1, e1, z1⟩ := rd_sl (K := stK) rd_st (by decide) Try.underlying64 (by kernel_rfl) (by kernel_rfl) t1 (part_w Try.underlying68 hw (j := 1) rfl (by omega))
  obtain ⟨v2, s2, e2, z2⟩ := rd_sl (K := txK) rd_tx (by decide) Try.underlying65 (by kernel_rfl) (by kernel_rfl) t2 (part_w Try.underlying68 hw (j := 2) rfl (by omega))
  obtain ⟨v3, s3, e3, z3⟩ := rd_sl (K := fuK) rd_fu (by decide) Try.underlying66 (by kernel_rfl) (by kernel_rfl) t3 (part_w Try.underlying68 hw (j := 3) rfl (by omega))
  simp at e0 e1 e2 e3
  subst e0 e1 e2 e3
  exact ⟨⟨s0, s1, s2, s3⟩, ⟨_, _, _, _, rfl, z0, z1, z2, z3⟩⟩
set_option maxRecDepth 100000 in
theorem open_md {base : Nat} {v : Value} {d : DataW H} {p : List MemPlace} (hv : Value.okWide Try.prog W .any base 68 v)
    (h : DataW.Trod enc Try.prog W 0 (fun _ => true) true 68 v d p) (hs : ∀ u ∈ d.weights Try.prog 68, u ≤ reachBytes) :
    ∃ (cs : List Value) (m : Md), v = .agg cs.toArray ∧ mdK.tells W cs m := by
  obtain ⟨cs, rfl, hsz⟩ := okWide_struct Try.underlying68 hv
  obtain ⟨fuel, hf⟩ := h
  obtain ⟨m, hm⟩ := rd_md _ _ _ hf hs
  exact ⟨cs.toList, m, rfl, hm⟩
end
end Go.Proofs.Ytcapdmicekialaa
