/- A module handed in, opened. -/
import Derived.Test.YtcapdmicekialaaGreatCoTypes
import Derived.Test.YtcapdmicekialaaGreatOpenR
import Derived.Test.YtcapdmicekialaaGreatOcOpenB
namespace Go.Proofs.YtcapdmicekialaaGreat
open Go.ChangeShapes Go.WideShapes Go.ChangeAt Go.RowKit
set_option linter.unusedVariables false
set_option linter.unusedSimpArgs false
section
variable {H : Type} {enc : TypeId × Value → H} {W : World}
theorem bd_i64 {x : Int} (h : (Lit.int .i64 x).wf = true) : -9223372036854775808 ≤ x ∧ x ≤ 9223372036854775807 := by
  simp only [Lit.wf, IntKind.min, IntKind.max, IntKind.signed, IntKind.bits, Bool.and_eq_true, decide_eq_true_eq] at h
  simp at h; exact h
theorem part_w {P : Program} {t : TypeId} {fs : Array Field} {xs : List (DataW H × List MemPlace)} {j : Nat} {f : Field} (ht : P.underlying t = some (.struct fs)) (hw : ∀ u ∈ (DataW.agg (xs.map (·.1))).weights P t, u ≤ reachBytes) (hf : fs[j]? = some f) (hx : j < xs.length) :
    ∀ u ∈ (xs[j]).1.weights P f.type, u ≤ reachBytes := fun u hu => hw u (by
  simp only [DataW.weights, ht]
  exact DataW.weights_mem_each (j := j) (by rw [List.getElem?_map, Array.getElem?_toList, hf]; rfl) (by rw [List.getElem?_map, List.getElem?_eq_getElem hx]; rfl) u hu)
/-- How great the lists of what is handed in may be. -/
def fTx (_ : ByteArray) : Prop := True
def fVr (_ : Vr) : Prop := True
def fSt (_ : St) : Prop := True
def fIn (_ : In) : Prop := True
def fSg (x : Sg) : Prop := x.params.length * 32 ≤ 140737488355328
def fCl (x : Cl) : Prop := x.fields.length * 32 ≤ 140737488355328 ∧ x.methods.length * 56 ≤ 140737488355328 ∧ ∀ y ∈ x.methods, fSg y
def fFu (x : Fu) : Prop := x.locals.length * 16 ≤ 140737488355328 ∧ x.code.length * 32 ≤ 140737488355328
def fMd (m : Md) : Prop := (m.table.length * 80 ≤ 140737488355328 ∧ ∀ y ∈ m.table, fCl y) ∧ m.sites.length * 40 ≤ 140737488355328 ∧ m.pool.length * 16 ≤ 140737488355328 ∧ m.funcs.length * 80 ≤ 140737488355328 ∧ ∀ y ∈ m.funcs, fFu y
/-- What is handed in is read as of that kind. -/
def RdK (enc : TypeId × Value → H) (W : World) {α : Type} (K : Kind α) (Q : α → Prop) (e : TypeId) : Prop :=
  ∀ (cs : List Value) (n : Nat) (y : DataW H × List MemPlace), DataW.trod enc Tryz.prog W 0 (fun _ => true) true n e cs = some y → (∀ u ∈ y.1.weights Tryz.prog e, u ≤ reachBytes) → ∃ a, K.tells W cs a ∧ Q a
theorem rd_tx : RdK enc W txK fTx 9 := by
  intro cs n y h hw
  obtain ⟨s, rfl, rfl, _⟩ := DataW.trod_string Tryz.underlying9 h
  have := hw s.data.toList.length (by simp [DataW.weights])
  refine ⟨s, ⟨rfl, ?_⟩, trivial⟩
  unfold sz
  rw [Array.length_toList] at this
  exact this
theorem rd_int {cs : List Value} {n : Nat} {y : DataW H × List MemPlace} (h : DataW.trod enc Tryz.prog W 0 (fun _ => true) true n 3 cs = some y) : ∃ a : Int, cs = [.int .i64 a] ∧ iz a := by
  obtain ⟨a, e, _, hw⟩ := DataW.trod_int Tryz.underlying3 h
  exact ⟨a, e, bd_i64 hw⟩
theorem all2_map {α β γ : Type} {P : β → γ → Prop} (f : α → β) (g : α → γ) : ∀ {l : List α}, (∀ x ∈ l, P (f x) (g x)) → all2 P (l.map f) (l.map g)
  | [], _ => trivial
  | x :: l, h => ⟨h x (List.mem_cons_self ..), all2_map f g fun y hy => h y (List.mem_cons_of_mem _ hy)⟩
theorem rd_sl {α : Type} {K : Kind α} {Q : α → Prop} {t e : TypeId} {bts : Nat} (hr : RdK enc W K Q e) (hpos : 0 < K.size) (ht : Tryz.prog.underlying t = some (.slice e)) (hC : Tryz.prog.cellsOf e = K.size) (hbts : Tryz.prog.bytesOf e = bts) (hb : Nat.ble 1 bts = true)
    {cs : List Value} {n : Nat} {y : DataW H × List MemPlace} (h : DataW.trod enc Tryz.prog W 0 (fun _ => true) true n t cs = some y) (hw : ∀ u ∈ y.1.weights Tryz.prog t, u ≤ reachBytes) :
    ∃ v l, cs = [v] ∧ K.sl W v l ∧ (l.length * bts ≤ 140737488355328 ∧ ∀ x ∈ l, Q x) := by
  subst hbts
  obtain ⟨A, c, zs, hcs, hrd, hq, hc, hE⟩ := open_rows_w (α := {z : List Value × α // z.1.length = K.size}) (f := fun z => z.1.1) (C := K.size) (Q := fun z => K.tells W z.1.1 z.1.2 ∧ Q z.1.2) (fun z => z.2) hpos ht hC
    (fun cs n y h hw => by
      obtain ⟨a, ha, hq⟩ := hr cs n y h hw
      exact ⟨⟨(cs, a), K.len ha⟩, rfl, ha, hq⟩) h hw
  have hl : zs.length ≤ 140737488351232 := by
    have h1 : zs.length * 1 ≤ zs.length * Tryz.prog.bytesOf e := Nat.mul_le_mul_left _ (Nat.le_of_ble_eq_true hb)
    simp only [reachBytes] at hE
    omega
  refine ⟨_, zs.map (·.1.2), hcs, ⟨A, c, zs.map (·.1.1), by rw [List.length_map], ?_, all2_map (P := K.told (Eq W)) (fun z : {z : List Value × α // z.1.length = K.size} => z.1.1) (fun z => z.1.2) (fun z hz => (hq z hz).1), by rw [List.length_map]; exact hl⟩, ?_, ?_⟩
  · rintro _ rfl
    rw [List.length_map, ← List.flatMap_def]
    exact hrd
  · rw [List.length_map]
    simp only [reachBytes] at hE
    omega
  · intro x hx
    obtain ⟨z, hz, rfl⟩ := List.mem_map.1 hx
    exact (hq z hz).2
theorem rd_vr : RdK enc W vrK fVr 140 := by
  intro cs n y h hw
  obtain ⟨xs, n', rfl, hy, hl, hxl, hf⟩ := DataW.trod_struct Tryz.underlying140 h
  have h3 : Tryz.prog.cellsOf 140 = 2 := by kernel_rfl
  have k0 : Tryz.prog.cellsOf 9 = 1 := by kernel_rfl
  rw [h3] at hl
  obtain ⟨c0, c1, rfl⟩ : ∃ c0 c1, cs = [c0, c1] := by
    rcases cs with _ | ⟨c0, _ | ⟨c1, _ | ⟨c2, cs⟩⟩⟩ <;> simp at hl
    exact ⟨_, _, rfl⟩
  have t0 := hf 0 _ rfl
  have t1 := hf 1 _ rfl
  simp only [List.getElem_toArray, List.getElem_cons_zero, List.getElem_cons_succ] at t0 t1
  simp only [k0, List.drop_zero, List.drop_succ_cons, List.take_succ_cons, List.take_zero] at t0 t1
  have hx : xs.length = 2 := hxl
  rw [List.getElem?_eq_getElem (by omega)] at t0 t1
  rw [hy] at hw
  obtain ⟨s0, ⟨e0, z0⟩, _⟩ := rd_tx _ _ _ t0 (part_w Tryz.underlying140 hw (j := 0) rfl (by omega))
  obtain ⟨s1, ⟨e1, z1⟩, _⟩ := rd_tx _ _ _ t1 (part_w Tryz.underlying140 hw (j := 1) rfl (by omega))
  simp at e0 e1
  subst e0 e1
  exact ⟨(s0, s1), ⟨rfl, z0, z1⟩, trivial⟩
theorem rd_st : RdK enc W stK fSt 70 := by
  intro cs n y h hw
  obtain ⟨xs, n', rfl, hy, hl, hxl, hf⟩ := DataW.trod_struct Tryz.underlying70 h
  have h3 : Tryz.prog.cellsOf 70 = 3 := by kernel_rfl
  have k0 : Tryz.prog.cellsOf 3 = 1 := by kernel_rfl
  have k1 : Tryz.prog.cellsOf 9 = 1 := by kernel_rfl
  rw [h3] at hl
  obtain ⟨c0, c1, c2, rfl⟩ : ∃ c0 c1 c2, cs = [c0, c1, c2] := by
    rcases cs with _ | ⟨c0, _ | ⟨c1, _ | ⟨c2, _ | ⟨c3, cs⟩⟩⟩⟩ <;> simp at hl
    exact ⟨_, _, _, rfl⟩
  have t0 := hf 0 _ rfl
  have t1 := hf 1 _ rfl
  have t2 := hf 2 _ rfl
  simp only [List.getElem_toArray, List.getElem_cons_zero, List.getElem_cons_succ] at t0 t1 t2
  simp only [k0, k1, List.drop_zero, List.drop_succ_cons, List.take_succ_cons, List.take_zero] at t0 t1 t2
  have hx : xs.length = 3 := hxl
  rw [List.getElem?_eq_getElem (by omega)] at t0 t1 t2
  rw [hy] at hw
  obtain ⟨s0, e0, z0⟩ := rd_int t0
  obtain ⟨s1, ⟨e1, z1⟩, _⟩ := rd_tx _ _ _ t1 (part_w Tryz.underlying70 hw (j := 1) rfl (by omega))
  obtain ⟨s2, ⟨e2, z2⟩, _⟩ := rd_tx _ _ _ t2 (part_w Tryz.underlying70 hw (j := 2) rfl (by omega))
  simp at e0 e1 e2
  subst e0 e1 e2
  exact ⟨⟨s0, s1, s2⟩, ⟨rfl, z0, z1, z2⟩, trivial⟩
theorem rd_in : RdK enc W inK fIn 117 := by
  intro cs n y h hw
  obtain ⟨xs, n', rfl, hy, hl, hxl, hf⟩ := DataW.trod_struct Tryz.underlying117 h
  have h3 : Tryz.prog.cellsOf 117 = 4 := by kernel_rfl
  have k0 : Tryz.prog.cellsOf 3 = 1 := by kernel_rfl
  rw [h3] at hl
  obtain ⟨c0, c1, c2, c3, rfl⟩ : ∃ c0 c1 c2 c3, cs = [c0, c1, c2, c3] := by
    rcases cs with _ | ⟨c0, _ | ⟨c1, _ | ⟨c2, _ | ⟨c3, _ | ⟨c4, cs⟩⟩⟩⟩⟩ <;> simp at hl
    exact ⟨_, _, _, _, rfl⟩
  have t0 := hf 0 _ rfl
  have t1 := hf 1 _ rfl
  have t2 := hf 2 _ rfl
  have t3 := hf 3 _ rfl
  simp only [List.getElem_toArray, List.getElem_cons_zero, List.getElem_cons_succ] at t0 t1 t2 t3
  simp only [k0, List.drop_zero, List.drop_succ_cons, List.take_succ_cons, List.take_zero] at t0 t1 t2 t3
  have hx : xs.length = 4 := hxl
  rw [List.getElem?_eq_getElem (by omega)] at t0 t1 t2 t3
  rw [hy] at hw
  obtain ⟨s0, e0, z0⟩ := rd_int t0
  obtain ⟨s1, e1, z1⟩ := rd_int t1
  obtain ⟨s2, e2, z2⟩ := rd_int t2
  obtain ⟨s3, e3, z3⟩ := rd_int t3
  simp at e0 e1 e2 e3
  subst e0 e1 e2 e3
  exact ⟨⟨s0, s1, s2, s3⟩, ⟨rfl, z0, z1, z2, z3⟩, trivial⟩
theorem rd_sg : RdK enc W sgK fSg 120 := by
  intro cs n y h hw
  obtain ⟨xs, n', rfl, hy, hl, hxl, hf⟩ := DataW.trod_struct Tryz.underlying120 h
  have h3 : Tryz.prog.cellsOf 120 = 3 := by kernel_rfl
  have k0 : Tryz.prog.cellsOf 63 = 1 := by kernel_rfl
  have k1 : Tryz.prog.cellsOf 9 = 1 := by kernel_rfl
  rw [h3] at hl
  obtain ⟨c0, c1, c2, rfl⟩ : ∃ c0 c1 c2, cs = [c0, c1, c2] := by
    rcases cs with _ | ⟨c0, _ | ⟨c1, _ | ⟨c2, _ | ⟨c3, cs⟩⟩⟩⟩ <;> simp at hl
    exact ⟨_, _, _, rfl⟩
  have t0 := hf 0 _ rfl
  have t1 := hf 1 _ rfl
  have t2 := hf 2 _ rfl
  simp only [List.getElem_toArray, List.getElem_cons_zero, List.getElem_cons_succ] at t0 t1 t2
  simp only [k0, k1, List.drop_zero, List.drop_succ_cons, List.take_succ_cons, List.take_zero] at t0 t1 t2
  have hx : xs.length = 3 := hxl
  rw [List.getElem?_eq_getElem (by omega)] at t0 t1 t2
  rw [hy] at hw
  obtain ⟨s0, ⟨e0, z0⟩, _⟩ := rd_tx _ _ _ t0 (part_w Tryz.underlying120 hw (j := 0) rfl (by omega))
  obtain ⟨v1, s1, e1, z1, q1⟩ := rd_sl (bts := 32) (K := vrK) rd_vr (by decide) Tryz.underlying63 (by kernel_rfl) (by kernel_rfl) (by decide) t1 (part_w Tryz.underlying120 hw (j := 1) rfl (by omega))
  obtain ⟨s2, ⟨e2, z2⟩, _⟩ := rd_tx _ _ _ t2 (part_w Tryz.underlying120 hw (j := 2) rfl (by omega))
  simp at e0 e1 e2
  subst e0 e1 e2
  exact ⟨⟨s0, s1, s2⟩, ⟨_, rfl, z0, z2, z1⟩, q1.1⟩
theorem rd_cl : RdK enc W clK fCl 66 := by
  intro cs n y h hw
  obtain ⟨xs, n', rfl, hy, hl, hxl, hf⟩ := DataW.trod_struct Tryz.underlying66 h
  have h3 : Tryz.prog.cellsOf 66 = 4 := by kernel_rfl
  have k0 : Tryz.prog.cellsOf 64 = 1 := by kernel_rfl
  have k1 : Tryz.prog.cellsOf 63 = 1 := by kernel_rfl
  have k2 : Tryz.prog.cellsOf 9 = 1 := by kernel_rfl
  rw [h3] at hl
  obtain ⟨c0, c1, c2, c3, rfl⟩ : ∃ c0 c1 c2 c3, cs = [c0, c1, c2, c3] := by
    rcases cs with _ | ⟨c0, _ | ⟨c1, _ | ⟨c2, _ | ⟨c3, _ | ⟨c4, cs⟩⟩⟩⟩⟩ <;> simp at hl
    exact ⟨_, _, _, _, rfl⟩
  have t0 := hf 0 _ rfl
  have t1 := hf 1 _ rfl
  have t2 := hf 2 _ rfl
  have t3 := hf 3 _ rfl
  simp only [List.getElem_toArray, List.getElem_cons_zero, List.getElem_cons_succ] at t0 t1 t2 t3
  simp only [k0, k1, k2, List.drop_zero, List.drop_succ_cons, List.take_succ_cons, List.take_zero] at t0 t1 t2 t3
  have hx : xs.length = 4 := hxl
  rw [List.getElem?_eq_getElem (by omega)] at t0 t1 t2 t3
  rw [hy] at hw
  obtain ⟨s0, ⟨e0, z0⟩, _⟩ := rd_tx _ _ _ t0 (part_w Tryz.underlying66 hw (j := 0) rfl (by omega))
  obtain ⟨s1, ⟨e1, z1⟩, _⟩ := rd_tx _ _ _ t1 (part_w Tryz.underlying66 hw (j := 1) rfl (by omega))
  obtain ⟨v2, s2, e2, z2, q2⟩ := rd_sl (bts := 32) (K := vrK) rd_vr (by decide) Tryz.underlying63 (by kernel_rfl) (by kernel_rfl) (by decide) t2 (part_w Tryz.underlying66 hw (j := 2) rfl (by omega))
  obtain ⟨v3, s3, e3, z3, q3⟩ := rd_sl (bts := 56) (K := sgK) rd_sg (by decide) Tryz.underlying64 (by kernel_rfl) (by kernel_rfl) (by decide) t3 (part_w Tryz.underlying66 hw (j := 3) rfl (by omega))
  simp at e0 e1 e2 e3
  subst e0 e1 e2 e3
  exact ⟨⟨s0, s1, s2, s3⟩, ⟨_, _, rfl, z0, z1, z2, z3⟩, ⟨q2.1, q3.1, q3.2⟩⟩
theorem rd_fu : RdK enc W fuK fFu 48 := by
  intro cs n y h hw
  obtain ⟨xs, n', rfl, hy, hl, hxl, hf⟩ := DataW.trod_struct Tryz.underlying48 h
  have h3 : Tryz.prog.cellsOf 48 = 4 := by kernel_rfl
  have k0 : Tryz.prog.cellsOf 46 = 1 := by kernel_rfl
  have k1 : Tryz.prog.cellsOf 24 = 1 := by kernel_rfl
  have k2 : Tryz.prog.cellsOf 9 = 1 := by kernel_rfl
  rw [h3] at hl
  obtain ⟨c0, c1, c2, c3, rfl⟩ : ∃ c0 c1 c2 c3, cs = [c0, c1, c2, c3] := by
    rcases cs with _ | ⟨c0, _ | ⟨c1, _ | ⟨c2, _ | ⟨c3, _ | ⟨c4, cs⟩⟩⟩⟩⟩ <;> simp at hl
    exact ⟨_, _, _, _, rfl⟩
  have t0 := hf 0 _ rfl
  have t1 := hf 1 _ rfl
  have t2 := hf 2 _ rfl
  have t3 := hf 3 _ rfl
  simp only [List.getElem_toArray, List.getElem_cons_zero, List.getElem_cons_succ] at t0 t1 t2 t3
  simp only [k0, k1, k2, List.drop_zero, List.drop_succ_cons, List.take_succ_cons, List.take_zero] at t0 t1 t2 t3
  have hx : xs.length = 4 := hxl
  rw [List.getElem?_eq_getElem (by omega)] at t0 t1 t2 t3
  rw [hy] at hw
  obtain ⟨s0, ⟨e0, z0⟩, _⟩ := rd_tx _ _ _ t0 (part_w Tryz.underlying48 hw (j := 0) rfl (by omega))
  obtain ⟨s1, ⟨e1, z1⟩, _⟩ := rd_tx _ _ _ t1 (part_w Tryz.underlying48 hw (j := 1) rfl (by omega))
  obtain ⟨v2, s2, e2, z2, q2⟩ := rd_sl (bts := 16) (K := txK) rd_tx (by decide) Tryz.underlying24 (by kernel_rfl) (by kernel_rfl) (by decide) t2 (part_w Tryz.underlying48 hw (j := 2) rfl (by omega))
  obtain ⟨v3, s3, e3, z3, q3⟩ := rd_sl (bts := 32) (K := inK) rd_in (by decide) Tryz.underlying46 (by kernel_rfl) (by kernel_rfl) (by decide) t3 (part_w Tryz.underlying48 hw (j := 3) rfl (by omega))
  simp at e0 e1 e2 e3
  subst e0 e1 e2 e3
  exact ⟨⟨s0, s1, s2, s3⟩, ⟨_, _, rfl, z0, z1, z2, z3⟩, ⟨q2.1, q3.1⟩⟩
theorem rd_md : RdK enc W mdK fMd 27 := by
  intro cs n y h hw
  obtain ⟨xs, n', rfl, hy, hl, hxl, hf⟩ := DataW.trod_struct Tryz.underlying27 h
  have h3 : Tryz.prog.cellsOf 27 = 4 := by kernel_rfl
  have k0 : Tryz.prog.cellsOf 22 = 1 := by kernel_rfl
  have k1 : Tryz.prog.cellsOf 25 = 1 := by kernel_rfl
  have k2 : Tryz.prog.cellsOf 23 = 1 := by kernel_rfl
  have k3 : Tryz.prog.cellsOf 24 = 1 := by kernel_rfl
  rw [h3] at hl
  obtain ⟨c0, c1, c2, c3, rfl⟩ : ∃ c0 c1 c2 c3, cs = [c0, c1, c2, c3] := by
    rcases cs with _ | ⟨c0, _ | ⟨c1, _ | ⟨c2, _ | ⟨c3, _ | ⟨c4, cs⟩⟩⟩⟩⟩ <;> simp at hl
    exact ⟨_, _, _, _, rfl⟩
  have t0 := hf 0 _ rfl
  have t1 := hf 1 _ rfl
  have t2 := hf 2 _ rfl
  have t3 := hf 3 _ rfl
  simp only [List.getElem_toArray, List.getElem_cons_zero, List.getElem_cons_succ] at t0 t1 t2 t3
  simp only [k0, k1, k2, k3, List.drop_zero, List.drop_succ_cons, List.take_succ_cons, List.take_zero] at t0 t1 t2 t3
  have hx : xs.length = 4 := hxl
  rw [List.getElem?_eq_getElem (by omega)] at t0 t1 t2 t3
  rw [hy] at hw
  obtain ⟨v0, s0, e0, z0, q0⟩ := rd_sl (bts := 80) (K := clK) rd_cl (by decide) Tryz.underlying22 (by kernel_rfl) (by kernel_rfl) (by decide) t0 (part_w Tryz.underlying27 hw (j := 0) rfl (by omega))
  obtain ⟨v1, s1, e1, z1, q1⟩ := rd_sl (bts := 40) (K := stK) rd_st (by decide) Tryz.underlying23 (by kernel_rfl) (by kernel_rfl) (by decide) t1 (part_w Tryz.underlying27 hw (j := 1) rfl (by omega))
  obtain ⟨v2, s2, e2, z2, q2⟩ := rd_sl (bts := 16) (K := txK) rd_tx (by decide) Tryz.underlying24 (by kernel_rfl) (by kernel_rfl) (by decide) t2 (part_w Tryz.underlying27 hw (j := 2) rfl (by omega))
  obtain ⟨v3, s3, e3, z3, q3⟩ := rd_sl (bts := 80) (K := fuK) rd_fu (by decide) Tryz.underlying25 (by kernel_rfl) (by kernel_rfl) (by decide) t3 (part_w Tryz.underlying27 hw (j := 3) rfl (by omega))
  simp at e0 e1 e2 e3
  subst e0 e1 e2 e3
  exact ⟨⟨s0, s1, s2, s3⟩, ⟨_, _, _, _, rfl, z0, z1, z2, z3⟩, ⟨⟨q0.1, q0.2⟩, q1.1, q2.1, q3.1, q3.2⟩⟩
set_option maxRecDepth 100000 in
theorem open_md {base : Nat} {v : Value} {d : DataW H} {p : List MemPlace} (hv : Value.okWide Tryz.prog W .any base 27 v)
    (h : DataW.Trod enc Tryz.prog W 0 (fun _ => true) true 27 v d p) (hs : ∀ u ∈ d.weights Tryz.prog 27, u ≤ reachBytes) :
    ∃ (cs : List Value) (m : Md), v = .agg cs.toArray ∧ mdK.tells W cs m ∧ fMd m := by
  obtain ⟨cs, rfl, hsz⟩ := okWide_struct Tryz.underlying27 hv
  obtain ⟨fuel, hf⟩ := h
  obtain ⟨m, hm⟩ := rd_md _ _ _ hf hs
  exact ⟨cs.toList, m, rfl, hm⟩
end
end Go.Proofs.YtcapdmicekialaaGreat
