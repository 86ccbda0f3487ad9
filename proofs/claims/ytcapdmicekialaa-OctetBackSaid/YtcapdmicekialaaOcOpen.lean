/- The law's list of items, opened. -/
import Derived.Test.YtcapdmicekialaaRows
import Derived.Test.YtcapdmicekialaaOcWrites
import Derived.Test.YtcapdmicekialaaOpenS
import Derived.WalkKit
import Derived.ProofKit
import Derived.OpenShut
import Derived.ShutString
import Derived.ChangeOld
import Derived.Below
import Derived.SizedLaws
namespace Go.Proofs.Ytcapdmicekialaa
open Go.ChangeShapes Go.WideShapes Go.ChangeAt Go.RowKit
theorem laid_out : laidOutB Try.prog = true := by kernel_rfl
theorem bd_int {x : Int} (h : (Lit.int .i64 x).wf = true) : -9223372036854775808 ≤ x ∧ x ≤ 9223372036854775807 := by
  simp only [Lit.wf, IntKind.min, IntKind.max, IntKind.signed, IntKind.bits, Bool.and_eq_true, decide_eq_true_eq] at h
  simp at h; exact h
set_option maxRecDepth 100000 in
theorem open_items {H : Type} {enc : TypeId × Value → H} {W : World} {base : Nat} {v : Value} {d : DataW H} {p : List MemPlace} (hv : Value.okWide Try.prog W .any base 22 v)
    (h : DataW.Trod enc Try.prog W 0 (fun _ => true) true 22 v d p) (hs : ∀ elems spare, d = .slice elems spare → (elems.length + spare.length) * Try.prog.bytesOf 33 ≤ reachBytes) :
    ∃ A c its, v = .slice A its.length c ∧ Items W A its ∧ ItemsOk its ∧ its.length ≤ 140737488351232 := by
  obtain ⟨a0, len, cap, rfl⟩ := okWide_slice Try.underlying22 hv
  obtain ⟨fuel, hf⟩ := h
  rcases open_slice_fields Try.underlying22 Try.underlying33 (by kernel_rfl) (by kernel_rfl) hf with ⟨hcs, hx⟩ | ⟨a, len', cap', m, D, Pl, hcs, _, hlc, hcm, hm, hx, hel⟩
  · simp [Value.cells] at hcs
    obtain ⟨rfl, rfl, rfl⟩ := hcs
    exact ⟨none, 0, [], rfl, fun h => by simp at h, fun i h => by simp at h, by decide⟩
  · simp [Value.cells] at hcs
    obtain ⟨rfl, rfl, rfl⟩ := hcs
    simp only [if_true] at hm
    subst hm
    have each : ∀ i : Fin len, ∃ it : Item, W.cell? (a.add (i.val * 3)) = some (.int .i64 it.k) ∧ W.cell? (a.add (i.val * 3 + 1)) = some (.int .i64 it.n) ∧ W.cell? (a.add (i.val * 3 + 2)) = some (.string it.s) ∧ -9223372036854775808 ≤ it.n ∧ it.n ≤ 9223372036854775807 := by
      intro i
      obtain ⟨ys, n, _, _, _, hfi⟩ := hel i.val (by omega)
      obtain ⟨v0, y0, c0, _, t0⟩ := hfi 0 _ rfl
      obtain ⟨v1, y1, c1, _, t1⟩ := hfi 1 _ rfl
      obtain ⟨v2, y2, c2, _, t2⟩ := hfi 2 _ rfl
      obtain ⟨k, e0, _, _⟩ := DataW.trod_int Try.underlying3 t0
      obtain ⟨nn, e1, _, wn⟩ := DataW.trod_int Try.underlying3 t1
      obtain ⟨s, e2, _, _⟩ := DataW.trod_string Try.underlying9 t2
      simp at e0 e1 e2
      subst e0 e1 e2
      exact ⟨⟨k, nn, s⟩, c0, c1, c2, (bd_int wn).1, (bd_int wn).2⟩
    obtain ⟨f, hfx⟩ : ∃ f : Fin len → Item, ∀ i, W.cell? (a.add (i.val * 3)) = some (.int .i64 (f i).k) ∧ W.cell? (a.add (i.val * 3 + 1)) = some (.int .i64 (f i).n) ∧ W.cell? (a.add (i.val * 3 + 2)) = some (.string (f i).s) ∧ -9223372036854775808 ≤ (f i).n ∧ (f i).n ≤ 9223372036854775807 := ⟨fun i => Classical.choose (each i), fun i => Classical.choose_spec (each i)⟩
    refine ⟨some a, _, List.ofFn f, by rw [List.length_ofFn], fun hp => ?_, fun i hi => ?_, ?_⟩
    · rw [List.length_ofFn] at hp
      obtain ⟨b, off, spot⟩ := a
      have h0 := (hfx ⟨0, hp⟩).1
      simp only [Nat.zero_mul] at h0
      rw [show (⟨b, off, spot⟩ : Addr).add 0 = ⟨b, off, spot⟩ from rfl] at h0
      have hspot : spot = none := by simpa using World.cell?_spot h0
      subst hspot
      refine ⟨b, off, rfl, lt_of_cell h0, ⟨fun i hi => ?_, fun i hi => ?_, fun i hi => ?_⟩⟩
      all_goals
        rw [List.length_ofFn] at hi
        have hh := hfx ⟨i, hi⟩
        rw [List.getElem_ofFn]
      · rw [← hh.1, ← add_plain]
      · rw [← hh.2.1, Nat.add_assoc, ← add_plain]
      · rw [← hh.2.2.1, Nat.add_assoc, ← add_plain]
    · rw [List.length_ofFn] at hi
      rw [List.getElem_ofFn]
      exact (hfx ⟨i, hi⟩).2.2.2
    · rw [List.length_ofFn]
      have hd := (Prod.mk.injEq _ _ _ _).mp hx
      have := hs _ _ hd.1
      rw [List.length_map, List.length_range] at this
      have hb : Try.prog.bytesOf 33 = 32 := by kernel_rfl
      rw [hb] at this
      simp only [reachBytes] at this
      omega
end Go.Proofs.Ytcapdmicekialaa
