/- An argument that is a slice, read row by row, whatever its elements are. Over any program. -/
import Derived.Test.YtclejidkahpemaaDoorCells
import Derived.Deep.Slices
import Derived.ChangeSame
import Derived.SizedLaws
namespace Go.Proofs.YtclejidkahpemaaDoor
open Go.ChangeShapes Go.WideShapes Go.Deep Go.RowKit
section
variable {α : Type} {f : α → List Value} {C : Nat}
theorem flat_len (hf : ∀ z, (f z).length = C) : ∀ zs : List α, (zs.flatMap f).length = zs.length * C
  | [] => by simp
  | z :: zs => by rw [List.flatMap_cons, List.length_append, hf, flat_len hf zs, List.length_cons, Nat.succ_mul, Nat.add_comm]
theorem flat_at (hf : ∀ z, (f z).length = C) : ∀ (zs : List α) (i r : Nat) (hi : i < zs.length), r < C → (zs.flatMap f)[i * C + r]? = (f zs[i])[r]?
  | z :: zs, 0, r, _, hr => by rw [List.flatMap_cons, List.getElem?_append_left (by rw [hf]; omega)]; simp
  | z :: zs, i + 1, r, hi, hr => by
    rw [List.flatMap_cons, List.getElem?_append_right (by rw [hf, Nat.succ_mul]; omega), hf, show (i + 1) * C + r - C = i * C + r by rw [Nat.succ_mul]; omega]
    rw [flat_at hf zs i r (by simpa using hi) hr]
    simp
variable {H : Type} {enc : TypeId × Value → H} {P : Program} {w : World}
theorem open_rows {Q : α → Prop} {t e : TypeId} {fuel : Nat} {cs : List Value} {x : DataW H × List MemPlace} (hf : ∀ z, (f z).length = C) (hpos : 0 < C) (ht : P.underlying t = some (.slice e)) (hC : P.cellsOf e = C)
    (rd : ∀ (cs : List Value) (n : Nat) (y : DataW H × List MemPlace), DataW.trod enc P w 0 (fun _ => true) true n e cs = some y → ∃ z, cs = f z ∧ Q z)
    (h : DataW.trod enc P w 0 (fun _ => true) true fuel t cs = some x) :
    ∃ (A : Option Addr) (c : Nat) (zs : List α), cs = [.slice A zs.length c] ∧ Reads w w.heap.size C A zs.length (zs.flatMap f) ∧ (∀ z ∈ zs, Q z) ∧ (zs.length ≤ c ∧ c ≤ maxLen) ∧ (zs = [] ∨ ∃ elems spare, x.1 = .slice elems spare ∧ elems.length = zs.length) := by
  rcases open_slice ht h with ⟨rfl, rfl⟩ | ⟨a, len, cap, m, n, D, Pl, hcs, hb, hl, hm, hmm, hx, hi⟩
  · refine ⟨none, 0, [], rfl, ⟨by simp, fun h => absurd h (by simp)⟩, ?_, ⟨Nat.le_refl _, Nat.zero_le _⟩, ?_⟩
    · intro z hz
      cases hz
    · exact .inl rfl
  · simp only [if_true] at hmm
    subst hmm
    rw [hC] at hi
    have each : ∀ i : Fin len, ∃ z, (∀ j, j < C → w.cell? ((a.add (i.val * C)).add j) = (f z)[j]?) ∧ Q z := fun i => by
      obtain ⟨cs', hc, hd⟩ := hi i.val (by omega)
      obtain ⟨z, rfl, hq⟩ := rd _ _ _ hd
      obtain ⟨_, _, hcell⟩ := World.cells?_some hc
      exact ⟨z, hcell, hq⟩
    obtain ⟨g, hg⟩ : ∃ g : Fin len → α, ∀ i, (∀ j, j < C → w.cell? ((a.add (i.val * C)).add j) = (f (g i))[j]?) ∧ Q (g i) := ⟨fun i => Classical.choose (each i), fun i => Classical.choose_spec (each i)⟩
    have hlen : (List.ofFn g).length = len := List.length_ofFn
    refine ⟨some a, m, List.ofFn g, by rw [hlen]; exact hcs, ⟨by rw [flat_len hf], fun hp => ?_⟩, fun z hz => ?_, ⟨by rw [hlen]; exact hl, hm⟩, .inr ⟨_, _, congrArg Prod.fst hx, ?_⟩⟩
    · rw [hlen] at hp
      refine ⟨a, rfl, ?_, fun j u hu => ?_⟩
      · have h0 := (hg ⟨0, hp⟩).1 0 hpos
        rw [add_of_add] at h0
        have hz : ∃ v, (f (g ⟨0, hp⟩))[0]? = some v := ⟨_, List.getElem?_eq_getElem (by rw [hf]; exact hpos)⟩
        obtain ⟨v, hv⟩ := hz
        rw [hv] at h0
        have := cell_lt h0
        rwa [block_of_add] at this
      · have hj : j < len * C := by
          have := (List.getElem?_eq_some_iff.1 hu).1
          rwa [flat_len hf, hlen] at this
        have hd : j / C < len := Nat.div_lt_of_lt_mul (by rw [Nat.mul_comm]; exact hj)
        have hr : j % C < C := Nat.mod_lt _ hpos
        have he : j / C * C + j % C = j := by rw [Nat.mul_comm]; exact Nat.div_add_mod j C
        have h1 := flat_at hf (List.ofFn g) (j / C) (j % C) (by rw [hlen]; exact hd) hr
        rw [he, hu, List.getElem_ofFn] at h1
        rw [h1, ← (hg ⟨j / C, hd⟩).1 _ hr, add_of_add, he]
    · obtain ⟨i, hi, rfl⟩ := List.mem_iff_getElem.1 hz
      rw [List.getElem_ofFn]
      exact (hg _).2
    · rw [List.length_map, List.length_range, hlen]
theorem mem_weightsAll {d : DataW H} {e : TypeId} : ∀ {l : List (DataW H)} {u : Nat}, d ∈ l → u ∈ d.weights P e → u ∈ DataW.weightsAll P e l
  | x :: l, u, hd, hu => by
    simp only [DataW.weightsAll]
    rcases List.mem_cons.1 hd with rfl | hd
    · exact List.mem_append_left _ hu
    · exact List.mem_append_right _ (mem_weightsAll hd hu)
theorem open_rows_w {Q : α → Prop} {t e : TypeId} {fuel : Nat} {cs : List Value} {x : DataW H × List MemPlace} (hf : ∀ z, (f z).length = C) (hpos : 0 < C) (ht : P.underlying t = some (.slice e)) (hC : P.cellsOf e = C)
    (rd : ∀ (cs : List Value) (n : Nat) (y : DataW H × List MemPlace), DataW.trod enc P w 0 (fun _ => true) true n e cs = some y → (∀ u ∈ y.1.weights P e, u ≤ reachBytes) → ∃ z, cs = f z ∧ Q z)
    (h : DataW.trod enc P w 0 (fun _ => true) true fuel t cs = some x) (hw : ∀ u ∈ x.1.weights P t, u ≤ reachBytes) :
    ∃ (A : Option Addr) (c : Nat) (zs : List α), cs = [.slice A zs.length c] ∧ Reads w w.heap.size C A zs.length (zs.flatMap f) ∧ (∀ z ∈ zs, Q z) ∧ (zs.length ≤ c ∧ c ≤ maxLen) ∧ zs.length * P.bytesOf e ≤ reachBytes := by
  rcases open_slice ht h with ⟨rfl, rfl⟩ | ⟨a, len, cap, m, n, D, Pl, hcs, hb, hl, hm, hmm, hx, hi⟩
  · refine ⟨none, 0, [], rfl, ⟨by simp, fun h => absurd h (by simp)⟩, ?_, ⟨Nat.le_refl _, Nat.zero_le _⟩, ?_⟩
    · intro z hz
      cases hz
    · simp
  · simp only [if_true] at hmm
    subst hmm
    rw [hC] at hi
    have each : ∀ i : Fin len, ∃ z, (∀ j, j < C → w.cell? ((a.add (i.val * C)).add j) = (f z)[j]?) ∧ Q z := fun i => by
      obtain ⟨cs', hc, hd⟩ := hi i.val (by omega)
      obtain ⟨z, rfl, hq⟩ := rd _ _ _ hd (fun u hu => hw u (by
        rw [hx]
        simp only [DataW.weights, ht]
        refine List.mem_cons_of_mem _ (List.mem_append_left _ ?_)
        exact mem_weightsAll (List.mem_map.2 ⟨i.val, List.mem_range.2 i.isLt, rfl⟩) hu))
      obtain ⟨_, _, hcell⟩ := World.cells?_some hc
      exact ⟨z, hcell, hq⟩
    obtain ⟨g, hg⟩ : ∃ g : Fin len → α, ∀ i, (∀ j, j < C → w.cell? ((a.add (i.val * C)).add j) = (f (g i))[j]?) ∧ Q (g i) := ⟨fun i => Classical.choose (each i), fun i => Classical.choose_spec (each i)⟩
    have hlen : (List.ofFn g).length = len := List.length_ofFn
    refine ⟨some a, m, List.ofFn g, by rw [hlen]; exact hcs, ⟨by rw [flat_len hf], fun hp => ?_⟩, fun z hz => ?_, ⟨by rw [hlen]; exact hl, hm⟩, ?_⟩
    · rw [hlen] at hp
      refine ⟨a, rfl, ?_, fun j u hu => ?_⟩
      · have h0 := (hg ⟨0, hp⟩).1 0 hpos
        rw [add_of_add] at h0
        have hz : ∃ v, (f (g ⟨0, hp⟩))[0]? = some v := ⟨_, List.getElem?_eq_getElem (by rw [hf]; exact hpos)⟩
        obtain ⟨v, hv⟩ := hz
        rw [hv] at h0
        have := cell_lt h0
        rwa [block_of_add] at this
      · have hj : j < len * C := by
          have := (List.getElem?_eq_some_iff.1 hu).1
          rwa [flat_len hf, hlen] at this
        have hd : j / C < len := Nat.div_lt_of_lt_mul (by rw [Nat.mul_comm]; exact hj)
        have hr : j % C < C := Nat.mod_lt _ hpos
        have he : j / C * C + j % C = j := by rw [Nat.mul_comm]; exact Nat.div_add_mod j C
        have h1 := flat_at hf (List.ofFn g) (j / C) (j % C) (by rw [hlen]; exact hd) hr
        rw [he, hu, List.getElem_ofFn] at h1
        rw [h1, ← (hg ⟨j / C, hd⟩).1 _ hr, add_of_add, he]
    · obtain ⟨i, hi, rfl⟩ := List.mem_iff_getElem.1 hz
      rw [List.getElem_ofFn]
      exact (hg _).2
    · have h1 := hw ((((List.range len).map D).length + ((List.range (m - len)).map fun j => D (len + j)).length) * P.bytesOf e) (by
        rw [hx]
        simp only [DataW.weights, ht]
        exact List.mem_cons_self ..)
      rw [List.length_map, List.length_range] at h1
      rw [hlen]
      refine Nat.le_trans (Nat.mul_le_mul_right _ (Nat.le_add_right _ _)) h1
end
end Go.Proofs.YtclejidkahpemaaDoor
