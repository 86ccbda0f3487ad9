/- Regions that draw their order and hold two effects in either order, the second of which may be moved up ahead of the first: two walks. (Either.lean exchanges the two; here one is moved.) Over any program. -/
import Derived.Test.YtclejidkahpemaaDoorEither
namespace Go.Proofs.YtclejidkahpemaaDoor
open Go.RowKit
set_option linter.unusedVariables false
def trR (π σ : Nat → Nat) (a b : Nat) (l : List Oper) : List Oper := (List.range l.length).map fun p => trO π a b (σ p) (l.getD (σ p) default)
section
variable {P : Program} {md : Region.Mode} {Q : Exit → Act → World → Prop}
variable {π σ : Nat → Nat} {a b : Nat} {l : List Oper}
theorem trR_get (hinv : ∀ k, σ (π k) = k) (hlt : ∀ k, π k < l.length ↔ k < l.length) (k : Nat) : (trR π σ a b l).toArray[π k]? = (l.toArray[k]?).map (trO π a b k) := by
  unfold trR
  simp only [List.getElem?_toArray, List.getElem?_map]
  by_cases hk : k < l.length
  · rw [List.getElem?_range ((hlt k).2 hk), List.getElem?_eq_getElem hk]
    simp [hinv, hk]
  · rw [List.getElem?_eq_none (by simpa using fun h => hk ((hlt k).1 h)), List.getElem?_eq_none (by omega)]
    rfl
theorem wpOp_tR (hinv : ∀ k, σ (π k) = k) (hlt : ∀ k, π k < l.length ↔ k < l.length) (hg : l.all (fun o => o.guard.isNone) = true) (k : Nat) (K : Act → World → Prop) (x : Act) (w : World) (h : wpOp P (trR π σ a b l).toArray Q (π k) K x w) : wpOp P l.toArray Q k K x w := by
  unfold wpOp at *
  rw [trR_get hinv hlt] at h
  cases ho : l.toArray[k]? with
  | none => rw [ho] at h; exact h
  | some o =>
    rw [ho] at h
    simp only [Option.map_some] at h ⊢
    have hno : o.guard = none := by
      have h1 : o ∈ l := by
        have : l[k]? = some o := by simpa using ho
        exact List.mem_of_getElem? this
      have := List.all_eq_true.1 hg o h1
      simpa using this
    have hn2 : (trO π a b k o).guard = none := hno
    rw [if_pos (by simp [Region.wanted, hn2]), wp_trO, asks_trO] at h
    rw [if_pos (by simp [Region.wanted, hno])]
    exact h
theorem wpOps_tR (hinv : ∀ k, σ (π k) = k) (hlt : ∀ k, π k < l.length ↔ k < l.length) (hg : l.all (fun o => o.guard.isNone) = true) : ∀ (t : List Nat) (x : Act) (w : World), wpOps P (trR π σ a b l).toArray Q (t.map π) x w → wpOps P l.toArray Q t x w
  | [], x, w, h => h
  | k :: t, x, w, h => by
    rw [List.map_cons, wpOps_cons] at h
    rw [wpOps_cons]
    exact wpOp_mono (fun x w h => wpOps_tR hinv hlt hg t x w h) (wpOp_tR hinv hlt hg k _ x w h)
theorem ready_tR (hinv : ∀ k, σ (π k) = k) (hlt : ∀ k, π k < l.length ↔ k < l.length) {L L' : Array Bool} (hL : ∀ k x, L'.getD (π k) x = L.getD k x) (k : Nat) :
    (π k ∈ Region.ready md (trR π σ a b l).toArray L' → k ∈ Region.ready md l.toArray L) ∧ (k ∈ Region.ready md l.toArray L → (k = b → L.getD a false = true) → π k ∈ Region.ready md (trR π σ a b l).toArray L') := by
  rw [mem_ready, mem_ready, trR_get hinv hlt, hL]
  constructor
  · rintro ⟨h1, o', h2, h3⟩
    refine ⟨h1, ?_⟩
    cases ho : l.toArray[k]? with
    | none => rw [ho] at h2; simp at h2
    | some o =>
      rw [ho] at h2
      simp only [Option.map_some, Option.some.injEq] at h2
      subst h2
      refine ⟨o, rfl, fun e he hb => ?_⟩
      have h4 := h3 { e with on := π e.on } (by
        unfold trO
        simp only [Array.mem_map]
        refine ⟨e, ?_, rfl⟩
        split
        · exact Array.mem_push_of_mem _ he
        · exact he) (by cases e; exact hb)
      simpa [hL] using h4
  · rintro ⟨h1, o, h2, h3⟩ h4
    refine ⟨h1, trO π a b k o, by rw [h2]; rfl, fun e he hb => ?_⟩
    unfold trO at he
    simp only [Array.mem_map] at he
    obtain ⟨e0, he0, rfl⟩ := he
    simp only [hL]
    have hb0 : Region.binds md e0 = true := by cases e0; exact hb
    split at he0
    · rename_i hkb
      rcases Array.mem_push.1 he0 with he0 | rfl
      · exact h3 e0 he0 hb0
      · exact h4 hkb
    · exact h3 e0 he0 hb0
theorem linF_tR (hinv : ∀ k, σ (π k) = k) (hinv' : ∀ k, π (σ k) = k) (hlt : ∀ k, π k < l.length ↔ k < l.length) (hab : a ≠ b) (ha : a < l.length) : ∀ (n : Nat) (L L' : Array Bool) (t : List Nat), L.size = l.length → L'.size = l.length → (∀ k x, L'.getD (π k) x = L.getD k x) → (L.getD a false = true ∨ bef a b t = true) →
    LinF md l.toArray n L t → LinF md (trR π σ a b l).toArray n L' (t.map π)
  | 0, L, L', t, _, _, _, _, h => by
    unfold LinF at *
    rw [h]; rfl
  | n + 1, L, L', t, hs, hs', hL, hb, h => by
    rcases h with ⟨hr, rfl⟩ | ⟨k, hk, t, rfl, ht⟩
    · refine .inl ⟨?_, rfl⟩
      cases hr2 : Region.ready md (trR π σ a b l).toArray L' with
      | nil => rfl
      | cons x xs =>
        have h1 : π (σ x) ∈ Region.ready md (trR π σ a b l).toArray L' := by rw [hinv', hr2]; exact List.mem_cons_self ..
        have h2 := (ready_tR (md := md) (a := a) (b := b) hinv hlt hL (σ x)).1 h1
        rw [hr] at h2; cases h2
    · refine .inr ⟨π k, (ready_tR (md := md) hinv hlt hL k).2 hk fun hkb => ?_, t.map π, rfl, linF_tR hinv hinv' hlt hab ha n _ _ t (by simpa using hs) (by simpa using hs') (fun m x => ?_) ?_ ht⟩
      · rcases hb with hb | hb
        · exact hb
        · subst hkb
          unfold bef at hb
          rw [if_neg (Ne.symm hab), if_pos rfl] at hb
          cases hb
      · by_cases e : k = m
        · subst e
          have h1 : k < l.length ↔ π k < l.length := (hlt k).symm
          rcases Nat.lt_or_ge k l.length with h2 | h2
          · simp [hs, hs', h2, h1.1 h2]
          · have h3 : ¬ π k < l.length := fun h => by have := h1.2 h; omega
            simp [hs, hs', Nat.not_lt.2 h2, h3]
        · rw [getD_set_ne x e, getD_set_ne x (fun h => e (by rw [← hinv k, h, hinv])), hL]
      · by_cases hka : k = a
        · left
          subst hka
          simp [hs, ha]
        · rcases hb with hb | hb
          · left; rw [getD_set_ne false hka]; exact hb
          · unfold bef at hb
            rw [if_neg hka] at hb
            by_cases hkb : k = b
            · rw [if_pos hkb] at hb; cases hb
            · rw [if_neg hkb] at hb; exact .inr hb
theorem trR_length (π σ : Nat → Nat) (a b : Nat) (l : List Oper) : (trR π σ a b l).length = l.length := by unfold trR; simp
def frontP (i j k : Nat) : Nat := if k = j then i else if i ≤ k ∧ k < j then k + 1 else k
def frontS (i j p : Nat) : Nat := if p = i then j else if i < p ∧ p ≤ j then p - 1 else p
theorem front_inv {i j : Nat} (h : i < j) (k : Nat) : frontS i j (frontP i j k) = k := by
  unfold frontS frontP
  repeat' split
  all_goals omega
theorem front_inv' {i j : Nat} (h : i < j) (k : Nat) : frontP i j (frontS i j k) = k := by
  unfold frontS frontP
  repeat' split
  all_goals omega
theorem front_lt {i j n k : Nat} (h : i < j) (hj : j < n) : frontP i j k < n ↔ k < n := by
  unfold frontP
  repeat' split
  all_goals omega
/-- A region with two effects i and j (i the first in the text) in either order: i first (the text with one more 'after'), or j first (the text with j moved up ahead of i). -/
theorem wp_region_front {id : Nat} {x : Act} {w : World} {l : List Oper} (i j : Nat) (hm : P.follows .mixedOrders = true) (hij : i < j) (hj : j < l.length) (hg : l.all (fun o => o.guard.isNone) = true)
    (h1 : wpAny P .any (trR (fun k => k) (fun k => k) i j l).toArray Q (trR (fun k => k) (fun k => k) i j l).toArray.size (Array.replicate (trR (fun k => k) (fun k => k) i j l).toArray.size false) x w.drew)
    (h2 : wpAny P .any (trR (frontP i j) (frontS i j) j i l).toArray Q (trR (frontP i j) (frontS i j) j i l).toArray.size (Array.replicate (trR (frontP i j) (frontS i j) j i l).toArray.size false) x w.drew) : (Code.region id l.toArray true).wp P Q x w := by
  have hne : i ≠ j := by omega
  refine wp_region_draw fun t => ?_
  simp only [Region.schedule, hm, Bool.true_or, if_true]
  have hlin : LinF .any l.toArray l.length (Array.replicate l.length false) (Region.linearise .any l.toArray t) := by
    have := linF_go (md := .any) l.toArray l.length t (Array.replicate l.length false)
    simpa [Region.linearise] using this
  have hrep : ∀ (π : Nat → Nat), (∀ k, π k < l.length ↔ k < l.length) → ∀ k x, (Array.replicate l.length false).getD (π k) x = (Array.replicate l.length false).getD k x := fun π hπ k x => by
    rcases Nat.lt_or_ge k l.length with h | h
    · simp [h, (hπ k).2 h]
    · have h3 : ¬ π k < l.length := fun hh => by have := (hπ k).1 hh; omega
      simp [Nat.not_lt.2 h, h3]
  rcases bef_or i j hne (Region.linearise .any l.toArray t) with hb | hb
  · have hl := linF_tR (π := fun k => k) (σ := fun k => k) (fun _ => rfl) (fun _ => rfl) (fun _ => Iff.rfl) hne (by omega) l.length _ (Array.replicate l.length false) _ (by simp) (by simp) (fun _ _ => rfl) (.inr hb) hlin
    refine wpOps_tR (π := fun k => k) (σ := fun k => k) (a := i) (b := j) (fun _ => rfl) (fun _ => Iff.rfl) hg _ _ _ ?_
    simp only [List.size_toArray, trR_length] at h1
    exact linF_wp h1 hl
  · have hlt : ∀ k, frontP i j k < l.length ↔ k < l.length := fun k => front_lt hij hj
    have hl := linF_tR (π := frontP i j) (σ := frontS i j) (front_inv hij) (front_inv' hij) hlt (Ne.symm hne) hj l.length _ (Array.replicate l.length false) _ (by simp) (by simp) (hrep _ hlt) (.inr hb) hlin
    refine wpOps_tR (π := frontP i j) (σ := frontS i j) (a := j) (b := i) (front_inv hij) hlt hg _ _ _ ?_
    simp only [List.size_toArray, trR_length] at h2
    exact linF_wp h2 hl
end
end Go.Proofs.YtclejidkahpemaaDoor
