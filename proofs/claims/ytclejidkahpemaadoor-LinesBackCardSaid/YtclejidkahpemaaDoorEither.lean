/- Regions that draw their order and hold two effects in either order: two walks, one with the one first, one with the other first (its text with these two exchanged). Over any program. -/
import Derived.Test.YtclejidkahpemaaDoorText
namespace Go.Proofs.YtclejidkahpemaaDoor
open Go.RowKit
set_option linter.unusedVariables false
/-- An operation with its places renamed; number b waits for a too. -/
def trO (π : Nat → Nat) (a b k : Nat) (o : Oper) : Oper :=
  { o with after := (if k = b then o.after.push { on := a, ground := .data } else o.after).map fun e => { e with on := π e.on } }
def trL (π : Nat → Nat) (a b : Nat) (l : List Oper) : List Oper := (List.range l.length).map fun k => trO π a b (π k) (l.getD (π k) default)
def swp (i j k : Nat) : Nat := if k = i then j else if k = j then i else k
/-- An order in which the operations may come, of at most so many. -/
def LinF (md : Region.Mode) (ops : Array Oper) : Nat → Array Bool → List Nat → Prop
  | 0, _, l => l = []
  | n + 1, L, l => (Region.ready md ops L = [] ∧ l = []) ∨ ∃ i ∈ Region.ready md ops L, ∃ t, l = i :: t ∧ LinF md ops n (L.setIfInBounds i true) t
/-- a comes ahead of b. -/
def bef (a b : Nat) : List Nat → Bool
  | [] => true
  | k :: t => if k = a then true else if k = b then false else bef a b t
theorem bef_or (a b : Nat) (h : a ≠ b) : ∀ l, bef a b l = true ∨ bef b a l = true
  | [] => .inl rfl
  | k :: t => by
    unfold bef
    by_cases h1 : k = a
    · left; rw [if_pos h1]
    · by_cases h2 : k = b
      · right; rw [if_pos h2]
      · rw [if_neg h1, if_neg h2, if_neg h2, if_neg h1]; exact bef_or a b h t
section
variable {P : Program} {md : Region.Mode} {Q : Exit → Act → World → Prop}
theorem linF_go (ops : Array Oper) : ∀ (n t : Nat) (L : Array Bool), LinF md ops n L (Region.linearise.go md ops n t L [])
  | 0, t, L => by simp [Region.linearise.go, LinF]
  | n + 1, t, L => by
    simp only [Region.linearise.go]
    change LinF md ops (n + 1) L (match (Region.ready md ops L)[t % (Region.ready md ops L).length]? with
      | some i => Region.linearise.go md ops n (t / (Region.ready md ops L).length) (L.setIfInBounds i true) [i]
      | none => [].reverse)
    cases hi : (Region.ready md ops L)[t % (Region.ready md ops L).length]? with
    | none =>
      refine .inl ⟨?_, rfl⟩
      cases hr : Region.ready md ops L with
      | nil => rfl
      | cons x xs =>
        rw [hr] at hi
        have hlt : t % (x :: xs).length < (x :: xs).length := Nat.mod_lt _ (by simp)
        simp at hi
        simp at hlt
        omega
    | some i =>
      simp only
      rw [linearise_go_acc, List.reverse_singleton, List.singleton_append]
      exact .inr ⟨i, List.mem_of_getElem? hi, _, rfl, linF_go ops n _ _⟩
theorem linF_wp {ops : Array Oper} : ∀ {n : Nat} {L : Array Bool} {l : List Nat} {a : Act} {w : World}, wpAny P md ops Q n L a w → LinF md ops n L l → wpOps P ops Q l a w
  | 0, L, l, a, w, h, hl => by
    unfold LinF at hl
    subst hl
    exact h.2
  | n + 1, L, l, a, w, h, hl => by
    rcases hl with ⟨hr, rfl⟩ | ⟨i, hi, t, rfl, ht⟩
    · exact h.1 hr
    · rw [wpOps_cons]
      exact wpOp_mono (fun a w h => linF_wp h ht) (h.2 i hi)
theorem swp_inv (i j k : Nat) : swp i j (swp i j k) = k := by
  unfold swp
  by_cases h1 : k = i
  · subst h1
    rw [if_pos rfl]
    by_cases h2 : j = k
    · rw [if_pos h2, h2]
    · rw [if_neg h2, if_pos rfl]
  · rw [if_neg h1]
    by_cases h2 : k = j
    · subst h2; rw [if_pos rfl, if_pos rfl]
    · rw [if_neg h2, if_neg h1, if_neg h2]
theorem swp_lt {i j n k : Nat} (hi : i < n) (hj : j < n) : swp i j k < n ↔ k < n := by
  unfold swp
  split
  · omega
  · split <;> omega
theorem wp_trO (π : Nat → Nat) (a b k : Nat) (o : Oper) (x : Act) (w : World) (K : Act → World → Prop) : (trO π a b k o).wp P x w K Q = o.wp P x w K Q := by
  cases o; rfl
theorem asks_trO (π : Nat → Nat) (a b k : Nat) (o : Oper) (x : Act) (w : World) : (trO π a b k o).asks P x w = o.asks P x w := by
  cases o; rfl
variable {π : Nat → Nat} {a b : Nat} {l : List Oper}
theorem trL_get (hinv : ∀ k, π (π k) = k) (hlt : ∀ k, π k < l.length ↔ k < l.length) (k : Nat) : (trL π a b l).toArray[π k]? = (l.toArray[k]?).map (trO π a b k) := by
  unfold trL
  simp only [List.getElem?_toArray, List.getElem?_map]
  by_cases hk : k < l.length
  · rw [List.getElem?_range ((hlt k).2 hk), List.getElem?_eq_getElem hk]
    simp [hinv, hk]
  · rw [List.getElem?_eq_none (by simpa using fun h => hk ((hlt k).1 h)), List.getElem?_eq_none (by omega)]
    rfl
theorem wpOp_tr (hinv : ∀ k, π (π k) = k) (hlt : ∀ k, π k < l.length ↔ k < l.length) (hg : l.all (fun o => o.guard.isNone) = true) (k : Nat) (K : Act → World → Prop) (x : Act) (w : World) (h : wpOp P (trL π a b l).toArray Q (π k) K x w) : wpOp P l.toArray Q k K x w := by
  unfold wpOp at *
  rw [trL_get hinv hlt] at h
  cases ho : l.toArray[k]? with
  | none => rw [ho] at h; exact h
  | some o =>
    rw [ho] at h
    simp only [Option.map_some] at h ⊢
    have hno : o.guard = none := by
      have h1 : o ∈ l := by
        have : l[k]? = some o := by simpa using ho
        exact List.mem_of_getElem? this
      have := List.all_eq_true.1 hg o h1
      simpa using this
    have hn2 : (trO π a b k o).guard = none := hno
    rw [if_pos (by simp [Region.wanted, hn2]), wp_trO, asks_trO] at h
    rw [if_pos (by simp [Region.wanted, hno])]
    exact h
theorem wpOps_tr (hinv : ∀ k, π (π k) = k) (hlt : ∀ k, π k < l.length ↔ k < l.length) (hg : l.all (fun o => o.guard.isNone) = true) : ∀ (t : List Nat) (x : Act) (w : World), wpOps P (trL π a b l).toArray Q (t.map π) x w → wpOps P l.toArray Q t x w
  | [], x, w, h => h
  | k :: t, x, w, h => by
    rw [List.map_cons, wpOps_cons] at h
    rw [wpOps_cons]
    exact wpOp_mono (fun x w h => wpOps_tr hinv hlt hg t x w h) (wpOp_tr hinv hlt hg k _ x w h)
theorem ready_tr (hinv : ∀ k, π (π k) = k) (hlt : ∀ k, π k < l.length ↔ k < l.length) {L L' : Array Bool} (hL : ∀ k x, L'.getD (π k) x = L.getD k x) (k : Nat) :
    (π k ∈ Region.ready md (trL π a b l).toArray L' → k ∈ Region.ready md l.toArray L) ∧ (k ∈ Region.ready md l.toArray L → (k = b → L.getD a false = true) → π k ∈ Region.ready md (trL π a b l).toArray L') := by
  rw [mem_ready, mem_ready, trL_get hinv hlt, hL]
  constructor
  · rintro ⟨h1, o', h2, h3⟩
    refine ⟨h1, ?_⟩
    cases ho : l.toArray[k]? with
    | none => rw [ho] at h2; simp at h2
    | some o =>
      rw [ho] at h2
      simp only [Option.map_some, Option.some.injEq] at h2
      subst h2
      refine ⟨o, rfl, fun e he hb => ?_⟩
      have h4 := h3 { e with on := π e.on } (by
        unfold trO
        simp only [Array.mem_map]
        refine ⟨e, ?_, rfl⟩
        split
        · exact Array.mem_push_of_mem _ he
        · exact he) (by cases e; exact hb)
      simpa [hL] using h4
  · rintro ⟨h1, o, h2, h3⟩ h4
    refine ⟨h1, trO π a b k o, by rw [h2]; rfl, fun e he hb => ?_⟩
    unfold trO at he
    simp only [Array.mem_map] at he
    obtain ⟨e0, he0, rfl⟩ := he
    simp only [hL]
    have hb0 : Region.binds md e0 = true := by cases e0; exact hb
    split at he0
    · rename_i hkb
      rcases Array.mem_push.1 he0 with he0 | rfl
      · exact h3 e0 he0 hb0
      · exact h4 hkb
    · exact h3 e0 he0 hb0
theorem linF_tr (hinv : ∀ k, π (π k) = k) (hlt : ∀ k, π k < l.length ↔ k < l.length) (hab : a ≠ b) (ha : a < l.length) : ∀ (n : Nat) (L L' : Array Bool) (t : List Nat), L.size = l.length → L'.size = l.length → (∀ k x, L'.getD (π k) x = L.getD k x) → (L.getD a false = true ∨ bef a b t = true) →
    LinF md l.toArray n L t → LinF md (trL π a b l).toArray n L' (t.map π)
  | 0, L, L', t, _, _, _, _, h => by
    unfold LinF at *
    rw [h]; rfl
  | n + 1, L, L', t, hs, hs', hL, hb, h => by
    rcases h with ⟨hr, rfl⟩ | ⟨k, hk, t, rfl, ht⟩
    · refine .inl ⟨?_, rfl⟩
      cases hr2 : Region.ready md (trL π a b l).toArray L' with
      | nil => rfl
      | cons x xs =>
        have h1 : π (π x) ∈ Region.ready md (trL π a b l).toArray L' := by rw [hinv, hr2]; exact List.mem_cons_self ..
        have h2 := (ready_tr (md := md) (a := a) (b := b) hinv hlt hL (π x)).1 h1
        rw [hr] at h2; cases h2
    · refine .inr ⟨π k, (ready_tr (md := md) hinv hlt hL k).2 hk fun hkb => ?_, t.map π, rfl, linF_tr hinv hlt hab ha n _ _ t (by simpa using hs) (by simpa using hs') (fun m x => ?_) ?_ ht⟩
      · rcases hb with hb | hb
        · exact hb
        · subst hkb
          unfold bef at hb
          rw [if_neg (Ne.symm hab), if_pos rfl] at hb
          cases hb
      · by_cases e : k = m
        · subst e
          have h1 : k < l.length ↔ π k < l.length := (hlt k).symm
          rcases Nat.lt_or_ge k l.length with h2 | h2
          · simp [hs, hs', h2, h1.1 h2]
          · have h3 : ¬ π k < l.length := fun h => by have := h1.2 h; omega
            simp [hs, hs', Nat.not_lt.2 h2, h3]
        · rw [getD_set_ne x e, getD_set_ne x (fun h => e (by rw [← hinv k, h, hinv])), hL]
      · by_cases hka : k = a
        · left
          subst hka
          simp [hs, ha]
        · rcases hb with hb | hb
          · left; rw [getD_set_ne false hka]; exact hb
          · unfold bef at hb
            rw [if_neg hka] at hb
            by_cases hkb : k = b
            · rw [if_pos hkb] at hb; cases hb
            · rw [if_neg hkb] at hb; exact .inr hb
/-- What wp_region_text shows, ahead of its last step. -/
theorem text_any {lo up : Nat → Nat} {x : Act} {w : World} {l : List Oper} (cs : List Nat) (hB : Region.lexB .any l.toArray = true) (hC : ((List.range l.length).filter cs.contains == cs) = true) (hU : upB .any l.toArray cs up = true) (hL : loB .any l.toArray cs lo = true)
    (h : wpTx P lo up cs l.toArray (fun a' w' => Q .normal a' w') 0 l [] [] x w) : wpAny P .any l.toArray Q l.toArray.size (Array.replicate l.toArray.size false) x w := by
  simp only [Region.lexB, Bool.and_eq_true] at hB
  obtain ⟨hlo, hcs⟩ := lo_of hL
  have hC' : (List.range l.length).filter cs.contains = cs := by simpa using hC
  have hnd : cs.Nodup := by rw [← hC']; exact List.nodup_range.filter _
  obtain ⟨T, hT, hh⟩ := tx_sound (W0 := w) l 0 [] [] x w [] rfl (by simp) (fun c hc => by simp at hc) h
  have hTc : ∀ σ, T σ → σ.map (·.c) = cs := fun σ hσ => by rw [(hh σ hσ).1, ← List.range_eq_range', hC']
  refine (before_text (cs := cs) (W0 := w) (Q := fun σ L a' => (∀ c ∈ σ.map (·.c), L.getD c true = true) ∧ Q .normal a' (lastW w σ)) hcs hnd hlo (fun i hi => List.all_eq_true.1 hU i (List.mem_range.2 hi)) (fun σ L a h => by rw [stage_full h.1]; exact h.2) _ [] T _ _ _ rfl hT (fun σ hσ => hTc σ hσ) (fun s hs => by simp at hs) (fun σ hσ s hs => ?_) ⟨fun s hs => by simp at hs, fun j i _ hj => by simp [Array.getD] at hj⟩ (fun σ hσ => ?_))
  · have : s.c ∈ cs := by rw [← hTc σ hσ]; exact List.mem_map.2 ⟨s, hs, rfl⟩
    rw [← hC'] at this
    have := List.mem_range.1 (List.mem_filter.1 this).1
    simp [this]
  · have := wpAnyTn_lex (P := P) (lo := lo) (up := up) (W0 := w) (σ := σ) (md := .any) hB.1 l 0 (Array.replicate l.length false) x (by simp) (by simpa using hB.2) ((hh σ hσ).2.2 (Array.replicate l.length false) fun i hi => absurd hi (Nat.not_lt_zero i))
    simpa using this
theorem trL_length (π : Nat → Nat) (a b : Nat) (l : List Oper) : (trL π a b l).length = l.length := by unfold trL; simp
/-- A region with two effects i and j in either order: i first (the text with one more 'after'), or j first (the text with the two exchanged). -/
theorem wp_region_either {id : Nat} {x : Act} {w : World} {l : List Oper} (i j : Nat) (hm : P.follows .mixedOrders = true) (hij : i ≠ j) (hi : i < l.length) (hj : j < l.length) (hg : l.all (fun o => o.guard.isNone) = true)
    (h1 : wpAny P .any (trL (fun k => k) i j l).toArray Q (trL (fun k => k) i j l).toArray.size (Array.replicate (trL (fun k => k) i j l).toArray.size false) x w.drew)
    (h2 : wpAny P .any (trL (swp i j) j i l).toArray Q (trL (swp i j) j i l).toArray.size (Array.replicate (trL (swp i j) j i l).toArray.size false) x w.drew) : (Code.region id l.toArray true).wp P Q x w := by
  refine wp_region_draw fun t => ?_
  simp only [Region.schedule, hm, Bool.true_or, if_true]
  have hlin : LinF .any l.toArray l.length (Array.replicate l.length false) (Region.linearise .any l.toArray t) := by
    have := linF_go (md := .any) l.toArray l.length t (Array.replicate l.length false)
    simpa [Region.linearise] using this
  have hrep : ∀ (π : Nat → Nat), (∀ k, π k < l.length ↔ k < l.length) → ∀ k x, (Array.replicate l.length false).getD (π k) x = (Array.replicate l.length false).getD k x := fun π hπ k x => by
    rcases Nat.lt_or_ge k l.length with h | h
    · simp [h, (hπ k).2 h]
    · have h3 : ¬ π k < l.length := fun hh => by have := (hπ k).1 hh; omega
      simp [Nat.not_lt.2 h, h3]
  rcases bef_or i j hij (Region.linearise .any l.toArray t) with hb | hb
  · have hl := linF_tr (π := fun k => k) (fun _ => rfl) (fun _ => Iff.rfl) hij hi l.length _ (Array.replicate l.length false) _ (by simp) (by simp) (fun _ _ => rfl) (.inr hb) hlin
    refine wpOps_tr (π := fun k => k) (a := i) (b := j) (fun _ => rfl) (fun _ => Iff.rfl) hg _ _ _ ?_
    simp only [List.size_toArray, trL_length] at h1
    exact linF_wp h1 hl
  · have hlt : ∀ k, swp i j k < l.length ↔ k < l.length := fun k => swp_lt hi hj
    have hl := linF_tr (π := swp i j) (swp_inv i j) hlt (Ne.symm hij) hj l.length _ (Array.replicate l.length false) _ (by simp) (by simp) (hrep _ hlt) (.inr hb) hlin
    refine wpOps_tr (π := swp i j) (a := j) (b := i) (swp_inv i j) hlt hg _ _ _ ?_
    simp only [List.size_toArray, trL_length] at h2
    exact linF_wp h2 hl
end
end Go.Proofs.YtclejidkahpemaaDoor
