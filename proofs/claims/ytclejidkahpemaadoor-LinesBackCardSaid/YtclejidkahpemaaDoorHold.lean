/- Things in memory, each with blocks of its own: what holds of them all, and what a step upon one of them leaves. Over any program. -/
import Derived.Test.YtclejidkahpemaaDoorAppendS
namespace Go.Proofs.YtclejidkahpemaaDoor
open Go.RowKit

/-- A thing: what it is to lie in a world with just these blocks; it stays while these stay. -/
structure Thing where
  at_ : World → (Nat → Prop) → Prop
  keep : ∀ {W W' : World} {F S : Nat → Prop}, at_ W F → Only S W W' → (∀ b, F b → ¬ S b) → at_ W' F
  lt : ∀ {W : World} {F : Nat → Prop}, at_ W F → ∀ b, F b → b < W.heap.size
/-- All things of a list lie in W, apart from each other, all in blocks from N on; what lay below N in w0 lies there still. -/
def Hold (N : Nat) (w0 W : World) (l : List Thing) : Prop :=
  (∃ F : Nat → Nat → Prop, (∀ i o, l[i]? = some o → o.at_ W (F i) ∧ ∀ b, F i b → N ≤ b) ∧ (∀ i j, i ≠ j → i < l.length → j < l.length → ∀ b, F i b → ¬ F j b)) ∧ Below N w0 W ∧ N ≤ w0.heap.size
section
variable {N : Nat} {w0 W W' : World} {l : List Thing}
theorem Hold.nil (w : World) : Hold w.heap.size w w [] := ⟨⟨fun _ _ => False, fun i o h => by simp at h, fun _ _ _ _ _ _ h => h.elim⟩, Below.refl _ _, Nat.le_refl _⟩
theorem Hold.below (h : Hold N w0 W l) : Below N w0 W := h.2.1
theorem Hold.size (h : Hold N w0 W l) : N ≤ W.heap.size := Nat.le_trans h.2.2 h.2.1.size
theorem Hold.quiet (h : Hold N w0 W l) (ho : Only (fun _ => False) W W') : Hold N w0 W' l := by
  have hz := h.size
  obtain ⟨⟨F, h1, h2⟩, h3, h4⟩ := h
  refine ⟨⟨F, fun i o hi => ?_, h2⟩, h3.trans (ho.below hz (fun b hb => hb.elim)), h4⟩
  obtain ⟨a, b⟩ := h1 i o hi
  exact ⟨o.keep a ho (fun _ _ h => h), b⟩
theorem Hold.alloc (h : Hold N w0 W l) (o : Obj) : Hold N w0 (W.alloc o) l := h.quiet (Only.alloc _ W o)
theorem Hold.drewN (h : Hold N w0 W l) (n : Nat) : Hold N w0 (W.drewN n) l := h.quiet (Only.drewN _ W n)
theorem Hold.drew (h : Hold N w0 W l) : Hold N w0 W.drew l := h.quiet (Only.drew _ W)
/-- A step upon thing i. -/
theorem Hold.step (h : Hold N w0 W l) (i : Nat) (o o' : Thing) (hi : l[i]? = some o)
    (hs : ∀ F, o.at_ W F → ∃ F', o'.at_ W' F' ∧ Only F W W' ∧ ∀ b, F' b → F b ∨ W.heap.size ≤ b) : Hold N w0 W' (l.set i o') := by
  have hz := h.size
  obtain ⟨⟨F, h1, h2⟩, h3, h4⟩ := h
  obtain ⟨ho, hb⟩ := h1 i o hi
  obtain ⟨F', a1, a2, a3⟩ := hs _ ho
  have hil : i < l.length := (List.getElem?_eq_some_iff.1 hi).1
  have hF' : ∀ b, F' b → N ≤ b := fun b hb' => by
    rcases a3 b hb' with h | h
    · exact hb b h
    · omega
  refine ⟨⟨fun j => if j = i then F' else F j, fun j x hj => ?_, fun j k hjk hj hk b => ?_⟩, h3.trans (a2.below hz hb), h4⟩
  · by_cases hji : j = i
    · subst hji
      rw [List.getElem?_set_self hil] at hj
      obtain rfl := Option.some.inj hj
      simp only
      exact ⟨a1, hF'⟩
    · rw [List.getElem?_set_ne (Ne.symm hji)] at hj
      simp only [if_neg hji]
      obtain ⟨c1, c2⟩ := h1 j x hj
      exact ⟨x.keep c1 a2 (fun b hb' => h2 j i hji (List.getElem?_eq_some_iff.1 hj).1 hil b hb'), c2⟩
  · rw [List.length_set] at hj hk
    have far : ∀ m, m ≠ i → m < l.length → F' b → ¬ F m b := fun m hm hml hf hx => by
      obtain ⟨c1, _⟩ := h1 m l[m] (List.getElem?_eq_getElem hml)
      rcases a3 b hf with h | h
      · exact h2 i m (Ne.symm hm) hil hml b h hx
      · have := l[m].lt c1 b hx; omega
    by_cases hji : j = i
    · have hki : ¬ k = i := fun e => hjk (hji.trans e.symm)
      simp only [if_pos hji, if_neg hki]
      exact far k hki hk
    · by_cases hki : k = i
      · simp only [if_neg hji, if_pos hki]
        exact fun hx hf => far j hji hj hf hx
      · simp only [if_neg hji, if_neg hki]
        exact h2 j k hjk hj hk b
/-- A new thing. -/
theorem Hold.add (h : Hold N w0 W l) (o : Thing) (ho : Only (fun _ => False) W W') (hs : ∃ F', o.at_ W' F' ∧ ∀ b, F' b → W.heap.size ≤ b) : Hold N w0 W' (l ++ [o]) := by
  have hz := h.size
  obtain ⟨⟨F, h1, h2⟩, h3, h4⟩ := h
  obtain ⟨F', a1, a2⟩ := hs
  have far : ∀ m, m < l.length → ∀ b, F m b → ¬ F' b := fun m hm b hx hf => by
    obtain ⟨c1, _⟩ := h1 m l[m] (List.getElem?_eq_getElem hm)
    have := l[m].lt c1 b hx
    have := a2 b hf
    omega
  refine ⟨⟨fun j => if j = l.length then F' else F j, fun j x hj => ?_, fun j k hjk hj hk b => ?_⟩, h3.trans (ho.below hz (fun b hb => hb.elim)), h4⟩
  · by_cases hji : j = l.length
    · subst hji
      rw [List.getElem?_append_right (Nat.le_refl _), Nat.sub_self] at hj
      obtain rfl := Option.some.inj hj
      simp only
      exact ⟨a1, fun b hb => Nat.le_trans hz (a2 b hb)⟩
    · have hjl : j < l.length := by
        have := (List.getElem?_eq_some_iff.1 hj).1
        rw [List.length_append, List.length_singleton] at this
        omega
      rw [List.getElem?_append_left hjl] at hj
      simp only [if_neg hji]
      obtain ⟨c1, c2⟩ := h1 j x hj
      exact ⟨x.keep c1 ho (fun _ _ h => h), c2⟩
  · rw [List.length_append, List.length_singleton] at hj hk
    by_cases hji : j = l.length
    · have hki : ¬ k = l.length := fun e => hjk (hji.trans e.symm)
      simp only [if_pos hji, if_neg hki]
      exact fun hf hx => far k (by omega) b hx hf
    · by_cases hki : k = l.length
      · simp only [if_neg hji, if_pos hki]
        exact far j (by omega) b
      · simp only [if_neg hji, if_neg hki]
        exact h2 j k hjk (by omega) (by omega) b
/-- Only the first things are looked at any more. -/
theorem Hold.take (h : Hold N w0 W l) (n : Nat) : Hold N w0 W (l.take n) := by
  obtain ⟨⟨F, h1, h2⟩, h3, h4⟩ := h
  refine ⟨⟨F, fun i o hi => ?_, fun i j hij hi hj => ?_⟩, h3, h4⟩
  · have : i < n ∧ l[i]? = some o := by
      rw [List.getElem?_take] at hi
      split at hi
      · exact ⟨by assumption, hi⟩
      · cases hi
    exact h1 i o this.2
  · rw [List.length_take] at hi hj
    exact h2 i j hij (by omega) (by omega)
/-- What is known of one of them. -/
theorem Hold.get (h : Hold N w0 W l) (i : Nat) (o : Thing) (hi : l[i]? = some o) : ∃ F, o.at_ W F ∧ ∀ b, F b → N ≤ b := by
  obtain ⟨⟨F, h1, _⟩, _⟩ := h
  exact ⟨_, h1 i o hi⟩
/-- What lay below N. -/
theorem Hold.old (h : Hold N w0 W l) {a : Addr} (ha : a.block < N) : W.cell? a = w0.cell? a := h.2.1.cell ha
end
/-- A block that is known whole. -/
def blkT (b : Nat) (t : TypeId) (cs : Array Value) : Thing where
  at_ W F := Blk W b t cs ∧ F = (· = b)
  keep := by
    rintro W W' F S ⟨h, rfl⟩ ho hS
    exact ⟨(ho.block b h.lt (hS b rfl)).trans h, rfl⟩
  lt := by
    rintro W F ⟨h, rfl⟩ x rfl
    exact h.lt
/-- A row of the call's own. -/
def rowT (e : TypeId) (size : Nat) (v : Value) (n : Nat) (xs : List Value) : Thing where
  at_ W F := W.ownsRow 0 e size v n xs ∧ F = fun b => some b = v.ownBlock
  keep := by
    rintro W W' F S ⟨h, rfl⟩ ho hS
    exact ⟨own_only ho h (fun g _ hg => hS g hg.symm), rfl⟩
  lt := by
    rintro W F ⟨h, rfl⟩ b hb
    exact (World.ownsRow.lt h b hb.symm).2
section
variable {N : Nat} {w0 W W' : World} {l : List Thing}
theorem Hold.newBlk (h : Hold N w0 W l) (t : TypeId) (cs : Array Value) : Hold N w0 (W.alloc (.cells cs t)) (l ++ [blkT W.heap.size t cs]) :=
  h.add _ (Only.alloc _ W _) ⟨_, ⟨Blk.new W t cs, rfl⟩, by rintro b rfl; exact Nat.le_refl _⟩
theorem Hold.blk (h : Hold N w0 W l) (i : Nat) {b : Nat} {t : TypeId} {cs : Array Value} (hi : l[i]? = some (blkT b t cs)) : Blk W b t cs := by
  obtain ⟨F, ⟨hb, _⟩, _⟩ := h.get i _ hi
  exact hb
theorem Hold.row (h : Hold N w0 W l) (i : Nat) {e : TypeId} {size n : Nat} {v : Value} {xs : List Value} (hi : l[i]? = some (rowT e size v n xs)) : W.ownsRow 0 e size v n xs := by
  obtain ⟨F, ⟨hb, _⟩, _⟩ := h.get i _ hi
  exact hb
/-- An append to one of the rows. -/
theorem Hold.grown (h : Hold N w0 W l) (i : Nat) {e : TypeId} {size n n' : Nat} {v v' : Value} {xs xs' : List Value} (hi : l[i]? = some (rowT e size v n xs)) (ho : W'.ownsRow 0 e size v' n' xs') (hg : W.grownBy W' v.ownBlock)
    (hat : v'.ownBlock = v.ownBlock ∨ v'.ownBlock = some W.heap.size) : Hold N w0 W' (l.set i (rowT e size v' n' xs')) := by
  refine h.step i _ _ hi ?_
  rintro F ⟨_, rfl⟩
  refine ⟨_, ⟨ho, rfl⟩, (Only.grown hg), fun b hb => ?_⟩
  rcases hat with h1 | h1
  · rw [h1] at hb; exact .inl hb
  · rw [h1] at hb
    obtain rfl := Option.some.inj hb
    exact .inr (Nat.le_refl _)
end
end Go.Proofs.YtclejidkahpemaaDoor
