/- Things side by side: a commutative monoid of things in memory (ac_rfl turns them about), and one word for 'this lies in W, the rest below N is as it was'. Over any program. -/
import Derived.Test.YtclejidkahpemaaDoorHold
namespace Go.Proofs.YtclejidkahpemaaDoor
open Go.RowKit
theorem Thing.ext_at {a b : Thing} (h : ∀ W F, a.at_ W F ↔ b.at_ W F) : a = b := by
  obtain ⟨p, _, _⟩ := a
  obtain ⟨q, _, _⟩ := b
  have : p = q := by funext W F; exact propext (h W F)
  subst this
  rfl
/-- Two things side by side. -/
def sepT (a b : Thing) : Thing where
  at_ W F := ∃ F1 F2, a.at_ W F1 ∧ b.at_ W F2 ∧ (∀ x, F1 x → ¬ F2 x) ∧ F = fun x => F1 x ∨ F2 x
  keep := by
    rintro W W' F S ⟨F1, F2, h1, h2, h3, rfl⟩ ho hS
    exact ⟨F1, F2, a.keep h1 ho fun b hb => hS b (.inl hb), b.keep h2 ho fun b hb => hS b (.inr hb), h3, rfl⟩
  lt := by
    rintro W F ⟨F1, F2, h1, h2, h3, rfl⟩ x hx
    rcases hx with hx | hx
    · exact a.lt h1 x hx
    · exact b.lt h2 x hx
/-- Nothing. -/
def empT : Thing where
  at_ _ F := F = fun _ => False
  keep := fun h _ _ => h
  lt := by rintro W F rfl b hb; exact hb.elim
/-- A fact. -/
def factT (φ : Prop) : Thing where
  at_ _ F := φ ∧ F = fun _ => False
  keep := fun h _ _ => h
  lt := by rintro W F ⟨_, rfl⟩ b hb; exact hb.elim
/-- There is one such that. -/
def someT {α : Type} (f : α → Thing) : Thing where
  at_ W F := ∃ x, (f x).at_ W F
  keep := by rintro W W' F S ⟨x, h⟩ ho hS; exact ⟨x, (f x).keep h ho hS⟩
  lt := by rintro W F ⟨x, h⟩ b hb; exact (f x).lt h b hb
theorem sepT_comm (a b : Thing) : sepT a b = sepT b a := Thing.ext_at fun _ _ =>
  ⟨fun ⟨F1, F2, h1, h2, h3, h4⟩ => ⟨F2, F1, h2, h1, fun x hx hy => h3 x hy hx, by rw [h4]; funext x; exact propext Or.comm⟩,
   fun ⟨F1, F2, h1, h2, h3, h4⟩ => ⟨F2, F1, h2, h1, fun x hx hy => h3 x hy hx, by rw [h4]; funext x; exact propext Or.comm⟩⟩
theorem sepT_assoc (a b c : Thing) : sepT (sepT a b) c = sepT a (sepT b c) := Thing.ext_at fun W F => by
  constructor
  · rintro ⟨_, F3, ⟨F1, F2, h1, h2, h4, rfl⟩, h3, h5, rfl⟩
    refine ⟨F1, _, h1, ⟨F2, F3, h2, h3, fun x hx => h5 x (.inr hx), rfl⟩, fun x hx hy => ?_, by funext x; exact propext or_assoc⟩
    rcases hy with hy | hy
    · exact h4 x hx hy
    · exact h5 x (.inl hx) hy
  · rintro ⟨F1, _, h1, ⟨F2, F3, h2, h3, h4, rfl⟩, h5, rfl⟩
    refine ⟨_, F3, ⟨F1, F2, h1, h2, fun x hx hy => h5 x hx (.inl hy), rfl⟩, h3, fun x hx hy => ?_, by funext x; exact propext or_assoc.symm⟩
    rcases hx with hx | hx
    · exact h5 x hx (.inr hy)
    · exact h4 x hx hy
theorem empT_sep (a : Thing) : sepT empT a = a := Thing.ext_at fun W F => by
  constructor
  · rintro ⟨_, F2, rfl, h2, _, rfl⟩
    have : (fun x => False ∨ F2 x) = F2 := by funext x; simp
    rw [this]; exact h2
  · intro h
    exact ⟨_, F, rfl, h, fun _ hx => hx.elim, by funext x; simp⟩
theorem sep_empT (a : Thing) : sepT a empT = a := by rw [sepT_comm, empT_sep]
instance : Std.Associative sepT := ⟨sepT_assoc⟩
instance : Std.Commutative sepT := ⟨sepT_comm⟩
theorem factT_true {φ : Prop} (h : φ) : factT φ = empT := Thing.ext_at fun _ _ => ⟨fun x => x.2, fun x => ⟨h, x⟩⟩
theorem someT_sep {α : Type} (f : α → Thing) (b : Thing) : sepT (someT f) b = someT fun x => sepT (f x) b := Thing.ext_at fun _ _ =>
  ⟨fun ⟨F1, F2, ⟨x, h1⟩, h2, h3, h4⟩ => ⟨x, F1, F2, h1, h2, h3, h4⟩, fun ⟨x, F1, F2, h1, h2, h3, h4⟩ => ⟨F1, F2, ⟨x, h1⟩, h2, h3, h4⟩⟩
/-- The thing lies in W in blocks from N on; what lay below N in w0 lies there still. -/
def Lies (N : Nat) (w0 W : World) (a : Thing) : Prop := (∃ F, a.at_ W F ∧ ∀ b, F b → N ≤ b) ∧ Below N w0 W ∧ N ≤ w0.heap.size
/-- From W to W' the thing became that one, and nothing else was touched. -/
def Became (W W' : World) (a a' : Thing) : Prop := ∀ F, a.at_ W F → ∃ F', a'.at_ W' F' ∧ Only F W W' ∧ ∀ b, F' b → F b ∨ W.heap.size ≤ b
section
variable {N : Nat} {w0 W W' : World} {a a' R : Thing}
theorem Lies.nil (w : World) : Lies w.heap.size w w empT := ⟨⟨_, rfl, fun _ hb => hb.elim⟩, Below.refl _ _, Nat.le_refl _⟩
theorem Lies.below (h : Lies N w0 W a) : Below N w0 W := h.2.1
theorem Lies.size (h : Lies N w0 W a) : N ≤ W.heap.size := Nat.le_trans h.2.2 h.2.1.size
theorem Lies.old (h : Lies N w0 W a) {p : Addr} (ha : p.block < N) : W.cell? p = w0.cell? p := h.2.1.cell ha
theorem Lies.quiet (h : Lies N w0 W a) (ho : Only (fun _ => False) W W') : Lies N w0 W' a := by
  have hz := h.size
  obtain ⟨⟨F, h1, h2⟩, h3, h4⟩ := h
  exact ⟨⟨F, a.keep h1 ho (fun _ _ x => x), h2⟩, h3.trans (ho.below hz (fun b hb => hb.elim)), h4⟩
theorem Lies.alloc (h : Lies N w0 W a) (o : Obj) : Lies N w0 (W.alloc o) a := h.quiet (Only.alloc _ W o)
theorem Lies.drewN (h : Lies N w0 W a) (n : Nat) : Lies N w0 (W.drewN n) a := h.quiet (Only.drewN _ W n)
theorem Lies.drew (h : Lies N w0 W a) : Lies N w0 W.drew a := h.quiet (Only.drew _ W)
theorem Lies.step (h : Lies N w0 W (sepT a R)) (hs : Became W W' a a') : Lies N w0 W' (sepT a' R) := by
  have hz := h.size
  obtain ⟨⟨_, ⟨F1, F2, h1, h2, h3, rfl⟩, h5⟩, h6, h7⟩ := h
  obtain ⟨F', k1, k2, k3⟩ := hs _ h1
  refine ⟨⟨_, ⟨F', F2, k1, R.keep h2 k2 fun b hb hx => h3 b hx hb, fun x hx hy => ?_, rfl⟩, fun b hb => ?_⟩, h6.trans (k2.below hz fun b hb => h5 b (.inl hb)), h7⟩
  · rcases k3 x hx with hx | hx
    · exact h3 x hx hy
    · exact absurd (R.lt h2 x hy) (by omega)
  · rcases hb with hb | hb
    · rcases k3 b hb with hb | hb
      · exact h5 b (.inl hb)
      · omega
    · exact h5 b (.inr hb)
/-- A new thing. -/
theorem Lies.add (h : Lies N w0 W a) (o : Thing) (ho : Only (fun _ => False) W W') (hs : ∃ F', o.at_ W' F' ∧ ∀ b, F' b → W.heap.size ≤ b) : Lies N w0 W' (sepT o a) := by
  have h' : Lies N w0 W (sepT empT a) := by rw [empT_sep]; exact h
  refine h'.step (fun F hF => ?_)
  obtain ⟨F', h1, h2⟩ := hs
  have hF' : F = fun _ => False := hF
  subst hF'
  exact ⟨F', h1, ho, fun b hb => .inr (h2 b hb)⟩
/-- What is known of a part. -/
theorem Lies.get (h : Lies N w0 W (sepT a R)) : ∃ F, a.at_ W F ∧ ∀ b, F b → N ≤ b := by
  obtain ⟨⟨_, ⟨F1, F2, h1, h2, h3, rfl⟩, h5⟩, _⟩ := h
  exact ⟨F1, h1, fun b hb => h5 b (.inl hb)⟩
/-- A part is let go. -/
theorem Lies.drop (h : Lies N w0 W (sepT a R)) : Lies N w0 W R := by
  obtain ⟨⟨_, ⟨F1, F2, h1, h2, h3, rfl⟩, h5⟩, h6, h7⟩ := h
  exact ⟨⟨F2, h2, fun b hb => h5 b (.inr hb)⟩, h6, h7⟩
theorem Lies.turn (h : Lies N w0 W a) (e : a = a') : Lies N w0 W a' := e ▸ h
/-- Said in other words. -/
theorem Lies.imp (h : Lies N w0 W a) (hi : ∀ F, a.at_ W F → a'.at_ W F) : Lies N w0 W a' := by
  obtain ⟨⟨F, h1, h2⟩, h3⟩ := h
  exact ⟨⟨F, hi F h1, h2⟩, h3⟩
theorem Lies.ex {α : Type} {f : α → Thing} (h : Lies N w0 W (sepT (someT f) R)) : ∃ x, Lies N w0 W (sepT (f x) R) := by
  rw [someT_sep] at h
  obtain ⟨⟨F, ⟨x, h1⟩, h2⟩, h3⟩ := h
  exact ⟨x, ⟨F, h1, h2⟩, h3⟩
theorem Lies.intro {α : Type} {f : α → Thing} (x : α) (h : Lies N w0 W (sepT (f x) R)) : Lies N w0 W (sepT (someT f) R) := by
  rw [someT_sep]
  exact h.imp fun F hF => ⟨x, hF⟩
theorem Lies.fact {φ : Prop} (h : Lies N w0 W (sepT (factT φ) R)) : φ ∧ Lies N w0 W R := by
  have h0 := h.drop
  obtain ⟨F, ⟨h1, _⟩, _⟩ := h.get
  exact ⟨h1, h0⟩
theorem Lies.withFact {φ : Prop} (h : Lies N w0 W R) (hp : φ) : Lies N w0 W (sepT (factT φ) R) := by rw [factT_true hp, empT_sep]; exact h
theorem Lies.newBlk (h : Lies N w0 W a) (t : TypeId) (cs : Array Value) : Lies N w0 (W.alloc (.cells cs t)) (sepT (blkT W.heap.size t cs) a) :=
  h.add _ (Only.alloc _ W _) ⟨_, ⟨Blk.new W t cs, rfl⟩, by rintro b rfl; exact Nat.le_refl _⟩
theorem Lies.blk {b : Nat} {t : TypeId} {cs : Array Value} (h : Lies N w0 W (sepT (blkT b t cs) R)) : Blk W b t cs ∧ N ≤ b := by
  obtain ⟨F, ⟨hb, hF⟩, hN⟩ := h.get
  exact ⟨hb, hN b (by rw [hF])⟩
theorem Lies.setBlk {b : Nat} {t : TypeId} {cs : Array Value} (h : Lies N w0 W (sepT (blkT b t cs) R)) (i : Nat) (u : Value) : Lies N w0 (W.setCell ⟨b, i, none⟩ u) (sepT (blkT b t (cs.setIfInBounds i u)) R) := by
  refine h.step ?_
  rintro F ⟨hb, rfl⟩
  exact ⟨_, ⟨hb.set_ i u, rfl⟩, Only.setCell W ⟨b, i, none⟩ u rfl, fun x hx => .inl hx⟩
theorem Lies.row {e : TypeId} {size n : Nat} {v : Value} {xs : List Value} (h : Lies N w0 W (sepT (rowT e size v n xs) R)) : W.ownsRow 0 e size v n xs := by
  obtain ⟨F, ⟨hb, _⟩, _⟩ := h.get
  exact hb
/-- An append to one of the rows. -/
theorem Lies.grown {e : TypeId} {size n n' : Nat} {v v' : Value} {xs xs' : List Value} (h : Lies N w0 W (sepT (rowT e size v n xs) R)) (ho : W'.ownsRow 0 e size v' n' xs') (hg : W.grownBy W' v.ownBlock)
    (hat : v'.ownBlock = v.ownBlock ∨ v'.ownBlock = some W.heap.size) : Lies N w0 W' (sepT (rowT e size v' n' xs') R) := by
  refine h.step ?_
  rintro F ⟨_, rfl⟩
  refine ⟨_, ⟨ho, rfl⟩, (Only.grown hg), fun b hb => ?_⟩
  rcases hat with h1 | h1
  · rw [h1] at hb; exact .inl hb
  · rw [h1] at hb
    obtain rfl := Option.some.inj hb
    exact .inr (Nat.le_refl _)
end
end Go.Proofs.YtclejidkahpemaaDoor
