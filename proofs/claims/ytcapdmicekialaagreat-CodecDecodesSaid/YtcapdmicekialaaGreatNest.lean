/- Data in data: slices of structs that hold slices, told by the cells; things of Hold and of Lies. Over any program. -/
import Derived.Test.YtcapdmicekialaaGreatCells
import Derived.Test.YtcapdmicekialaaGreatSep
namespace Go.Proofs.YtcapdmicekialaaGreat
open Go.RowKit
set_option linter.unusedVariables false
def all2 {β γ : Type} (P : β → γ → Prop) : List β → List γ → Prop
  | [], [] => True
  | x :: a, y :: b => P x y ∧ all2 P a b
  | _, _ => False
theorem all2.imp {β γ : Type} {P Q : β → γ → Prop} (hq : ∀ x y, P x y → Q x y) : ∀ {a : List β} {b : List γ}, all2 P a b → all2 Q a b
  | [], [], _ => trivial
  | x :: a, y :: b, h => ⟨hq x y h.1, all2.imp hq h.2⟩
  | [], _ :: _, h => h.elim
  | _ :: _, [], h => h.elim
theorem all2_at {β γ : Type} {P : β → γ → Prop} : ∀ {a : List β} {b : List γ}, all2 P a b → ∀ (i : Nat) (hi : i < b.length), ∃ h' : i < a.length, P a[i] b[i]
  | [], [], _, i, hi => by simp at hi
  | x :: a, y :: b, h, 0, _ => ⟨by simp, h.1⟩
  | x :: a, y :: b, h, i + 1, hi => by
    obtain ⟨h', hp⟩ := all2_at h.2 i (by simpa using hi)
    exact ⟨by simpa using h', hp⟩
  | [], _ :: _, h, _, _ => h.elim
  | _ :: _, [], h, _, _ => h.elim
theorem all2_mem {β γ : Type} {P : β → γ → Prop} {Q : β → Prop} (hq : ∀ x y, P x y → Q x) : ∀ {a : List β} {b : List γ}, all2 P a b → ∀ x ∈ a, Q x
  | [], [], _, x, hx => by cases hx
  | z :: a, y :: b, h, x, hx => by
    rcases List.mem_cons.1 hx with rfl | hx
    · exact hq _ _ h.1
    · exact all2_mem hq h.2 x hx
  | [], _ :: _, h, _, _ => h.elim
  | _ :: _, [], h, _, _ => h.elim
/-- What a slice's element is: of so many cells, which tell it in each of some worlds. -/
structure Kind (α : Type) where
  size : Nat
  told : (World → Prop) → List Value → α → Prop
  len : ∀ {S cs a}, told S cs a → cs.length = size
  keep : ∀ {S S' cs a}, told S cs a → (∀ W', S' W' → ∃ W, S W ∧ Below W.heap.size W W') → told S' cs a
/-- A slice of such elements. -/
def Kind.slS {α : Type} (K : Kind α) (S : World → Prop) (v : Value) (l : List α) : Prop :=
  ∃ A c css, v = .slice A l.length c ∧ (∀ W, S W → Reads W W.heap.size K.size A l.length (List.flatten css)) ∧ all2 (K.told S) css l ∧ l.length ≤ 140737488351232
/-- In one world. -/
def Kind.tells {α : Type} (K : Kind α) (W : World) (cs : List Value) (a : α) : Prop := K.told (Eq W) cs a
def Kind.sl {α : Type} (K : Kind α) (W : World) (v : Value) (l : List α) : Prop := K.slS (Eq W) v l
section
variable {α : Type} {K : Kind α} {W W' : World} {S S' : World → Prop} {v : Value} {l : List α} {cs : List Value} {a : α}
theorem one_below (hb : Below W.heap.size W W') : ∀ W2, Eq W' W2 → ∃ W1, Eq W W1 ∧ Below W1.heap.size W1 W2 := by rintro _ rfl; exact ⟨W, rfl, hb⟩
theorem one_in (hS : S W) : ∀ W2, Eq W W2 → ∃ W1, S W1 ∧ Below W1.heap.size W1 W2 := by rintro _ rfl; exact ⟨W, hS, Below.refl _ _⟩
theorem Kind.below (h : K.tells W cs a) (hb : Below W.heap.size W W') : K.tells W' cs a := K.keep h (one_below hb)
theorem Kind.sl_keep (h : K.slS S v l) (hk : ∀ W', S' W' → ∃ W, S W ∧ Below W.heap.size W W') : K.slS S' v l := by
  obtain ⟨A, c, css, e, hr, hf, hl⟩ := h
  refine ⟨A, c, css, e, fun W' hW' => ?_, hf.imp fun _ _ h => K.keep h hk, hl⟩
  obtain ⟨W, hW, hb⟩ := hk W' hW'
  exact ((hr W hW).below hb).more hb.size
theorem Kind.sl_below (h : K.sl W v l) (hb : Below W.heap.size W W') : K.sl W' v l := Kind.sl_keep h (one_below hb)
theorem Kind.sl_one (h : K.slS S v l) (hS : S W) : K.sl W v l := Kind.sl_keep h (one_in hS)
theorem Kind.one (h : K.told S cs a) (hS : S W) : K.tells W cs a := K.keep h (one_in hS)
theorem Kind.sl_form (h : K.slS S v l) : ∃ A c, v = .slice A l.length c ∧ l.length ≤ 140737488351232 := by
  obtain ⟨A, c, css, e, hr, hf, hl⟩ := h
  exact ⟨A, c, e, hl⟩
theorem flatten_at {css : List (List Value)} {n : Nat} (h : ∀ cs ∈ css, cs.length = n) (i : Nat) (hi : i < css.length) (j : Nat) (hj : j < n) : css.flatten[i * n + j]? = css[i][j]? := by
  induction css generalizing i with
  | nil => simp at hi
  | cons c css ih =>
    have hc := h c (List.mem_cons_self ..)
    cases i with
    | zero =>
      rw [List.flatten_cons, Nat.zero_mul, Nat.zero_add, List.getElem?_append_left (by omega)]
      rfl
    | succ i =>
      rw [List.flatten_cons, List.getElem?_append_right (by rw [hc, Nat.succ_mul]; omega), hc, show (i + 1) * n + j - n = i * n + j by rw [Nat.succ_mul]; omega]
      exact ih (fun cs hcs => h cs (List.mem_cons_of_mem _ hcs)) i (by simpa using hi)
/-- An element, by its cells: the same ones in each of the worlds. -/
theorem Kind.sl_atS (h : K.slS S v l) (hs : 0 < K.size) (hW : S W) (i : Nat) (hi : i < l.length) : ∃ b off c cs, v = .slice (some ⟨b, off, none⟩) l.length c ∧ K.told S cs l[i] ∧ ∀ W, S W → ∀ j u, cs[j]? = some u → W.cell? ⟨b, off + i * K.size + j, none⟩ = some u := by
  obtain ⟨A, c, css, rfl, hr, hf, hl⟩ := h
  obtain ⟨b, off, rfl, _⟩ := reads_addr (hr W hW) (by omega) hs
  obtain ⟨h', hp⟩ := all2_at hf i hi
  refine ⟨b, off, c, css[i], rfl, hp, fun W' hW' j u hu => ?_⟩
  have hj : j < K.size := by
    have h1 := (List.getElem?_eq_some_iff.1 hu).1
    rw [K.len hp] at h1
    exact h1
  obtain ⟨b', off', he, _, hc⟩ := reads_addr (hr W' hW') (by omega) hs
  obtain ⟨rfl, rfl⟩ : b = b' ∧ off = off' := by injection he with h; injection h with h1 h2; exact ⟨h1, h2⟩
  have h2 := hc (i * K.size + j) u ((flatten_at (all2_mem (fun _ _ h => K.len h) hf) i h' j hj).trans hu)
  rw [show off + i * K.size + j = off + (i * K.size + j) by omega]
  exact h2
theorem Kind.sl_at (h : K.sl W v l) (hs : 0 < K.size) (i : Nat) (hi : i < l.length) : ∃ b off c cs, v = .slice (some ⟨b, off, none⟩) l.length c ∧ K.tells W cs l[i] ∧ ∀ j u, cs[j]? = some u → W.cell? ⟨b, off + i * K.size + j, none⟩ = some u := by
  obtain ⟨b, off, c, cs, h1, h2, h3⟩ := Kind.sl_atS h hs rfl i hi
  exact ⟨b, off, c, cs, h1, h2, h3 W rfl⟩
end
/-- The worlds where the thing lies. -/
def At (N : Nat) (w0 : World) (M : Thing) : World → Prop := fun W => ∃ R, Lies N w0 W (sepT M R)
section
variable {N : Nat} {w0 W W' : World} {a R : Thing}
theorem Lies.hold (h : Lies N w0 W (sepT a R)) : Hold N w0 W [a, R] := by
  obtain ⟨⟨_, ⟨F1, F2, h1, h2, h3, rfl⟩, h5⟩, h6, h7⟩ := h
  refine ⟨⟨fun i => if i = 0 then F1 else F2, fun i o hi => ?_, fun i j hij hi hj b hb hb' => ?_⟩, h6, h7⟩
  · match i, hi with
    | 0, hi =>
      obtain rfl : a = o := by simpa using hi
      exact ⟨h1, fun b hb => h5 b (.inl hb)⟩
    | 1, hi =>
      obtain rfl : R = o := by simpa using hi
      exact ⟨h2, fun b hb => h5 b (.inr hb)⟩
    | i + 2, hi => simp at hi
  · have hi' : i = 0 ∨ i = 1 := by simp at hi; omega
    have hj' : j = 0 ∨ j = 1 := by simp at hj; omega
    rcases hi' with rfl | rfl <;> rcases hj' with rfl | rfl
    · exact hij rfl
    · exact h3 b hb hb'
    · exact h3 b hb' hb
    · exact hij rfl
theorem Hold.lies (h : Hold N w0 W [a, R]) : Lies N w0 W (sepT a R) := by
  obtain ⟨⟨F, h1, h2⟩, h3, h4⟩ := h
  have ha := h1 0 a rfl
  have hR := h1 1 R rfl
  exact ⟨⟨_, ⟨F 0, F 1, ha.1, hR.1, h2 0 1 (by decide) (by simp) (by simp), rfl⟩, fun b hb => hb.elim (ha.2 b) (hR.2 b)⟩, h3, h4⟩
theorem Hold.lies3 {b : Thing} (h : Hold N w0 W [a, R, b]) : Lies N w0 W (sepT b (sepT a R)) := by
  obtain ⟨⟨F, h1, h2⟩, h3, h4⟩ := h
  have ha := h1 0 a rfl
  have hR := h1 1 R rfl
  have hb := h1 2 b rfl
  refine ⟨⟨_, ⟨F 2, _, hb.1, ⟨F 0, F 1, ha.1, hR.1, h2 0 1 (by decide) (by simp) (by simp), rfl⟩, fun x hx hy => ?_, rfl⟩, fun x hx => ?_⟩, h3, h4⟩
  · rcases hy with hy | hy
    · exact h2 2 0 (by decide) (by simp) (by simp) x hx hy
    · exact h2 2 1 (by decide) (by simp) (by simp) x hx hy
  · rcases hx with hx | hx | hx
    · exact hb.2 x hx
    · exact ha.2 x hx
    · exact hR.2 x hx
theorem Lies.hold1 (h : Lies N w0 W a) : Hold N w0 W [a] := by
  obtain ⟨⟨F, h1, h5⟩, h6, h7⟩ := h
  refine ⟨⟨fun _ => F, fun i o hi => ?_, fun i j hij hi hj b hb hb' => ?_⟩, h6, h7⟩
  · match i, hi with
    | 0, hi =>
      obtain rfl : a = o := by simpa using hi
      exact ⟨h1, h5⟩
    | i + 1, hi => simp at hi
  · have h1 : i = 0 := by simpa using hi
    have h2 : j = 0 := by simpa using hj
    exact hij (h1.trans h2.symm)
end
end Go.Proofs.YtcapdmicekialaaGreat
