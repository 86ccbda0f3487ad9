/- Slices that a call owns, boxes, and what turns beside them. Over any program. -/
import Derived.Test.YtclejidkahpemaaDoorRange
import Derived.RangeFuncBox
import Derived.Deep.AppendLies
import Derived.OwnWalkIn
namespace Go.Proofs.YtclejidkahpemaaDoor
open Go.RowKit

theorem Only.grown {A B : World} {row : Option Nat} (h : A.grownBy B row) : Only (fun b => some b = row) A B :=
  ⟨h.os, h.tape, h.output, h.size, fun b hb hs => h.block b hb hs⟩
theorem own_only {S : Nat → Prop} {A B : World} (h : Only S A B) {base size n : Nat} {e : TypeId} {v : Value} {xs : List Value} (hr : A.ownsRow base e size v n xs) (hS : ∀ g, base ≤ g → v.ownBlock = some g → ¬ S g) : B.ownsRow base e size v n xs := by
  refine ⟨hr.1, ?_⟩
  rcases hr.2 with ⟨h1, h2⟩ | ⟨g, cap, cur, h1, h2, h3, h4⟩
  · exact .inl ⟨h1, h2⟩
  · refine .inr ⟨g, cap, cur, h1, h2, (h.block g ?_ (hS g h2 (by rw [h1]; rfl))).trans h3, h4⟩
    exact (Array.getElem?_eq_some_iff.1 h3).1
theorem box_only {S : Nat → Prop} {A B : World} (h : Only S A B) {b : Nat} {t : TypeId} {v : Value} (hr : Boxed A b t v) (hS : ¬ S b) : Boxed B b t v :=
  (h.block b hr.lt hS).trans hr
/-- The cells of an owned row, one by one. -/
theorem own_cell {W : World} {base n g cap : Nat} {e : TypeId} {xs : List Value} (h : W.ownsRow base e 1 (.slice (some ⟨g, 0, none⟩) n cap) n xs) (j : Nat) (hj : j < n) : ∃ u, xs[j]? = some u ∧ W.cell? ⟨g, j, none⟩ = some u := by
  have hl : xs.length = n := by have := h.1; omega
  refine ⟨xs[j]'(by omega), List.getElem?_eq_getElem (by omega), ?_⟩
  have := h.cells (g := g) rfl j _ (List.getElem?_eq_getElem (show j < xs.length by omega))
  have hadd : (⟨g, 0, none⟩ : Addr).add j = ⟨g, j, none⟩ := by unfold Addr.add; split <;> simp_all
  rwa [hadd] at this
/-- 'out = append(out, x)' with out in a box: what comes of it. -/
theorem box_append {W w1 : World} {base box : Nat} {t e : TypeId} {v v' : Value} {k : Nat} {xs ys : List Value} {tmp : Obj} (hv : Boxed W box t v) (hrow : W.ownsRow base e 1 v k xs) (hb : box < base)
    (hown : w1.ownsRow base e 1 v' (k + 1) ys) (hgrow : (W.alloc tmp).grownBy w1 v.ownBlock) :
    w1.cell? ⟨box, 0, none⟩ = some v ∧ w1.frozen? ⟨box, 0, none⟩ = false ∧ Boxed (w1.setCell ⟨box, 0, none⟩ v') box t v' ∧ (w1.setCell ⟨box, 0, none⟩ v').ownsRow base e 1 v' (k + 1) ys ∧
    Only (fun b => b = box ∨ (base ≤ b ∧ some b = v.ownBlock)) W (w1.setCell ⟨box, 0, none⟩ v') := by
  have far : ∀ g, v.ownBlock = some g → base ≤ g := by
    intro g hg
    rcases hrow.2 with ⟨rfl, _⟩ | ⟨g', cap, cur, rfl, h2, _⟩
    · simp [Value.ownBlock] at hg
    · simp [Value.ownBlock] at hg; omega
  have h1 : Boxed w1 box t v := (hv.alloc tmp).kept hgrow (fun e => by have := far _ e.symm; omega)
  have o1 : Only (fun b => b = box ∨ (base ≤ b ∧ some b = v.ownBlock)) W w1 :=
    (Only.alloc _ W tmp).trans ((Only.grown hgrow).mono fun b hb => .inr ⟨far b hb.symm, hb⟩)
  refine ⟨h1.cell, h1.frozen, h1.set v', own_only (Only.setCell (S := (· = box)) w1 ⟨box, 0, none⟩ v' rfl) hown (fun g hg _ he => by omega), o1.trans (Only.setCell w1 _ _ (.inl rfl))⟩
end Go.Proofs.YtclejidkahpemaaDoor
