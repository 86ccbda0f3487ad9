/- A row of the call's own that is written into. Over any program. -/
import Derived.Test.YtclejidkahpemaaDoorSep
namespace Go.Proofs.YtclejidkahpemaaDoor
open Go.RowKit
set_option linter.unusedVariables false
theorem row_addr {e : TypeId} {size n c : Nat} {A : Option Addr} {xs : List Value} {w : World} {base : Nat} (h : w.ownsRow base e size (.slice A n c) n xs) (hn : 0 < n) : ∃ g, A = some ⟨g, 0, none⟩ := by
  rcases h.2 with ⟨_, h0⟩ | ⟨g, cap, cur, hh, _⟩
  · omega
  · injection hh with hh _ _; exact ⟨g, hh⟩
theorem row_cells {e : TypeId} {size n c g base : Nat} {xs : List Value} {w : World} (h : w.ownsRow base e size (.slice (some ⟨g, 0, none⟩) n c) n xs) : (∀ i, w.frozen? ⟨g, i, none⟩ = false) ∧ ∀ j u, xs[j]? = some u → w.cell? ⟨g, j, none⟩ = some u := by
  rcases h.2 with ⟨h0, _⟩ | ⟨g', cap, cur, hh, _, hg, _, _, _, hx⟩
  · cases h0
  · injection hh with hh _ _
    injection hh with hh
    injection hh with hh
    subst hh
    have hb : Blk w g e cur := hg
    refine ⟨hb.frozen, fun j u hu => ?_⟩
    rw [hb.cell]
    have h1 := hu
    rw [← hx] at hu
    have hj : j < n * size := by
      rcases Nat.lt_or_ge j (n * size) with k | k
      · exact k
      · rw [List.getElem?_eq_none (by rw [List.length_take]; omega)] at hu; cases hu
    rw [List.getElem?_take_of_lt hj] at hu
    rw [← hu]
    simp
theorem row_set {e : TypeId} {size n c g base : Nat} {xs : List Value} {w : World} (h : w.ownsRow base e size (.slice (some ⟨g, 0, none⟩) n c) n xs) (j : Nat) (hj : j < n * size) (u : Value) : (w.setCell ⟨g, j, none⟩ u).ownsRow base e size (.slice (some ⟨g, 0, none⟩) n c) n (xs.set j u) := by
  refine ⟨by rw [List.length_set]; exact h.1, ?_⟩
  rcases h.2 with ⟨h0, _⟩ | ⟨g', cap, cur, hh, h1, hg, h2, h3, h4, hx⟩
  · cases h0
  · injection hh with hh hn hc
    injection hh with hh
    injection hh with hh
    subst hh
    have hb : Blk w g e cur := hg
    refine .inr ⟨g, cap, cur.setIfInBounds j u, by rw [hc], h1, hb.set_ j u, h2, h3, by simpa using h4, ?_⟩
    rw [Array.toList_setIfInBounds, List.take_set, hx]
theorem row_get {e : TypeId} {size n c g base : Nat} {xs : List Value} {w : World} (h : w.ownsRow base e size (.slice (some ⟨g, 0, none⟩) n c) n xs) (j : Nat) (hj : j < n * size) : w.cell? ⟨g, j, none⟩ = some (xs.getD j undef) := by
  refine (row_cells h).2 j _ ?_
  have hl : j < xs.length := by rw [h.1]; exact hj
  rw [List.getElem?_eq_getElem hl, List.getD_eq_getElem?_getD, List.getElem?_eq_getElem hl]
  rfl
theorem Lies.setRow {N : Nat} {w0 W : World} {R : Thing} {e : TypeId} {size n c g : Nat} {xs : List Value} (h : Lies N w0 W (sepT (rowT e size (.slice (some ⟨g, 0, none⟩) n c) n xs) R)) (j : Nat) (hj : j < n * size) (u : Value) :
    Lies N w0 (W.setCell ⟨g, j, none⟩ u) (sepT (rowT e size (.slice (some ⟨g, 0, none⟩) n c) n (xs.set j u)) R) := by
  refine h.step ?_
  rintro F ⟨hb, rfl⟩
  refine ⟨_, ⟨row_set hb j hj u, rfl⟩, Only.setCell W ⟨g, j, none⟩ u rfl, fun x hx => .inl hx⟩
end Go.Proofs.YtclejidkahpemaaDoor
