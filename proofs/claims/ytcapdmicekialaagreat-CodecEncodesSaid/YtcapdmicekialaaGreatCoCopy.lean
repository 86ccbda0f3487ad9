/- CopyTexts, CopySites; what 'append([]T{}, l...)' leaves: a list of the call's own. -/
import Derived.Test.YtcapdmicekialaaGreatCoRdAll
import Derived.BigFrame
namespace Go.Proofs.YtcapdmicekialaaGreat
open Go.RowKit
set_option linter.unusedVariables false
set_option linter.unusedSimpArgs false
attribute [local go_sem] Oper.semAt_some run_store_func run_store_nilFunc
/-- A kind without slices: what is told is told by the cells alone. -/
structure Leaf {α : Type} {K : Kind α} (T : TK K) : Prop where
  el : ∀ {S cs x}, K.told S cs x → T.el cs x = empT
  one : ∀ {S cs x}, K.told S cs x → ∀ u ∈ cs, u.oneCell' = true
theorem txL : Leaf txT where
  el h := factT_true h
  one := by rintro S cs x ⟨rfl, _⟩ u hu; simp at hu; subst hu; rfl
theorem vrL : Leaf vrT where
  el h := factT_true h
  one := by rintro S cs x ⟨rfl, _⟩ u hu; simp at hu; rcases hu with rfl | rfl <;> rfl
theorem stL : Leaf stT where
  el h := factT_true h
  one := by rintro S cs x ⟨rfl, _⟩ u hu; simp at hu; rcases hu with rfl | rfl | rfl <;> rfl
theorem inL : Leaf inT where
  el h := factT_true h
  one := by rintro S cs x ⟨rfl, _⟩ u hu; simp at hu; rcases hu with rfl | rfl | rfl | rfl <;> rfl
section
variable {N : Nat} {w0 W : World} {R M : Thing}
theorem leaf_all {α : Type} {K : Kind α} {T : TK K} (L : Leaf T) {S : World → Prop} : ∀ {css : List (List Value)} {l : List α}, all2 (K.told S) css l → allT T.el css l = empT
  | [], [], _ => rfl
  | c :: cs, x :: l, h => by
    show sepT (T.el c x) (allT T.el cs l) = empT
    rw [L.el h.1, leaf_all L h.2, empT_sep]
  | [], _ :: _, h => h.elim
  | _ :: _, [], h => h.elim
theorem leaf_one {α : Type} {K : Kind α} {T : TK K} (L : Leaf T) {S : World → Prop} : ∀ {css : List (List Value)} {l : List α}, all2 (K.told S) css l → ∀ u ∈ css.flatten, u.oneCell' = true
  | [], [], _, u, hu => by simp at hu
  | c :: cs, x :: l, h, u, hu => by
    rw [List.flatten_cons] at hu
    rcases List.mem_append.1 hu with hu | hu
    · exact L.one h.1 u hu
    · exact leaf_one L h.2 u hu
  | [], _ :: _, h, _, _ => h.elim
  | _ :: _, [], h, _, _ => h.elim
/-- What there is to copy, at the world of the append: where it lies, which cells. -/
theorem leaf_out {α : Type} {K : Kind α} {T : TK K} (L : Leaf T) {S : World → Prop} {v : Value} {l : List α} (h : K.slS S v l) : ∃ A c css, v = .slice A l.length c ∧ (∀ W, S W → Reads W W.heap.size K.size A l.length css.flatten) ∧ (∀ u ∈ css.flatten, u.oneCell' = true) ∧ allT T.el css l = empT ∧ l.length ≤ 140737488351232 := by
  obtain ⟨A, c, css, rfl, hr, hf, hl⟩ := h
  exact ⟨A, c, css, rfl, hr, leaf_one L hf, leaf_all L hf, hl⟩
/-- Behind 'append([]T{}, l...)': a list of the call's own. -/
theorem copied {α : Type} {K : Kind α} {T : TK K} {e : TypeId} {v' : Value} {l : List α} {css : List (List Value)} {w1 : World} (H : Lies N w0 W R) (hl : l.length ≤ 140737488351232) (hall : allT T.el css l = empT)
    (hown : w1.ownsRow W.heap.size e K.size v' l.length css.flatten) (hgrow : (W.alloc (.cells #[] e)).grownBy w1 (some W.heap.size)) : Lies N w0 w1 (sepT (T.slT e v' l) R) := by
  have ho : Only (fun _ => False) W w1 := Only.fresh ((Only.alloc (· = W.heap.size) W (.cells #[] e)).trans ((Only.grown hgrow).mono fun b hb => by simpa using hb)) (fun b hb he => by omega)
  have h1 : Lies N w0 w1 (sepT (rowT e K.size v' l.length css.flatten) R) := H.add _ ho ⟨_, ⟨hown.mono (Nat.zero_le _), rfl⟩, fun b hb => (World.ownsRow.lt hown b hb.symm).1⟩
  refine Lies.intro css ?_
  rw [factT_true hl, empT_sep, hall, sep_empT]
  exact h1
theorem copied_at {α : Type} {K : Kind α} {T : TK K} {e : TypeId} {v' : Value} {l : List α} {css : List (List Value)} {w1 : World} {n size B : Nat} (H : Lies N w0 W R) (hB : W.heap.size = B) (hn : n = l.length) (hs : K.size = size) (hl : n ≤ 140737488351232) (hall : allT T.el css l = empT)
    (hown : w1.ownsRow B e size v' n css.flatten) (hgrow : (W.alloc (.cells #[] e)).grownBy w1 (some B)) : Lies N w0 w1 (sepT (T.slT e v' l) R) := by
  subst hB hn hs
  exact copied H hl hall hown hgrow
theorem empty_own (W : World) (e : TypeId) (size : Nat) : (W.alloc (.cells #[] e)).ownsRow W.heap.size e size (.slice (some ⟨W.heap.size, 0, none⟩) 0 0) 0 [] := World.ownsRow_lit W #[] 0 (Nat.le_refl _) (Nat.zero_le _) (by simp)
set_option maxRecDepth 100000 in
theorem cpTx_any (l : List ByteArray) (v : Value) (hb : l.length * 16 ≤ 140737488355328) (hM : txK.slS (At N w0 M) v l) (H : Lies N w0 W (sepT M R)) : Calls Tryz.prog 23 #[v] W fun e W' => ∃ A c, e = .returned (.slice A l.length c) ∧ Lies N w0 W' (sepT (txT.slT 9 (.slice A l.length c) l) (sepT M R)) := by
  obtain ⟨A, c, css, rfl, hr, h1, hall, hl⟩ := leaf_out txL hM
  have HX := Lib.hid (hr _ ⟨_, H.alloc (.cells #[] 9)⟩)
  have HO := Lib.hid (empty_own W 9 1)
  have HH := Lib.hid H
  have HA := Lib.hid hall
  obtain ⟨i0, hi0, hz0, hz1, hz2⟩ := info_parts info_lTx
  obtain ⟨n, hn⟩ : ∃ n, n = l.length := ⟨_, rfl⟩
  rw [← hn] at HX hl hb ⊢
  have HN := Lib.hid hn
  clear hM H hr hn hall
  go_enter Tryz.func23, Tryz.ntmps23
  go_wp2_with (at_builtin; refine wpList_append_any _ rfl (.tmp 3) (.tmp 4) _ rfl W.heap.size 9 i0 _ 1 16 Tryz.underlying24 hi0 hz0 hz1 hz2 rfl (by decide) (.slice (some ⟨W.heap.size, 0, none⟩) 0 0) 0 [] rfl HO.out _ A n c css.flatten rfl HX.out h1 (by simp only [maxLen]; omega) (by omega) (by simp) ?_; intro v' w1 hown' hgrow hat; rw [Nat.zero_add, List.nil_append] at hown'; obtain ⟨A', c', rfl, _⟩ := gro_form hown')
  go_ret
  refine ⟨A', c', rfl, ?_⟩
  exact copied HH.out (T := txT) (l := l) (by rw [← HN.out]; exact hl) HA.out (by rw [← HN.out]; exact hown') hgrow
set_option maxRecDepth 100000 in
theorem cpSt_any (l : List St) (v : Value) (hb : l.length * 40 ≤ 140737488355328) (hM : stK.slS (At N w0 M) v l) (H : Lies N w0 W (sepT M R)) : Calls Tryz.prog 22 #[v] W fun e W' => ∃ A c, e = .returned (.slice A l.length c) ∧ Lies N w0 W' (sepT (stT.slT 70 (.slice A l.length c) l) (sepT M R)) := by
  obtain ⟨A, c, css, rfl, hr, h1, hall, hl⟩ := leaf_out stL hM
  have HX := Lib.hid (hr _ ⟨_, H.alloc (.cells #[] 70)⟩)
  have HO := Lib.hid (empty_own W 70 3)
  have HH := Lib.hid H
  have HA := Lib.hid hall
  obtain ⟨i0, hi0, hz0, hz1, hz2⟩ := info_parts info_lSt
  obtain ⟨n, hn⟩ : ∃ n, n = l.length := ⟨_, rfl⟩
  rw [← hn] at HX hl hb ⊢
  have HN := Lib.hid hn
  clear hM H hr hn hall
  go_enter Tryz.func22, Tryz.ntmps22
  go_wp2_with (at_builtin; refine wpList_append_any _ rfl (.tmp 3) (.tmp 4) _ rfl W.heap.size 70 i0 _ 3 40 Tryz.underlying23 hi0 hz0 hz1 hz2 rfl (by decide) (.slice (some ⟨W.heap.size, 0, none⟩) 0 0) 0 [] rfl HO.out _ A n c css.flatten rfl HX.out h1 (by simp only [maxLen]; omega) (by omega) (by simp) ?_; intro v' w1 hown' hgrow hat; rw [Nat.zero_add, List.nil_append] at hown'; obtain ⟨A', c', rfl, _⟩ := gro_form hown')
  go_ret
  refine ⟨A', c', rfl, ?_⟩
  exact copied HH.out (T := stT) (l := l) (by rw [← HN.out]; exact hl) HA.out (by rw [← HN.out]; exact hown') hgrow
end
end Go.Proofs.YtcapdmicekialaaGreat
