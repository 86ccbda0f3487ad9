/- Things of told data: what a slice just made holds, with all that lies below it. -/
import Derived.Test.YtcapdmicekialaaCoTypes
import Derived.Test.YtcapdmicekialaaRows0
namespace Go.Proofs.Ytcapdmicekialaa
open Go.RowKit
set_option linter.unusedVariables false
/-- A kind whose elements are things, made of what is told. -/
structure TK {α : Type} (K : Kind α) where
  el : List Value → α → Thing
  out : ∀ {W F cs a}, (el cs a).at_ W F → ∃ M : Thing, M.at_ W F ∧ ∀ N w0, K.told (At N w0 M) cs a
def allT {α : Type} (el : List Value → α → Thing) : List (List Value) → List α → Thing
  | [], [] => empT
  | c :: cs, x :: l => sepT (el c x) (allT el cs l)
  | _, _ => factT False
def TK.slT {α : Type} {K : Kind α} (T : TK K) (e : TypeId) (v : Value) (l : List α) : Thing :=
  someT fun css => sepT (factT (l.length ≤ 140737488351232)) (sepT (rowT e K.size v l.length (List.flatten css)) (allT T.el css l))
section
variable {α : Type} {K : Kind α} {N : Nat} {w0 W : World} {R : Thing} {F : Nat → Prop}
theorem at_imp {a b : Thing} {N : Nat} {w0 : World} (h : ∀ W, At N w0 b W → At N w0 a W) : ∀ W', At N w0 b W' → ∃ W, At N w0 a W ∧ Below W.heap.size W W' :=
  fun W' hW' => ⟨W', h W' hW', Below.refl _ _⟩
theorem At.left {a b : Thing} (h : At N w0 (sepT a b) W) : At N w0 a W := by
  obtain ⟨R, h⟩ := h
  exact ⟨sepT b R, h.turn (by ac_rfl)⟩
theorem At.right {a b : Thing} (h : At N w0 (sepT a b) W) : At N w0 b W := by
  obtain ⟨R, h⟩ := h
  exact ⟨sepT a R, h.turn (by ac_rfl)⟩
theorem allT_out (T : TK K) : ∀ {css : List (List Value)} {l : List α} {F : Nat → Prop}, (allT T.el css l).at_ W F → ∃ M : Thing, M.at_ W F ∧ ∀ N w0, all2 (K.told (At N w0 M)) css l
  | [], [], F, h => ⟨empT, h, fun _ _ => trivial⟩
  | c :: cs, x :: l, F, h => by
    obtain ⟨F1, F2, h1, h2, h3, rfl⟩ := h
    obtain ⟨M1, a1, b1⟩ := T.out h1
    obtain ⟨M2, a2, b2⟩ := allT_out T h2
    exact ⟨sepT M1 M2, ⟨F1, F2, a1, a2, h3, rfl⟩, fun N w0 => ⟨K.keep (b1 N w0) (at_imp fun _ => At.left), (b2 N w0).imp fun _ _ h => K.keep h (at_imp fun _ => At.right)⟩⟩
  | [], _ :: _, F, h => h.1.elim
  | _ :: _, [], F, h => h.1.elim
theorem TK.sl_out (T : TK K) {e : TypeId} {v : Value} {l : List α} (h : (T.slT e v l).at_ W F) : ∃ M : Thing, M.at_ W F ∧ ∀ N w0, K.slS (At N w0 M) v l := by
  obtain ⟨css, F1, F2, ⟨hl, rfl⟩, ⟨F3, F4, h3, h4, h5, rfl⟩, _, rfl⟩ := h
  obtain ⟨M, a, b⟩ := allT_out T h4
  obtain ⟨A, c, rfl, _⟩ : ∃ A c, v = .slice A l.length c ∧ l.length ≤ c := by
    rcases h3.1.2 with ⟨rfl, hn⟩ | ⟨g, cap, cur, rfl, _, _, hc, _⟩
    · rw [hn]; exact ⟨none, 0, rfl, Nat.zero_le _⟩
    · exact ⟨_, cap, rfl, hc⟩
  have he : (fun x => False ∨ (F3 x ∨ F4 x)) = fun x => F3 x ∨ F4 x := by funext x; simp
  rw [he]
  refine ⟨sepT (rowT e K.size (.slice A l.length c) l.length (List.flatten css)) M, ⟨F3, F4, h3, a, h5, rfl⟩, fun N w0 => ⟨A, c, css, rfl, fun W' hW' => ?_, (b N w0).imp fun _ _ h => K.keep h (at_imp fun _ => At.right), hl⟩⟩
  obtain ⟨R, hW'⟩ := hW'.left
  exact Reads.of_own hW'.row
/-- What was told, as it is read. -/
theorem TK.told (T : TK K) {cs : List Value} {a : α} (H : Lies N w0 W (sepT (T.el cs a) R)) : ∃ M : Thing, Lies N w0 W (sepT M R) ∧ K.told (At N w0 M) cs a := by
  obtain ⟨⟨_, ⟨F1, F2, h1, h2, h3, rfl⟩, h5⟩, h6⟩ := H
  obtain ⟨M, a1, b1⟩ := T.out h1
  exact ⟨M, ⟨⟨_, ⟨F1, F2, a1, h2, h3, rfl⟩, h5⟩, h6⟩, b1 N w0⟩
theorem TK.tolds (T : TK K) {e : TypeId} {v : Value} {l : List α} (H : Lies N w0 W (sepT (T.slT e v l) R)) : ∃ M : Thing, Lies N w0 W (sepT M R) ∧ K.slS (At N w0 M) v l := by
  obtain ⟨⟨_, ⟨F1, F2, h1, h2, h3, rfl⟩, h5⟩, h6⟩ := H
  obtain ⟨M, a1, b1⟩ := T.sl_out h1
  exact ⟨M, ⟨⟨_, ⟨F1, F2, a1, h2, h3, rfl⟩, h5⟩, h6⟩, b1 N w0⟩
theorem allT_len {el : List Value → α → Thing} : ∀ {css : List (List Value)} {l : List α} {F : Nat → Prop}, (allT el css l).at_ W F → css.length = l.length
  | [], [], _, _ => rfl
  | c :: cs, x :: l, F, h => by
    obtain ⟨F1, F2, h1, h2, h3, rfl⟩ := h
    simp [allT_len h2]
  | [], _ :: _, F, h => h.1.elim
  | _ :: _, [], F, h => h.1.elim
theorem allT_app (el : List Value → α → Thing) : ∀ (css : List (List Value)) (l : List α) (c : List Value) (x : α), css.length = l.length → allT el (css ++ [c]) (l ++ [x]) = sepT (allT el css l) (el c x)
  | [], [], c, x, _ => by show sepT (el c x) empT = sepT empT (el c x); ac_rfl
  | d :: cs, y :: l, c, x, h => by
    show sepT (el d y) (allT el (cs ++ [c]) (l ++ [x])) = sepT (sepT (el d y) (allT el cs l)) (el c x)
    rw [allT_app el cs l c x (by simpa using h)]
    ac_rfl
  | [], _ :: _, c, x, h => by simp at h
  | _ :: _, [], c, x, h => by simp at h
/-- A list that grows: the row beside the elements. -/
def TK.gro {K : Kind α} (T : TK K) (e : TypeId) (v : Value) (css : List (List Value)) (l : List α) : Thing := sepT (rowT e K.size v l.length (List.flatten css)) (allT T.el css l)
theorem TK.gro_nil (T : TK K) (e : TypeId) (H : Lies N w0 W R) : Lies N w0 W (sepT (T.gro e (.slice none 0 0) [] []) R) := by
  have h3 := (H.add (rowT e K.size (.slice none 0 0) 0 []) (Only.refl _ _) ⟨_, ⟨World.ownsRow_nil _ _ _ _, rfl⟩, fun b hb => by simp [Value.ownBlock] at hb⟩)
  refine h3.turn ?_
  show _ = sepT (sepT (rowT e K.size (.slice none 0 0) 0 []) empT) R
  rw [sep_empT]
theorem TK.gro_len (T : TK K) {e : TypeId} {v : Value} {css : List (List Value)} {l : List α} (H : Lies N w0 W (sepT (T.gro e v css l) R)) : css.length = l.length := by
  obtain ⟨F, ⟨F1, F2, _, h2, _⟩, _⟩ := H.get
  exact allT_len h2
theorem TK.gro_row (T : TK K) {e : TypeId} {v : Value} {css : List (List Value)} {l : List α} (H : Lies N w0 W (sepT (T.gro e v css l) R)) : W.ownsRow 0 e K.size v l.length (List.flatten css) :=
  (H.turn (a' := sepT (rowT e K.size v l.length (List.flatten css)) (sepT (allT T.el css l) R)) (by unfold TK.gro; ac_rfl)).row
/-- One more. -/
theorem TK.gro_app (T : TK K) {e : TypeId} {v v' : Value} {css : List (List Value)} {l : List α} {c : List Value} {x : α} {W' : World} (H : Lies N w0 W (sepT (T.gro e v css l) (sepT (T.el c x) R)))
    (ho : W'.ownsRow 0 e K.size v' (l.length + 1) (List.flatten css ++ c)) (hg : W.grownBy W' v.ownBlock) (hat : v'.ownBlock = v.ownBlock ∨ v'.ownBlock = some W.heap.size) : Lies N w0 W' (sepT (T.gro e v' (css ++ [c]) (l ++ [x])) R) := by
  have hl := T.gro_len H
  have h1 := (H.turn (a' := sepT (rowT e K.size v l.length (List.flatten css)) (sepT (allT T.el css l) (sepT (T.el c x) R))) (by unfold TK.gro; ac_rfl)).grown ho hg hat
  refine h1.turn ?_
  unfold TK.gro
  rw [allT_app T.el css l c x hl, List.flatten_append, List.length_append]
  simp only [List.flatten_cons, List.flatten_nil, List.append_nil, List.length_cons, List.length_nil, Nat.zero_add]
  ac_rfl
theorem TK.gro_sl (T : TK K) {e : TypeId} {v : Value} {css : List (List Value)} {l : List α} (hl : l.length ≤ 140737488351232) (H : Lies N w0 W (sepT (T.gro e v css l) R)) : Lies N w0 W (sepT (T.slT e v l) R) := by
  refine Lies.intro css ?_
  rw [factT_true hl, empT_sep]
  exact H
theorem TK.sl_form (T : TK K) {e : TypeId} {v : Value} {l : List α} (H : Lies N w0 W (sepT (T.slT e v l) R)) : ∃ A c, v = .slice A l.length c ∧ l.length ≤ 140737488351232 := by
  obtain ⟨css, H⟩ := H.ex
  rw [sepT_assoc] at H
  obtain ⟨hl, H⟩ := H.fact
  rw [sepT_assoc] at H
  have h := H.row
  rcases h.2 with ⟨rfl, hn⟩ | ⟨g, cap, cur, rfl, _, _, hc, _⟩
  · rw [hn]; exact ⟨none, 0, rfl, by simp⟩
  · exact ⟨_, cap, rfl, hl⟩
end
def txT : TK txK where
  el cs s := factT (cs = [.string s] ∧ sz s)
  out := fun {W F cs a} h => ⟨empT, h.2, fun _ _ => h.1⟩
def vrT : TK vrK where
  el cs x := factT (cs = [.string x.1, .string x.2] ∧ sz x.1 ∧ sz x.2)
  out := fun {W F cs a} h => ⟨empT, h.2, fun _ _ => h.1⟩
def stT : TK stK where
  el cs x := factT (cs = [.int .i64 x.what, .string x.src, .string x.dst] ∧ iz x.what ∧ sz x.src ∧ sz x.dst)
  out := fun {W F cs a} h => ⟨empT, h.2, fun _ _ => h.1⟩
def inT : TK inK where
  el cs x := factT (cs = [.int .i64 x.op, .int .i64 x.a, .int .i64 x.b, .int .i64 x.c] ∧ iz x.op ∧ iz x.a ∧ iz x.b ∧ iz x.c)
  out := fun {W F cs a} h => ⟨empT, h.2, fun _ _ => h.1⟩
def sgT : TK sgK where
  el cs x := someT fun ps => sepT (factT (cs = [.string x.name, ps, .string x.result] ∧ sz x.name ∧ sz x.result)) (vrT.slT 151 ps x.params)
  out := by
    rintro W F cs x ⟨ps, F1, F2, ⟨⟨rfl, h1, h2⟩, rfl⟩, h3, _, rfl⟩
    obtain ⟨M, a, b⟩ := vrT.sl_out h3
    exact ⟨M, by have he : (fun x => False ∨ F2 x) = F2 := by { funext x; simp }
                 rw [he]; exact a, fun N w0 => ⟨ps, rfl, h1, h2, b N w0⟩⟩
def clT : TK clK where
  el cs x := someT fun ps : Value × Value => sepT (factT (cs = [.string x.name, .string x.super, ps.1, ps.2] ∧ sz x.name ∧ sz x.super)) (sepT (vrT.slT 151 ps.1 x.fields) (sgT.slT 136 ps.2 x.methods))
  out := by
    rintro W F cs x ⟨⟨p, q⟩, F1, F2, ⟨⟨rfl, h1, h2⟩, rfl⟩, ⟨F3, F4, h3, h4, h5, rfl⟩, _, rfl⟩
    obtain ⟨M, a, b⟩ := vrT.sl_out h3
    obtain ⟨M2, a2, b2⟩ := sgT.sl_out h4
    refine ⟨sepT M M2, ?_, fun N w0 => ⟨p, q, rfl, h1, h2, Kind.sl_keep (b N w0) (at_imp fun _ => At.left), Kind.sl_keep (b2 N w0) (at_imp fun _ => At.right)⟩⟩
    have he : (fun x => False ∨ (F3 x ∨ F4 x)) = fun x => F3 x ∨ F4 x := by funext x; simp
    rw [he]
    exact ⟨F3, F4, a, a2, h5, rfl⟩
def fuT : TK fuK where
  el cs x := someT fun ps : Value × Value => sepT (factT (cs = [.string x.cls, .string x.name, ps.1, ps.2] ∧ sz x.cls ∧ sz x.name)) (sepT (txT.slT 9 ps.1 x.locals) (inT.slT 146 ps.2 x.code))
  out := by
    rintro W F cs x ⟨⟨p, q⟩, F1, F2, ⟨⟨rfl, h1, h2⟩, rfl⟩, ⟨F3, F4, h3, h4, h5, rfl⟩, _, rfl⟩
    obtain ⟨M, a, b⟩ := txT.sl_out h3
    obtain ⟨M2, a2, b2⟩ := inT.sl_out h4
    refine ⟨sepT M M2, ?_, fun N w0 => ⟨p, q, rfl, h1, h2, Kind.sl_keep (b N w0) (at_imp fun _ => At.left), Kind.sl_keep (b2 N w0) (at_imp fun _ => At.right)⟩⟩
    have he : (fun x => False ∨ (F3 x ∨ F4 x)) = fun x => F3 x ∨ F4 x := by funext x; simp
    rw [he]
    exact ⟨F3, F4, a, a2, h5, rfl⟩
def mdT : TK mdK where
  el cs x := someT fun ps : Value × Value × Value × Value => sepT (factT (cs = [ps.1, ps.2.1, ps.2.2.1, ps.2.2.2])) (sepT (clT.slT 95 ps.1 x.table) (sepT (stT.slT 99 ps.2.1 x.sites) (sepT (txT.slT 9 ps.2.2.1 x.pool) (fuT.slT 106 ps.2.2.2 x.funcs))))
  out := by
    rintro W F cs x ⟨⟨p, q, r, s⟩, F1, F2, ⟨rfl, rfl⟩, ⟨F3, F4, h3, ⟨F5, F6, h5, ⟨F7, F8, h7, h8, h9, rfl⟩, h10, rfl⟩, h11, rfl⟩, _, rfl⟩
    obtain ⟨M, a, b⟩ := clT.sl_out h3
    obtain ⟨M2, a2, b2⟩ := stT.sl_out h5
    obtain ⟨M3, a3, b3⟩ := txT.sl_out h7
    obtain ⟨M4, a4, b4⟩ := fuT.sl_out h8
    refine ⟨sepT M (sepT M2 (sepT M3 M4)), ?_, fun N w0 => ⟨p, q, r, s, rfl, Kind.sl_keep (b N w0) (at_imp fun _ => At.left), Kind.sl_keep (b2 N w0) (at_imp fun _ h => h.right.left), Kind.sl_keep (b3 N w0) (at_imp fun _ h => h.right.right.left), Kind.sl_keep (b4 N w0) (at_imp fun _ h => h.right.right.right)⟩⟩
    have he : (fun x => False ∨ (F3 x ∨ (F5 x ∨ (F7 x ∨ F8 x)))) = fun x => F3 x ∨ (F5 x ∨ (F7 x ∨ F8 x)) := by funext x; simp
    rw [he]
    exact ⟨F3, _, a, ⟨F5, _, a2, ⟨F7, F8, a3, a4, h9, rfl⟩, h10, rfl⟩, h11, rfl⟩
end Go.Proofs.Ytcapdmicekialaa
