/- Merged by merge.py: CoRdP, CoThings, CoRd, CoRd2, CoRdAll. -/
import Derived.Test.YtcapdmicekialaaGreatCoTypes
import Derived.Test.YtcapdmicekialaaGreatOcThings
import Derived.Test.YtcapdmicekialaaGreatRows0
import Derived.Test.YtcapdmicekialaaGreatCoWrAll
import Derived.Laws.ResultCell
import Derived.Test.YtcapdmicekialaaGreatOcKnown
/- What codec's reader tells, as plain Lean. -/
namespace Go.Proofs.YtcapdmicekialaaGreat
open Go.RowKit
set_option linter.unusedVariables false
/-- A reader that may end with a fault. -/
abbrev Rdr (α : Type) := RS → Except (Int × Int) (α × RS)
def Rdr.bind {α β : Type} (r : Rdr α) (f : α → Rdr β) : Rdr β := fun s => match r s with | .ok (a, s') => f a s' | .error e => .error e
def Rdr.pure {α : Type} (a : α) : Rdr α := fun s => .ok (a, s)
def numR (bs : List UInt8) : Rdr (Nat × Nat) := fun s => if (rNum bs s).2.2.1 = 0 then .ok (((rNum bs s).1, s.1), (rNum bs s).2) else .error (rNum bs s).2.2
def wordR (bs : List UInt8) : Rdr ByteArray := fun s => if (rWord bs s 1000).2.2.1 = 0 then .ok (strB (rWord bs s 1000).1, (rWord bs s 1000).2) else .error (rWord bs s 1000).2.2
def mustR (b : Bool) (e at_ : Int) : Rdr Unit := fun s => if b then .ok ((), s) else .error (e, at_)
def timesR {α : Type} (one : Rdr α) : Nat → List α → Rdr (List α)
  | 0, acc => Rdr.pure acc
  | n + 1, acc => one.bind fun a => timesR one n (acc ++ [a])
def listR {α : Type} (bs : List UInt8) (most : Nat) (one : Rdr α) : Rdr (List α) := (numR bs).bind fun n => (mustR (decide (n.1 ≤ most)) 12 n.2).bind fun _ => timesR one n.1 []
def justR (bs : List UInt8) (want : Nat) : Rdr Unit := (numR bs).bind fun n => mustR (n.1 == want) 5 n.2
def vrR (bs : List UInt8) : Rdr Vr := (wordR bs).bind fun a => (wordR bs).bind fun b => Rdr.pure (a, b)
def sgR (bs : List UInt8) : Rdr Sg := (wordR bs).bind fun a => (listR bs 8 (vrR bs)).bind fun l => (wordR bs).bind fun b => Rdr.pure ⟨a, l, b⟩
def clR (bs : List UInt8) : Rdr Cl := (wordR bs).bind fun a => (wordR bs).bind fun b => (listR bs 20 (vrR bs)).bind fun f => (listR bs 20 (sgR bs)).bind fun m => Rdr.pure ⟨a, b, f, m⟩
def stR (bs : List UInt8) : Rdr St := (numR bs).bind fun n => (wordR bs).bind fun a => (wordR bs).bind fun b => Rdr.pure ⟨n.1, a, b⟩
def opR (bs : List UInt8) : Rdr Int := (numR bs).bind fun s => (mustR (decide (s.1 ≤ 1)) 5 s.2).bind fun _ => (numR bs).bind fun n => Rdr.pure (if s.1 = 1 then -1 - (n.1 : Int) else (n.1 : Int))
def inR (bs : List UInt8) : Rdr In := (numR bs).bind fun n => (opR bs).bind fun a => (opR bs).bind fun b => (opR bs).bind fun c => Rdr.pure ⟨n.1, a, b, c⟩
def fuR (bs : List UInt8) : Rdr Fu := (wordR bs).bind fun a => (wordR bs).bind fun b => (listR bs 200 (wordR bs)).bind fun l => (listR bs 20000 (inR bs)).bind fun c => Rdr.pure ⟨a, b, l, c⟩
def mdR (bs : List UInt8) : Rdr Md := (justR bs 67).bind fun _ => (justR bs 1).bind fun _ => (listR bs 40 (clR bs)).bind fun t => (listR bs 5000 (stR bs)).bind fun s => (listR bs 2000 (wordR bs)).bind fun p => (listR bs 1000 (fuR bs)).bind fun f => Rdr.pure ⟨t, s, p, f⟩
def noMd : Md := ⟨[], [], [], []⟩
/-- What Decode tells. -/
def decM (bs : List UInt8) : Md × (Int × Int) := match mdR bs (0, 0, 0) with
  | .error f => (noMd, f)
  | .ok (m, s) => if rEnd bs s = (0, 0) then (m, (0, 0)) else (noMd, rEnd bs s)
end Go.Proofs.YtcapdmicekialaaGreat
/- Things of told data: what a slice just made holds, with all that lies below it. -/
namespace Go.Proofs.YtcapdmicekialaaGreat
open Go.RowKit
set_option linter.unusedVariables false
/-- A kind whose elements are things, made of what is told. -/
structure TK {α : Type} (K : Kind α) where
  el : List Value → α → Thing
  out : ∀ {W F cs a}, (el cs a).at_ W F → ∃ M : Thing, M.at_ W F ∧ ∀ N w0, K.told (At N w0 M) cs a
def allT {α : Type} (el : List Value → α → Thing) : List (List Value) → List α → Thing
  | [], [] => empT
  | c :: cs, x :: l => sepT (el c x) (allT el cs l)
  | _, _ => factT False
def TK.slT {α : Type} {K : Kind α} (T : TK K) (e : TypeId) (v : Value) (l : List α) : Thing :=
  someT fun css => sepT (factT (l.length ≤ 140737488351232)) (sepT (rowT e K.size v l.length (List.flatten css)) (allT T.el css l))
section
variable {α : Type} {K : Kind α} {N : Nat} {w0 W : World} {R : Thing} {F : Nat → Prop}
theorem at_imp {a b : Thing} {N : Nat} {w0 : World} (h : ∀ W, At N w0 b W → At N w0 a W) : ∀ W', At N w0 b W' → ∃ W, At N w0 a W ∧ Below W.heap.size W W' :=
  fun W' hW' => ⟨W', h W' hW', Below.refl _ _⟩
theorem At.left {a b : Thing} (h : At N w0 (sepT a b) W) : At N w0 a W := by
  obtain ⟨R, h⟩ := h
  exact ⟨sepT b R, h.turn (by ac_rfl)⟩
theorem At.right {a b : Thing} (h : At N w0 (sepT a b) W) : At N w0 b W := by
  obtain ⟨R, h⟩ := h
  exact ⟨sepT a R, h.turn (by ac_rfl)⟩
theorem allT_out (T : TK K) : ∀ {css : List (List Value)} {l : List α} {F : Nat → Prop}, (allT T.el css l).at_ W F → ∃ M : Thing, M.at_ W F ∧ ∀ N w0, all2 (K.told (At N w0 M)) css l
  | [], [], F, h => ⟨empT, h, fun _ _ => trivial⟩
  | c :: cs, x :: l, F, h => by
    obtain ⟨F1, F2, h1, h2, h3, rfl⟩ := h
    obtain ⟨M1, a1, b1⟩ := T.out h1
    obtain ⟨M2, a2, b2⟩ := allT_out T h2
    exact ⟨sepT M1 M2, ⟨F1, F2, a1, a2, h3, rfl⟩, fun N w0 => ⟨K.keep (b1 N w0) (at_imp fun _ => At.left), (b2 N w0).imp fun _ _ h => K.keep h (at_imp fun _ => At.right)⟩⟩
  | [], _ :: _, F, h => h.1.elim
  | _ :: _, [], F, h => h.1.elim
theorem TK.sl_out (T : TK K) {e : TypeId} {v : Value} {l : List α} (h : (T.slT e v l).at_ W F) : ∃ M : Thing, M.at_ W F ∧ ∀ N w0, K.slS (At N w0 M) v l := by
  obtain ⟨css, F1, F2, ⟨hl, rfl⟩, ⟨F3, F4, h3, h4, h5, rfl⟩, _, rfl⟩ := h
  obtain ⟨M, a, b⟩ := allT_out T h4
  obtain ⟨A, c, rfl, _⟩ : ∃ A c, v = .slice A l.length c ∧ l.length ≤ c := by
    rcases h3.1.2 with ⟨rfl, hn⟩ | ⟨g, cap, cur, rfl, _, _, hc, _⟩
    · rw [hn]; exact ⟨none, 0, rfl, Nat.zero_le _⟩
    · exact ⟨_, cap, rfl, hc⟩
  have he : (fun x => False ∨ (F3 x ∨ F4 x)) = fun x => F3 x ∨ F4 x := by funext x; simp
  rw [he]
  refine ⟨sepT (rowT e K.size (.slice A l.length c) l.length (List.flatten css)) M, ⟨F3, F4, h3, a, h5, rfl⟩, fun N w0 => ⟨A, c, css, rfl, fun W' hW' => ?_, (b N w0).imp fun _ _ h => K.keep h (at_imp fun _ => At.right), hl⟩⟩
  obtain ⟨R, hW'⟩ := hW'.left
  exact Reads.of_own hW'.row
/-- What was told, as it is read. -/
theorem TK.told (T : TK K) {cs : List Value} {a : α} (H : Lies N w0 W (sepT (T.el cs a) R)) : ∃ M : Thing, Lies N w0 W (sepT M R) ∧ K.told (At N w0 M) cs a := by
  obtain ⟨⟨_, ⟨F1, F2, h1, h2, h3, rfl⟩, h5⟩, h6⟩ := H
  obtain ⟨M, a1, b1⟩ := T.out h1
  exact ⟨M, ⟨⟨_, ⟨F1, F2, a1, h2, h3, rfl⟩, h5⟩, h6⟩, b1 N w0⟩
theorem TK.tolds (T : TK K) {e : TypeId} {v : Value} {l : List α} (H : Lies N w0 W (sepT (T.slT e v l) R)) : ∃ M : Thing, Lies N w0 W (sepT M R) ∧ K.slS (At N w0 M) v l := by
  obtain ⟨⟨_, ⟨F1, F2, h1, h2, h3, rfl⟩, h5⟩, h6⟩ := H
  obtain ⟨M, a1, b1⟩ := T.sl_out h1
  exact ⟨M, ⟨⟨_, ⟨F1, F2, a1, h2, h3, rfl⟩, h5⟩, h6⟩, b1 N w0⟩
theorem allT_len {el : List Value → α → Thing} : ∀ {css : List (List Value)} {l : List α} {F : Nat → Prop}, (allT el css l).at_ W F → css.length = l.length
  | [], [], _, _ => rfl
  | c :: cs, x :: l, F, h => by
    obtain ⟨F1, F2, h1, h2, h3, rfl⟩ := h
    simp [allT_len h2]
  | [], _ :: _, F, h => h.1.elim
  | _ :: _, [], F, h => h.1.elim
theorem allT_app (el : List Value → α → Thing) : ∀ (css : List (List Value)) (l : List α) (c : List Value) (x : α), css.length = l.length → allT el (css ++ [c]) (l ++ [x]) = sepT (allT el css l) (el c x)
  | [], [], c, x, _ => by show sepT (el c x) empT = sepT empT (el c x); ac_rfl
  | d :: cs, y :: l, c, x, h => by
    show sepT (el d y) (allT el (cs ++ [c]) (l ++ [x])) = sepT (sepT (el d y) (allT el cs l)) (el c x)
    rw [allT_app el cs l c x (by simpa using h)]
    ac_rfl
  | [], _ :: _, c, x, h => by simp at h
  | _ :: _, [], c, x, h => by simp at h
/-- A list that grows: the row beside the elements. -/
def TK.gro {K : Kind α} (T : TK K) (e : TypeId) (v : Value) (css : List (List Value)) (l : List α) : Thing := sepT (rowT e K.size v l.length (List.flatten css)) (allT T.el css l)
theorem TK.gro_nil (T : TK K) (e : TypeId) (H : Lies N w0 W R) : Lies N w0 W (sepT (T.gro e (.slice none 0 0) [] []) R) := by
  have h3 := (H.add (rowT e K.size (.slice none 0 0) 0 []) (Only.refl _ _) ⟨_, ⟨World.ownsRow_nil _ _ _ _, rfl⟩, fun b hb => by simp [Value.ownBlock] at hb⟩)
  refine h3.turn ?_
  show _ = sepT (sepT (rowT e K.size (.slice none 0 0) 0 []) empT) R
  rw [sep_empT]
theorem TK.gro_len (T : TK K) {e : TypeId} {v : Value} {css : List (List Value)} {l : List α} (H : Lies N w0 W (sepT (T.gro e v css l) R)) : css.length = l.length := by
  obtain ⟨F, ⟨F1, F2, _, h2, _⟩, _⟩ := H.get
  exact allT_len h2
theorem TK.gro_row (T : TK K) {e : TypeId} {v : Value} {css : List (List Value)} {l : List α} (H : Lies N w0 W (sepT (T.gro e v css l) R)) : W.ownsRow 0 e K.size v l.length (List.flatten css) :=
  (H.turn (a' := sepT (rowT e K.size v l.length (List.flatten css)) (sepT (allT T.el css l) R)) (by unfold TK.gro; ac_rfl)).row
/-- One more. -/
theorem TK.gro_app (T : TK K) {e : TypeId} {v v' : Value} {css : List (List Value)} {l : List α} {c : List Value} {x : α} {W' : World} (H : Lies N w0 W (sepT (T.gro e v css l) (sepT (T.el c x) R)))
    (ho : W'.ownsRow 0 e K.size v' (l.length + 1) (List.flatten css ++ c)) (hg : W.grownBy W' v.ownBlock) (hat : v'.ownBlock = v.ownBlock ∨ v'.ownBlock = some W.heap.size) : Lies N w0 W' (sepT (T.gro e v' (css ++ [c]) (l ++ [x])) R) := by
  have hl := T.gro_len H
  have h1 := (H.turn (a' := sepT (rowT e K.size v l.length (List.flatten css)) (sepT (allT T.el css l) (sepT (T.el c x) R))) (by unfold TK.gro; ac_rfl)).grown ho hg hat
  refine h1.turn ?_
  unfold TK.gro
  rw [allT_app T.el css l c x hl, List.flatten_append, List.length_append]
  simp only [List.flatten_cons, List.flatten_nil, List.append_nil, List.length_cons, List.length_nil, Nat.zero_add]
  ac_rfl
theorem TK.gro_sl (T : TK K) {e : TypeId} {v : Value} {css : List (List Value)} {l : List α} (hl : l.length ≤ 140737488351232) (H : Lies N w0 W (sepT (T.gro e v css l) R)) : Lies N w0 W (sepT (T.slT e v l) R) := by
  refine Lies.intro css ?_
  rw [factT_true hl, empT_sep]
  exact H
theorem TK.sl_form (T : TK K) {e : TypeId} {v : Value} {l : List α} (H : Lies N w0 W (sepT (T.slT e v l) R)) : ∃ A c, v = .slice A l.length c ∧ l.length ≤ 140737488351232 := by
  obtain ⟨css, H⟩ := H.ex
  rw [sepT_assoc] at H
  obtain ⟨hl, H⟩ := H.fact
  rw [sepT_assoc] at H
  have h := H.row
  rcases h.2 with ⟨rfl, hn⟩ | ⟨g, cap, cur, rfl, _, _, hc, _⟩
  · rw [hn]; exact ⟨none, 0, rfl, by simp⟩
  · exact ⟨_, cap, rfl, hl⟩
end
def txT : TK txK where
  el cs s := factT (cs = [.string s] ∧ sz s)
  out := fun {W F cs a} h => ⟨empT, h.2, fun _ _ => h.1⟩
def vrT : TK vrK where
  el cs x := factT (cs = [.string x.1, .string x.2] ∧ sz x.1 ∧ sz x.2)
  out := fun {W F cs a} h => ⟨empT, h.2, fun _ _ => h.1⟩
def stT : TK stK where
  el cs x := factT (cs = [.int .i64 x.what, .string x.src, .string x.dst] ∧ iz x.what ∧ sz x.src ∧ sz x.dst)
  out := fun {W F cs a} h => ⟨empT, h.2, fun _ _ => h.1⟩
def inT : TK inK where
  el cs x := factT (cs = [.int .i64 x.op, .int .i64 x.a, .int .i64 x.b, .int .i64 x.c] ∧ iz x.op ∧ iz x.a ∧ iz x.b ∧ iz x.c)
  out := fun {W F cs a} h => ⟨empT, h.2, fun _ _ => h.1⟩
def sgT : TK sgK where
  el cs x := someT fun ps => sepT (factT (cs = [.string x.name, ps, .string x.result] ∧ sz x.name ∧ sz x.result)) (vrT.slT 140 ps x.params)
  out := by
    rintro W F cs x ⟨ps, F1, F2, ⟨⟨rfl, h1, h2⟩, rfl⟩, h3, _, rfl⟩
    obtain ⟨M, a, b⟩ := vrT.sl_out h3
    exact ⟨M, by have he : (fun x => False ∨ F2 x) = F2 := by { funext x; simp }
                 rw [he]; exact a, fun N w0 => ⟨ps, rfl, h1, h2, b N w0⟩⟩
def clT : TK clK where
  el cs x := someT fun ps : Value × Value => sepT (factT (cs = [.string x.name, .string x.super, ps.1, ps.2] ∧ sz x.name ∧ sz x.super)) (sepT (vrT.slT 140 ps.1 x.fields) (sgT.slT 120 ps.2 x.methods))
  out := by
    rintro W F cs x ⟨⟨p, q⟩, F1, F2, ⟨⟨rfl, h1, h2⟩, rfl⟩, ⟨F3, F4, h3, h4, h5, rfl⟩, _, rfl⟩
    obtain ⟨M, a, b⟩ := vrT.sl_out h3
    obtain ⟨M2, a2, b2⟩ := sgT.sl_out h4
    refine ⟨sepT M M2, ?_, fun N w0 => ⟨p, q, rfl, h1, h2, Kind.sl_keep (b N w0) (at_imp fun _ => At.left), Kind.sl_keep (b2 N w0) (at_imp fun _ => At.right)⟩⟩
    have he : (fun x => False ∨ (F3 x ∨ F4 x)) = fun x => F3 x ∨ F4 x := by funext x; simp
    rw [he]
    exact ⟨F3, F4, a, a2, h5, rfl⟩
def fuT : TK fuK where
  el cs x := someT fun ps : Value × Value => sepT (factT (cs = [.string x.cls, .string x.name, ps.1, ps.2] ∧ sz x.cls ∧ sz x.name)) (sepT (txT.slT 9 ps.1 x.locals) (inT.slT 117 ps.2 x.code))
  out := by
    rintro W F cs x ⟨⟨p, q⟩, F1, F2, ⟨⟨rfl, h1, h2⟩, rfl⟩, ⟨F3, F4, h3, h4, h5, rfl⟩, _, rfl⟩
    obtain ⟨M, a, b⟩ := txT.sl_out h3
    obtain ⟨M2, a2, b2⟩ := inT.sl_out h4
    refine ⟨sepT M M2, ?_, fun N w0 => ⟨p, q, rfl, h1, h2, Kind.sl_keep (b N w0) (at_imp fun _ => At.left), Kind.sl_keep (b2 N w0) (at_imp fun _ => At.right)⟩⟩
    have he : (fun x => False ∨ (F3 x ∨ F4 x)) = fun x => F3 x ∨ F4 x := by funext x; simp
    rw [he]
    exact ⟨F3, F4, a, a2, h5, rfl⟩
def mdT : TK mdK where
  el cs x := someT fun ps : Value × Value × Value × Value => sepT (factT (cs = [ps.1, ps.2.1, ps.2.2.1, ps.2.2.2])) (sepT (clT.slT 66 ps.1 x.table) (sepT (stT.slT 70 ps.2.1 x.sites) (sepT (txT.slT 9 ps.2.2.1 x.pool) (fuT.slT 48 ps.2.2.2 x.funcs))))
  out := by
    rintro W F cs x ⟨⟨p, q, r, s⟩, F1, F2, ⟨rfl, rfl⟩, ⟨F3, F4, h3, ⟨F5, F6, h5, ⟨F7, F8, h7, h8, h9, rfl⟩, h10, rfl⟩, h11, rfl⟩, _, rfl⟩
    obtain ⟨M, a, b⟩ := clT.sl_out h3
    obtain ⟨M2, a2, b2⟩ := stT.sl_out h5
    obtain ⟨M3, a3, b3⟩ := txT.sl_out h7
    obtain ⟨M4, a4, b4⟩ := fuT.sl_out h8
    refine ⟨sepT M (sepT M2 (sepT M3 M4)), ?_, fun N w0 => ⟨p, q, r, s, rfl, Kind.sl_keep (b N w0) (at_imp fun _ => At.left), Kind.sl_keep (b2 N w0) (at_imp fun _ h => h.right.left), Kind.sl_keep (b3 N w0) (at_imp fun _ h => h.right.right.left), Kind.sl_keep (b4 N w0) (at_imp fun _ h => h.right.right.right)⟩⟩
    have he : (fun x => False ∨ (F3 x ∨ (F5 x ∨ (F7 x ∨ F8 x)))) = fun x => F3 x ∨ (F5 x ∨ (F7 x ∨ F8 x)) := by funext x; simp
    rw [he]
    exact ⟨F3, _, a, ⟨F5, _, a2, ⟨F7, F8, a3, a4, h9, rfl⟩, h10, rfl⟩, h11, rfl⟩
end Go.Proofs.YtcapdmicekialaaGreat
/- codec.reader: the thing; fine, must, number, word, just. -/
namespace Go.Proofs.YtcapdmicekialaaGreat
open Go.RowKit
set_option linter.unusedVariables false
set_option linter.unusedSimpArgs false
attribute [local go_sem] Oper.semAt_some run_store_func run_store_nilFunc
def wrongV (f : Int × Int) : Value := .iface 88 (.agg #[.int .i64 f.1, .int .i64 f.2])
def crT (p : Nat) (bs : List UInt8) (s : RS) : Thing := someT fun o => sepT (blkT p 94 #[.pointer (some ⟨o, 0, none⟩), .int .i64 bs.length]) (rdT o bs s)
section
variable {N : Nat} {w0 W : World} {R M : Thing} {p : Nat} {bs : List UInt8} {s : RS}
theorem cr_out (H : Lies N w0 W (sepT (crT p bs s) R)) : ∃ o, Lies N w0 W (sepT (rdT o bs s) (sepT (blkT p 94 #[.pointer (some ⟨o, 0, none⟩), .int .i64 bs.length]) R)) := by
  obtain ⟨o, H⟩ := H.ex
  exact ⟨o, H.turn (by ac_rfl)⟩
theorem cr_in {o : Nat} (H : Lies N w0 W (sepT (rdT o bs s) (sepT (blkT p 94 #[.pointer (some ⟨o, 0, none⟩), .int .i64 bs.length]) R))) : Lies N w0 W (sepT (crT p bs s) R) :=
  Lies.intro o (H.turn (by ac_rfl))
theorem cr_cell (H : Lies N w0 W (sepT (crT p bs s) R)) : ∃ o, W.cell? ⟨p, 0, none⟩ = some (.pointer (some ⟨o, 0, none⟩)) ∧ W.cell? ⟨p, 1, none⟩ = some (.int .i64 bs.length) ∧
    (Calls Tryz.prog 130 #[.pointer (some ⟨o, 0, none⟩)] W fun e W' => e = .returned (.int .i64 (rNum bs s).1) ∧ Lies N w0 W' (sepT (crT p bs (rNum bs s).2) R)) ∧
    (∀ most : Int, Calls Tryz.prog 106 #[.pointer (some ⟨o, 0, none⟩), .int .i64 most] W fun e W' => e = .returned (.string (strB (rWord bs s most).1)) ∧ Lies N w0 W' (sepT (crT p bs (rWord bs s most).2) R)) ∧
    (Calls Tryz.prog 129 #[.pointer (some ⟨o, 0, none⟩)] W fun e W' => e = .returned (.int .i64 (if s.2.1 ≠ 0 then 0 else (bs.length : Int) - s.1)) ∧ Lies N w0 W' (sepT (crT p bs s) R)) ∧
    (Calls Tryz.prog 57 #[.pointer (some ⟨o, 0, none⟩)] W fun e W' => e = .returned (.agg #[.int .i64 (rEnd bs s).1, .int .i64 (rEnd bs s).2]) ∧ Lies N w0 W' (sepT (crT p bs s) R)) := by
  obtain ⟨o, h⟩ := cr_out H
  have hb := (h.turn (a' := sepT (blkT p 94 #[.pointer (some ⟨o, 0, none⟩), .int .i64 bs.length]) (sepT (rdT o bs s) R)) (by ac_rfl)).blk.1
  refine ⟨o, hb.cell 0, hb.cell 1, ?_, fun most => ?_, ?_, ?_⟩
  · exact (Hold.dnum h.hold 0 rfl).mono fun e W' ⟨he, h'⟩ => ⟨he, cr_in h'.lies⟩
  · exact (Hold.dword h.hold 0 rfl most).mono fun e W' ⟨he, h'⟩ => ⟨he, cr_in h'.lies⟩
  · exact (Hold.drest h.hold 0 rfl).mono fun e W' ⟨he, h'⟩ => ⟨he, cr_in h'.lies⟩
  · exact (Hold.dend h.hold 0 rfl).mono fun e W' ⟨he, h'⟩ => ⟨he, cr_in h'.lies⟩
/-- What fine comes to. -/
def FineE (N : Nat) (w0 : World) (R : Thing) (p : Nat) (bs : List UInt8) (s : RS) (e : Ending) (w' : World) : Prop :=
  (s.2.1 = 0 → e = .returned (.tuple #[]) ∧ Lies N w0 w' (sepT (crT p bs s) R)) ∧ (s.2.1 ≠ 0 → e = .panicked [{ v := wrongV s.2, recovered := false }] ∧ Lies N w0 w' (sepT (crT p bs s) R))
set_option maxRecDepth 100000 in
set_option maxHeartbeats 1600000 in
theorem rfine_any (H : Lies N w0 W (sepT (crT p bs s) R)) : Calls Tryz.prog 107 #[.pointer (some ⟨p, 0, none⟩)] W (FineE N w0 R p bs s) := by
  obtain ⟨o, c0, _, _, _, _, hE⟩ := cr_cell H
  have HEn := Lib.hid hE
  clear H hE
  by_cases h0 : s.2.1 = 0
  · by_cases h1 : s.1 < bs.length
    · have hR : rEnd bs s = (4, (s.1 : Int)) := by unfold rEnd; rw [if_neg (by simpa using h0), if_pos h1]
      rw [hR] at HEn
      have HN0 : Hid (∀ E w', (E = Ending.returned (.tuple #[]) ∧ Lies N w0 w' (sepT (crT p bs s) R)) → FineE N w0 R p bs s E w') := Lib.hid fun E w' h => ⟨fun _ => h, fun h' => absurd h0 h'⟩
      have HRest : Hid (((if s.2.1 ≠ 0 then 0 else (bs.length : Int) - s.1) : Int) ≠ 0) := Lib.hid (by rw [if_neg (by simpa using h0)]; omega)
      clear h0 h1 hR
      go_enter Tryz.func107, Tryz.ntmps107
      go_wp2_with fail
      refine HEn.out.mono ?_
      rintro e w1 ⟨rfl, h⟩
      obtain ⟨o2, c02, _, _, _, hRe, _⟩ := cr_cell (h.alloc (.cells #[.int .i64 4, .int .i64 s.1] 40))
      obtain ⟨rs, hrs⟩ : ∃ rs, rs = ((if s.2.1 ≠ 0 then 0 else (bs.length : Int) - s.1) : Int) := ⟨_, rfl⟩
      have hne : ¬ rs = 0 := by rw [hrs]; exact HRest.out
      rw [← hrs] at hRe
      have HRe := Lib.hid hRe
      clear h hRe HEn c0 hrs
      go_wp2_with fail
      refine HRe.out.mono ?_
      rintro e w2 ⟨rfl, h⟩
      have HF := Lib.hid h
      clear h HRe c02
      go_wp2_with fail
      go_end0
      exact HN0.out _ _ ⟨rfl, HF.out⟩
    · have hR : rEnd bs s = (0, 0) := by unfold rEnd; rw [if_neg (by simpa using h0), if_neg h1]
      rw [hR] at HEn
      have HN0 : Hid (∀ E w', (E = Ending.returned (.tuple #[]) ∧ Lies N w0 w' (sepT (crT p bs s) R)) → FineE N w0 R p bs s E w') := Lib.hid fun E w' h => ⟨fun _ => h, fun h' => absurd h0 h'⟩
      clear h0 h1 hR
      go_enter Tryz.func107, Tryz.ntmps107
      go_wp2_with fail
      refine HEn.out.mono ?_
      rintro e w1 ⟨rfl, h⟩
      have HF := Lib.hid (h.alloc (.cells #[.int .i64 0, .int .i64 0] 40))
      clear h HEn c0
      go_wp2_with fail
      go_end0
      exact HN0.out _ _ ⟨rfl, HF.out⟩
  · have hR : rEnd bs s = s.2 := by unfold rEnd; rw [if_pos h0]
    rw [hR] at HEn
    have HN0 : Hid (∀ E w', (E = Ending.panicked [{ v := wrongV s.2, recovered := false }] ∧ Lies N w0 w' (sepT (crT p bs s) R)) → FineE N w0 R p bs s E w') := Lib.hid fun E w' h => ⟨fun h' => absurd h' h0, fun _ => h⟩
    by_cases h4 : s.2.1 = 4
    · obtain ⟨at_, er, ea⟩ := s
      obtain rfl : er = 4 := h4
      simp only at HEn hR
      go_enter Tryz.func107, Tryz.ntmps107
      go_wp2_with fail
      refine HEn.out.mono ?_
      rintro e w1 ⟨rfl, h⟩
      obtain ⟨o2, c02, _, _, _, hRe, _⟩ := cr_cell ((h.newBlk 40 #[.int .i64 4, .int .i64 ea]).turn (a' := sepT (crT p bs (at_, 4, ea)) (sepT (blkT w1.heap.size 40 #[.int .i64 4, .int .i64 ea]) R)) (by ac_rfl))
      rw [if_pos h0] at hRe
      have HRe := Lib.hid hRe
      clear h hRe HEn c0 hR
      go_wp2_with fail
      refine HRe.out.mono ?_
      rintro e w2 ⟨rfl, h⟩
      have h3 := h.turn (a' := sepT (blkT w1.heap.size 40 #[.int .i64 4, .int .i64 ea]) (sepT (crT p bs (at_, 4, ea)) R)) (by ac_rfl)
      have d0 := h3.blk.1.cell 0
      have d1 := h3.blk.1.cell 1
      simp at d0 d1
      have HF := Lib.hid h3.drop
      clear h h3 HRe c02
      go_wp2_with fail
      exact ⟨rfl, HN0.out _ _ ⟨rfl, HF.out⟩⟩
    · go_enter Tryz.func107, Tryz.ntmps107
      go_wp2_with fail
      refine HEn.out.mono ?_
      rintro e w1 ⟨rfl, h⟩
      have HF := Lib.hid (h.alloc (.cells #[.int .i64 s.2.1, .int .i64 s.2.2] 40))
      clear h HEn c0 hR
      go_wp2_with fail
      exact ⟨rfl, HN0.out _ _ ⟨rfl, HF.out⟩⟩
theorem must_yes (e at_ : Int) (w : World) : Calls Tryz.prog 101 #[.bool true, .int .i64 e, .int .i64 at_] w fun E w' => E = .returned (.tuple #[]) ∧ w = w' := by
  go_enter Tryz.func101, Tryz.ntmps101
  go_wp2
  go_end0
  exact ⟨rfl, rfl⟩
theorem must_no (e at_ : Int) (w : World) : Calls Tryz.prog 101 #[.bool false, .int .i64 e, .int .i64 at_] w fun E w' => E = .panicked [{ v := wrongV (e, at_), recovered := false }] ∧ w = w' := by
  go_enter Tryz.func101, Tryz.ntmps101
  go_wp2
  exact ⟨rfl, rfl, rfl⟩
/-- What a reading method comes to: a value and the reader's next state, or a fault. -/
def RdP {α : Type} (N : Nat) (w0 : World) (R : Thing) (p : Nat) (bs : List UInt8) (tell : α → Value) (r : Except (Int × Int) (α × RS)) (e : Ending) (w' : World) : Prop :=
  match r with
  | .ok (a, s') => e = .returned (tell a) ∧ Lies N w0 w' (sepT (crT p bs s') R)
  | .error f => e = .panicked [{ v := wrongV f, recovered := false }] ∧ ∃ s', Lies N w0 w' (sepT (crT p bs s') R)
set_option maxRecDepth 100000 in
theorem rword_any (H : Lies N w0 W (sepT (crT p bs s) R)) : Calls Tryz.prog 54 #[.pointer (some ⟨p, 0, none⟩)] W (RdP N w0 R p bs (fun a => .string a) (wordR bs s)) := by
  obtain ⟨o, c0, _, _, hW, _⟩ := cr_cell H
  have HW := Lib.hid (hW 1000)
  clear H hW
  by_cases h0 : (rWord bs s 1000).2.2.1 = 0
  · have HR : Hid (wordR bs s = .ok (strB (rWord bs s 1000).1, (rWord bs s 1000).2)) := Lib.hid (if_pos h0)
    rw [HR.out]
    have H0 := Lib.hid h0
    clear h0
    generalize rWord bs s 1000 = r at *
    go_enter Tryz.func54, Tryz.ntmps54
    go_wp2_with fail
    refine HW.out.mono ?_
    rintro e w1 ⟨rfl, h⟩
    have HFn := Lib.hid (rfine_any h)
    clear h HW c0
    go_wp2_with fail
    refine HFn.out.mono ?_
    intro e w2 hr
    obtain ⟨rfl, h⟩ := hr.1 H0.out
    have HF := Lib.hid h
    clear h hr HFn
    go_wp2_with fail
    go_ret
    exact ⟨rfl, HF.out⟩
  · have HR : Hid (wordR bs s = .error (rWord bs s 1000).2.2) := Lib.hid (if_neg h0)
    rw [HR.out]
    have H0 := Lib.hid h0
    clear h0
    generalize rWord bs s 1000 = r at *
    go_enter Tryz.func54, Tryz.ntmps54
    go_wp2_with fail
    refine HW.out.mono ?_
    rintro e w1 ⟨rfl, h⟩
    have HFn := Lib.hid (rfine_any h)
    clear h HW c0
    go_wp2_with fail
    refine HFn.out.mono ?_
    intro e w2 hr
    obtain ⟨rfl, h⟩ := hr.2 H0.out
    have HF := Lib.hid h
    clear h hr HFn
    go_wp2_with fail
    exact ⟨rfl, rfl, _, HF.out⟩
theorem cr_le (H : Lies N w0 W (sepT (crT p bs s) R)) : s.1 ≤ bs.length ∧ bs.length ≤ 140737488355328 := by
  obtain ⟨o, h⟩ := cr_out H
  obtain ⟨F, ⟨v, hv, _⟩, _⟩ := h.get
  exact ⟨hv.le, hv.small⟩
def loNu (i : Nat) : Nat := [0, 0, 0, 0, 0, 0, 0, 0, 0, 1, 1].getD i 0
def upNu (i : Nat) : Nat := [1, 1, 1, 1, 0, 0, 0, 0, 1, 1, 1].getD i 0
set_option maxRecDepth 100000 in
set_option maxHeartbeats 1600000 in
theorem rnum_any (hs : s.2.1 = 0) (H : Lies N w0 W (sepT (crT p bs s) R)) : Calls Tryz.prog 100 #[.pointer (some ⟨p, 0, none⟩)] W (RdP N w0 R p bs (fun a : Nat × Nat => .tuple #[.int .i64 a.1, .int .i64 a.2]) (numR bs s)) := by
  obtain ⟨hle, hsm⟩ := cr_le H
  obtain ⟨o, c0, c1, _, _, hRe, _⟩ := cr_cell H.drew
  rw [if_neg (by simpa using hs)] at hRe
  have HRe := Lib.hid hRe
  have hw : IntKind.i64.wrap ((bs.length : Int) - ((bs.length : Int) - (s.1 : Int))) = (s.1 : Int) := by
    rw [show (bs.length : Int) - ((bs.length : Int) - (s.1 : Int)) = (s.1 : Int) by omega]; exact IntWalk.i64_in _ (by omega)
  clear H hRe hs
  obtain ⟨res, hres⟩ : ∃ res, res = numR bs s := ⟨_, rfl⟩
  rw [← hres]
  have HRes := Lib.hid hres
  clear hres
  go_enter Tryz.func100, Tryz.ntmps100
  go_wp2_with fail
  refine wp_region_text [8] loNu upNu (by kernel_rfl) (by kernel_rfl) (by kernel_rfl) (by kernel_rfl) (by kernel_rfl) ?_
  repeat (first | (refine wpTx_now (by rfl) (by rfl) (by rfl) (fun K hK => ?_); go_simp; refine hK _ ?_; clear hK K) | (refine wpTx_late [] (by rfl) (by rfl) (by rfl) (fun K hK => ?_); go_simp; refine hK _ _ ?_; clear hK K))
  refine wpTx_eff (by rfl) (fun K hK => ?_)
  go_simp
  refine HRe.out.mono ?_
  rintro e w1 ⟨rfl, h⟩
  obtain ⟨o2, d0, d1, hN, _⟩ := cr_cell h
  have HN := Lib.hid hN
  refine ⟨_, rfl, hK _ _ (by repeat (first | exact lateOK_nil | refine lateOK_skip (by rfl) ?_ | refine lateOK_cons (by go_simp) ?_)) ?_⟩
  clear hK K h hN HRe c0 c1
  repeat (refine wpTx_now (by rfl) (by rfl) (by rfl) (fun K hK => ?_); go_simp; refine hK _ ?_; clear hK K)
  refine wpTx_nil ?_
  by_cases h0 : (rNum bs s).2.2.1 = 0
  · have HR : Hid (numR bs s = .ok (((rNum bs s).1, s.1), (rNum bs s).2)) := Lib.hid (if_pos h0)
    have H0 := Lib.hid h0
    clear h0
    generalize rNum bs s = r at *
    go_wp2_with fail
    refine HN.out.mono ?_
    rintro e w2 ⟨rfl, h⟩
    have HFn := Lib.hid (rfine_any h)
    clear h HN d0 d1
    go_wp2_with fail
    refine HFn.out.mono ?_
    intro e w3 hr
    obtain ⟨rfl, h⟩ := hr.1 H0.out
    have HF := Lib.hid h
    clear h hr HFn
    go_wp2_with fail
    go_ret2
    rw [HRes.out, HR.out]
    exact ⟨rfl, HF.out⟩
  · have HR : Hid (numR bs s = .error (rNum bs s).2.2) := Lib.hid (if_neg h0)
    have H0 := Lib.hid h0
    clear h0
    generalize rNum bs s = r at *
    go_wp2_with fail
    refine HN.out.mono ?_
    rintro e w2 ⟨rfl, h⟩
    have HFn := Lib.hid (rfine_any h)
    clear h HN d0 d1
    go_wp2_with fail
    refine HFn.out.mono ?_
    intro e w3 hr
    obtain ⟨rfl, h⟩ := hr.2 H0.out
    have HF := Lib.hid h
    clear h hr HFn
    go_wp2_with fail
    refine ⟨rfl, ?_⟩
    rw [HRes.out, HR.out]
    exact ⟨rfl, _, HF.out⟩
set_option maxRecDepth 100000 in
set_option maxHeartbeats 1600000 in
theorem just_any (want : Nat) (hs : s.2.1 = 0) (H : Lies N w0 W (sepT (crT p bs s) R)) : Calls Tryz.prog 48 #[.pointer (some ⟨p, 0, none⟩), .int .i64 want] W (RdP N w0 R p bs (fun _ : Unit => .tuple #[]) (justR bs want s)) := by
  have HN := Lib.hid (rnum_any hs H)
  obtain ⟨res, hres⟩ : ∃ res, res = justR bs want s := ⟨_, rfl⟩
  rw [← hres]
  unfold justR Rdr.bind at hres
  clear H hs
  generalize numR bs s = r at *
  rcases r with f | ⟨⟨n, at_⟩, s'⟩
  · have HRes := Lib.hid hres
    clear hres
    go_enter Tryz.func48, Tryz.ntmps48
    go_wp2_with fail
    refine HN.out.mono ?_
    intro e w1 hr
    obtain ⟨rfl, k, h⟩ := hr
    have HF := Lib.hid h
    clear h HN
    go_wp2_with fail
    refine ⟨rfl, ?_⟩
    rw [HRes.out]
    exact ⟨rfl, _, HF.out⟩
  · by_cases hn : n = want
    · have HRes : Hid (res = .ok ((), s')) := Lib.hid (by rw [hres]; simp [mustR, hn])
      have hn' : ((n : Int) == (want : Int)) = true := by simp [hn]
      have hn2 : (n : Int) = (want : Int) := by omega
      clear hres hn
      go_enter Tryz.func48, Tryz.ntmps48
      go_wp2_with fail
      refine HN.out.mono ?_
      intro e w1 hr
      obtain ⟨rfl, h⟩ := hr
      have HF := Lib.hid h
      clear h HN
      go_wp2_with fail
      refine (must_yes _ _ _).mono ?_
      rintro e w2 ⟨rfl, rfl⟩
      go_wp2_with fail
      go_end0
      rw [HRes.out]
      exact ⟨rfl, HF.out⟩
    · have HRes : Hid (res = .error (5, (at_ : Int))) := Lib.hid (by rw [hres]; simp [mustR, hn])
      have hn' : ((n : Int) == (want : Int)) = false := by simp; omega
      have hn2 : ¬ (n : Int) = (want : Int) := by omega
      clear hres hn
      go_enter Tryz.func48, Tryz.ntmps48
      go_wp2_with fail
      refine HN.out.mono ?_
      intro e w1 hr
      obtain ⟨rfl, h⟩ := hr
      have HF := Lib.hid h
      clear h HN
      go_wp2_with fail
      refine (must_no _ _ _).mono ?_
      rintro e w2 ⟨rfl, rfl⟩
      go_wp2_with fail
      refine ⟨rfl, ?_⟩
      rw [HRes.out]
      exact ⟨rfl, _, HF.out⟩
theorem numR_ok {n at_ : Nat} {s' : RS} (h : numR bs s = .ok ((n, at_), s')) : Hid (n < 9223372036854775808) ∧ s'.2.1 = 0 := by
  unfold numR at h
  by_cases h0 : (rNum bs s).2.2.1 = 0
  · rw [if_pos h0] at h
    injection h with h
    injection h with h1 h2
    injection h1 with h1 _
    exact ⟨Lib.hid (h1 ▸ rNum_lt bs s), h2 ▸ h0⟩
  · rw [if_neg h0] at h; cases h
end
end Go.Proofs.YtcapdmicekialaaGreat
/- codec.reader: what its methods tell, as things; variable, operand. -/
namespace Go.Proofs.YtcapdmicekialaaGreat
open Go.RowKit
set_option linter.unusedVariables false
set_option linter.unusedSimpArgs false
attribute [local go_sem] Oper.semAt_some run_store_func run_store_nilFunc
theorem bind_ok {α β : Type} {r : Rdr α} {f : α → Rdr β} {s s' : RS} {a : α} (h : r s = .ok (a, s')) : r.bind f s = f a s' := by unfold Rdr.bind; rw [h]
theorem bind_err {α β : Type} {r : Rdr α} {f : α → Rdr β} {s : RS} {e : Int × Int} (h : r s = .error e) : r.bind f s = .error e := by unfold Rdr.bind; rw [h]
def valOf : List Value → Value
  | [v] => v
  | cs => .agg cs.toArray
/-- What a reading method comes to: data with all that lies below it, or a fault. -/
def RdT {α : Type} (N : Nat) (w0 : World) (R : Thing) (p : Nat) (bs : List UInt8) (el : List Value → α → Thing) (r : Except (Int × Int) (α × RS)) (e : Ending) (w' : World) : Prop :=
  match r with
  | .ok (a, s') => s'.2.1 = 0 ∧ ∃ cs, e = .returned (valOf cs) ∧ Lies N w0 w' (sepT (crT p bs s') (sepT (el cs a) R))
  | .error f => e = .panicked [{ v := wrongV f, recovered := false }] ∧ ∃ s', Lies N w0 w' (sepT (crT p bs s') R)
section
variable {N : Nat} {w0 W : World} {R M : Thing} {p : Nat} {bs : List UInt8} {s : RS}
theorem rWord_most (bs : List UInt8) (s : RS) (m : Nat) : (rWord bs s m).1.length ≤ m := by
  unfold rWord
  split
  · simp
  · split
    · simp
    · split
      · simp
      · split
        · simp
        · simp only [List.length_take, List.length_drop]
          omega
theorem wordR_ok {a : ByteArray} {s' : RS} (h : wordR bs s = .ok (a, s')) : sz a ∧ s'.2.1 = 0 := by
  unfold wordR at h
  by_cases h0 : (rWord bs s 1000).2.2.1 = 0
  · rw [if_pos h0] at h
    injection h with h
    injection h with h1 h2
    refine ⟨?_, h2 ▸ h0⟩
    rw [← h1]
    unfold sz
    show (rWord bs s 1000).1.toArray.size ≤ _
    have : (rWord bs s 1000).1.length ≤ 1000 := rWord_most bs s 1000
    simp only [List.size_toArray]
    omega
  · rw [if_neg h0] at h; cases h
theorem rword_t (H : Lies N w0 W (sepT (crT p bs s) R)) : Calls Tryz.prog 54 #[.pointer (some ⟨p, 0, none⟩)] W (RdT N w0 R p bs txT.el (wordR bs s)) := by
  refine (rword_any H).mono fun e w' h => ?_
  unfold RdP at h
  unfold RdT
  rcases h1 : wordR bs s with f | ⟨a, s'⟩
  · rw [h1] at h; exact h
  · rw [h1] at h
    obtain ⟨hz, h0⟩ := wordR_ok h1
    obtain ⟨he, h⟩ := h
    exact ⟨h0, [.string a], he, (h.withFact (φ := ([.string a] : List Value) = [.string a] ∧ sz a) ⟨rfl, hz⟩).turn (show sepT (txT.el [.string a] a) (sepT (crT p bs s') R) = _ by ac_rfl)⟩
set_option maxRecDepth 100000 in
theorem rvar_any (H : Lies N w0 W (sepT (crT p bs s) R)) : Calls Tryz.prog 103 #[.pointer (some ⟨p, 0, none⟩)] W (RdT N w0 R p bs vrT.el (vrR bs s)) := by
  have HC := Lib.hid (rword_any ((H.newBlk 140 #[.string ⟨#[]⟩, .string ⟨#[]⟩]).turn (a' := sepT (crT p bs s) (sepT (blkT W.heap.size 140 #[.string ⟨#[]⟩, .string ⟨#[]⟩]) R)) (by ac_rfl)))
  clear H
  go_enter Tryz.func103, Tryz.ntmps103
  go_wp2_with fail
  refine HC.out.mono ?_
  intro e w1 hr
  clear HC
  unfold RdP at hr
  rcases h1 : wordR bs s with f | ⟨a1, s1⟩ <;> rw [h1] at hr
  · obtain ⟨rfl, k, h⟩ := hr
    have HE : Hid (vrR bs s = .error f) := Lib.hid (by unfold vrR; rw [bind_err h1])
    have HF := Lib.hid (h.turn (a' := sepT (blkT W.heap.size 140 #[.string ⟨#[]⟩, .string ⟨#[]⟩]) (sepT (crT p bs k) R)) (by ac_rfl)).drop
    clear h h1
    go_wp2_with fail
    refine ⟨rfl, ?_⟩
    rw [HE.out]
    exact ⟨rfl, _, HF.out⟩
  · obtain ⟨rfl, h⟩ := hr
    have H1 := Lib.hid h1
    have HC := Lib.hid (rword_any h)
    clear h h1
    go_wp2_with fail
    refine HC.out.mono ?_
    intro e w2 hr
    clear HC
    unfold RdP at hr
    rcases h2 : wordR bs s1 with f | ⟨a2, s2⟩ <;> rw [h2] at hr
    · obtain ⟨rfl, k, h⟩ := hr
      have HE : Hid (vrR bs s = .error f) := Lib.hid (by unfold vrR; rw [bind_ok H1.out, bind_err h2])
      have HF := Lib.hid (h.turn (a' := sepT (blkT W.heap.size 140 #[.string ⟨#[]⟩, .string ⟨#[]⟩]) (sepT (crT p bs k) R)) (by ac_rfl)).drop
      clear h h2
      go_wp2_with fail
      refine ⟨rfl, ?_⟩
      rw [HE.out]
      exact ⟨rfl, _, HF.out⟩
    · obtain ⟨rfl, h⟩ := hr
      have HE : Hid (vrR bs s = .ok ((a1, a2), s2)) := Lib.hid (by unfold vrR; rw [bind_ok H1.out, bind_ok h2]; rfl)
      have HZ := Lib.hid (And.intro (wordR_ok H1.out).1 (And.intro (wordR_ok h2).1 (wordR_ok h2).2))
      have h3 := (h.turn (a' := sepT (blkT W.heap.size 140 #[.string ⟨#[]⟩, .string ⟨#[]⟩]) (sepT (crT p bs s2) R)) (by ac_rfl))
      have hb := h3.blk.1
      have f0 := hb.frozen 0
      have f1 := hb.frozen 1
      have e0 := hb.cell 0
      have e1 := hb.cell 1
      simp at e0 e1
      have HF := Lib.hid ((h3.setBlk 0 (.string a1)).setBlk 1 (.string a2))
      clear h h2 h3 hb
      go_wp2_with fail
      refine bodyPost_ret (results_cell_row rfl _ _ W.heap.size 140 #[.string a1, .string a2] (0, 0) _ rfl HF.out.blk.1 Tryz.underlying140 rfl (by kernel_rfl)) rfl ?_
      rw [HE.out]
      exact ⟨HZ.out.2.2, [.string a1, .string a2], rfl, (HF.out.drop.withFact (φ := ([.string a1, .string a2] : List Value) = [.string a1, .string a2] ∧ sz a1 ∧ sz a2) ⟨rfl, HZ.out.1, HZ.out.2.1⟩).turn (show sepT (vrT.el [.string a1, .string a2] (a1, a2)) (sepT (crT p bs s2) R) = _ by ac_rfl)⟩
end
end Go.Proofs.YtcapdmicekialaaGreat
/- Merged by merge.py: CoList, CoRdIn, CoRd3. -/
/- codec.list at seven types. Printed by gen_list.py. -/
namespace Go.Proofs.YtcapdmicekialaaGreat
open Go.RowKit
set_option linter.unusedVariables false
set_option linter.unusedSimpArgs false
attribute [local go_sem] Oper.semAt_some run_store_func run_store_nilFunc
/-- What a list comes to. -/
def RdS {α : Type} {K : Kind α} (T : TK K) (t : TypeId) (N : Nat) (w0 : World) (R : Thing) (p : Nat) (bs : List UInt8) (r : Except (Int × Int) (List α × RS)) (e : Ending) (w' : World) : Prop :=
  match r with
  | .ok (l, s') => s'.2.1 = 0 ∧ ∃ A c, e = .returned (.slice A l.length c) ∧ Lies N w0 w' (sepT (crT p bs s') (sepT (T.slT t (.slice A l.length c) l) R))
  | .error f => e = .panicked [{ v := wrongV f, recovered := false }] ∧ ∃ s', Lies N w0 w' (sepT (crT p bs s') R)
theorem times_succ {α : Type} (one : Rdr α) (n i : Nat) (h : i < n) (acc : List α) (s : RS) : timesR one (n - i) acc s = (one.bind fun a => timesR one (n - (i + 1)) (acc ++ [a])) s := by
  rw [show n - i = (n - (i + 1)) + 1 by omega]; rfl
theorem cells_arr (w : World) (cs : Array Value) (t : TypeId) : ∀ j u, cs.toList[j]? = some u → (w.alloc (.cells cs t)).cell? ((⟨w.heap.size, 0, none⟩ : Addr).add j) = some u := by
  intro j u hj
  rw [show (⟨w.heap.size, 0, none⟩ : Addr).add j = ⟨w.heap.size, j, none⟩ from by unfold Addr.add; split <;> simp_all]
  rw [(Blk.new w t cs).cell j]
  simpa using hj
theorem gro_form {W : World} {base e size n : Nat} {v : Value} {xs : List Value} (h : W.ownsRow base e size v n xs) : ∃ A c, v = .slice A n c ∧ True := by
  rcases h.2 with ⟨rfl, hn⟩ | ⟨g, cap, cur, rfl, _⟩
  · rw [hn]; exact ⟨none, 0, rfl, trivial⟩
  · exact ⟨_, cap, rfl, trivial⟩
section
variable {N : Nat} {w0 W : World} {R M : Thing} {p : Nat} {bs : List UInt8} {s : RS}
theorem info_lVr : (Tryz.prog.info? 140).map (fun i => (i.zero, i.size, i.bytes)) = some (some (.agg #[.string ⟨#[]⟩, .string ⟨#[]⟩]), 2, 32) := by kernel_rfl
set_option maxRecDepth 100000 in
set_option maxHeartbeats 1600000 in
theorem listVr_any (fn : FuncId) (one : Rdr Vr) (most : Nat) (hm : most ≤ 100000) (he : ∀ args (w : World), (callFunc fn args).run Tryz.prog w = .ok (.enter fn args) w)
    (hone : ∀ W' s' R', s'.2.1 = 0 → Lies N w0 W' (sepT (crT p bs s') R') → Calls Tryz.prog fn #[.pointer (some ⟨p, 0, none⟩)] W' (RdT N w0 R' p bs vrT.el (one s')))
    (hs : s.2.1 = 0) (H : Lies N w0 W (sepT (crT p bs s) R)) :
    Calls Tryz.prog 102 #[.pointer (some ⟨p, 0, none⟩), .int .i64 most, .func (.func fn) #[.pointer (some ⟨p, 0, none⟩)] #[]] W (RdS vrT 140 N w0 R p bs (listR bs most one s)) := by
  obtain ⟨res, hres⟩ : ∃ r, r = listR bs most one s := ⟨_, rfl⟩
  rw [← hres]
  have HC := Lib.hid (rnum_any hs H)
  have HO := Lib.hid hone
  have HRes := Lib.hid hres
  clear H hone hres hs
  go_enter Tryz.func102, Tryz.ntmps102
  go_wp2_with fail
  refine HC.out.mono ?_
  intro e w1 hr
  clear HC
  unfold RdP at hr
  rcases h1 : numR bs s with f | ⟨⟨n, at_⟩, s1⟩ <;> rw [h1] at hr
  · obtain ⟨rfl, k, h⟩ := hr
    have HE : Hid (res = .error f) := Lib.hid (by rw [HRes.out]; unfold listR; rw [bind_err h1])
    have HF := Lib.hid h
    clear h h1
    go_wp2_with fail
    refine ⟨rfl, ?_⟩
    rw [HE.out]
    exact ⟨rfl, _, HF.out⟩
  · obtain ⟨rfl, h⟩ := hr
    have HZ1 := Lib.hid (numR_ok h1).2
    have HF := Lib.hid h
    by_cases hnm : n ≤ most
    · have HE : Hid (res = timesR one n [] s1) := Lib.hid (by rw [HRes.out]; unfold listR; rw [bind_ok h1]; show Rdr.bind (mustR (decide (n ≤ most)) 12 _) _ _ = _; rw [decide_eq_true hnm]; rfl)
      have hnm' : (n : Int) ≤ (most : Int) := by omega
      have hdec : decide ((n : Int) ≤ (most : Int)) = true := by simpa using hnm
      have hn : n ≤ 100000 := Nat.le_trans hnm hm
      clear h h1 HRes
      go_wp2_with fail
      refine (must_yes _ _ _).mono ?_
      rintro e w2 ⟨rfl, rfl⟩
      have HG := Lib.hid (vrT.gro_nil 140 HF.out)
      clear HF hdec hnm'
      go_wp2_with fail
      go_loopw [6, 20] (fun out ix wr => ∃ (i : Nat) (A : Option Addr) (c : Nat) (css : List (List Value)) (acc : List Vr) (si : RS), out = .slice A i c ∧ ix = .int .i64 i ∧ i ≤ n ∧ acc.length = i ∧ si.2.1 = 0 ∧ timesR one (n - i) acc si = res ∧ Lies N w0 wr (sepT (crT p bs si) (sepT (vrT.gro 140 (.slice A i c) css acc) R))) (fun _ ix _ => n - (intOf ix).toNat)
      case atStart => exact ⟨0, none, 0, [], [], s1, rfl, rfl, Nat.zero_le _, rfl, HZ1.out, HE.out.symm, HG.out.turn (by ac_rfl)⟩
      case round =>
        clear HG HE
        obtain ⟨i, A, c, css, acc, si, rfl, rfl, hi, hacc, hsi, ht, hh⟩ := hrel
        by_cases hlt : i < n
        · have hlt' : (i : Int) < (n : Int) := by omega
          rw [times_succ one n i hlt] at ht
          have HT := Lib.hid ht
          have HC := Lib.hid (HO.out _ si _ hsi hh)
          have HA := Lib.hid hacc
          clear hh ht hacc hsi HZ1
          go_wp2_with fail
          refine HC.out.mono ?_
          intro e w2 hr
          clear HC
          unfold RdT at hr
          rcases h2 : one si with f | ⟨x, s2⟩ <;> rw [h2] at hr
          · obtain ⟨rfl, k, h⟩ := hr
            have HE : Hid (res = .error f) := Lib.hid (by rw [← HT.out, bind_err h2])
            have HF := Lib.hid (h.turn (a' := sepT (vrT.gro 140 (.slice A i c) css acc) (sepT (crT p bs k) R)) (by ac_rfl)).drop
            clear h h2
            go_wp2_with fail
            refine ⟨rfl, ?_⟩
            rw [HE.out]
            exact ⟨rfl, _, HF.out⟩
          · obtain ⟨hs2, cs, hE, h⟩ := hr
            have HE : Hid (timesR one (n - (i + 1)) (acc ++ [x]) s2 = res) := Lib.hid (by rw [← HT.out, bind_ok h2])
            have HS2 := Lib.hid hs2
            have HF := Lib.hid (h.turn (a' := sepT (vrT.gro 140 (.slice A i c) css acc) (sepT (vrT.el cs x) (sepT (crT p bs s2) R))) (by ac_rfl))
            obtain ⟨⟨rfl, _⟩, _⟩ := Lies.fact (φ := cs = [.string x.1, .string x.2] ∧ sz x.1 ∧ sz x.2) (h.turn (a' := sepT (vrT.el cs x) (sepT (crT p bs s2) (sepT (vrT.gro 140 (.slice A i c) css acc) R))) (by ac_rfl))
            have hE' : e = .returned (.agg #[.string x.1, .string x.2]) := hE
            subst hE'
            clear h h2 hs2 hE
            have hrow := vrT.gro_row HF.out
            rw [HA.out] at hrow
            have HR := Lib.hid hrow
            obtain ⟨i0, hi0, hz0, hz1, hz2⟩ := info_parts info_lVr
            clear hrow
            go_wp2_with (at_builtin; refine wpList_append_own_at _ rfl (.tmp 22) (.tmp 25) 63 rfl 0 140 i0 (.agg #[.string ⟨#[]⟩, .string ⟨#[]⟩]) 2 32 Tryz.underlying63 hi0 hz0 hz1 hz2 rfl (by decide) (.slice A i c) i _ rfl (HR.out.alloc _) ⟨w2.heap.size, 0, none⟩ 1 1 [.string x.1, .string x.2] rfl rfl (cells_arr _ #[.string x.1, .string x.2] _) (by simp [Value.oneCell']) (by simp only [maxLen]; omega) (by omega) (Nat.zero_le _) ?_; intro v' w4 hown' hgrow _ hat; obtain ⟨B', d', rfl, _⟩ := gro_form hown')
            refine ⟨⟨i + 1, B', d', css ++ [[.string x.1, .string x.2]], acc ++ [x], s2, rfl, by go_num, by omega, by rw [List.length_append, HA.out]; rfl, HS2.out, HE.out, (vrT.gro_app (HF.out.alloc _) (by rw [HA.out]; exact hown') hgrow hat).turn (by ac_rfl)⟩, by simp [intOf]; omega⟩
        · have hlt' : ¬ (i : Int) < (n : Int) := by omega
          obtain rfl : i = n := by omega
          rw [Nat.sub_self] at ht
          have HE : Hid (res = .ok (acc, si)) := Lib.hid ht.symm
          have HF := Lib.hid (vrT.gro_sl (by omega) (hh.turn (a' := sepT (vrT.gro 140 (.slice A i c) css acc) (sepT (crT p bs si) R)) (by ac_rfl)))
          have HS := Lib.hid hsi
          clear hh ht hsi HZ1
          have HA := Lib.hid hacc
          clear hacc
          go_wp2_with fail
          go_ret
          rw [HE.out]
          refine ⟨HS.out, A, c, by rw [HA.out]; rfl, ?_⟩
          rw [HA.out]
          exact HF.out.turn (by ac_rfl)
    · have HE : Hid (res = .error (12, (at_ : Int))) := Lib.hid (by rw [HRes.out]; unfold listR; rw [bind_ok h1]; show Rdr.bind (mustR (decide (n ≤ most)) 12 _) _ _ = _; rw [decide_eq_false hnm]; rfl)
      have hnm' : ¬ (n : Int) ≤ (most : Int) := by omega
      have hdec : decide ((n : Int) ≤ (most : Int)) = false := by simpa using hnm
      clear h h1 HRes
      go_wp2_with fail
      refine (must_no _ _ _).mono ?_
      rintro e w2 ⟨rfl, rfl⟩
      go_wp2_with fail
      refine ⟨rfl, ?_⟩
      rw [HE.out]
      exact ⟨rfl, _, HF.out⟩
theorem sg_form {cs : List Value} {x : Sg} (H : Lies N w0 W (sepT (sgT.el cs x) R)) : ∃ A c, cs = [.string x.name, .slice A x.params.length c, .string x.result] := by
  obtain ⟨ps, H⟩ := H.ex
  rw [sepT_assoc] at H
  obtain ⟨⟨rfl, _⟩, H2⟩ := H.fact
  obtain ⟨A, c, rfl, _⟩ := vrT.sl_form H2
  exact ⟨A, c, rfl⟩
theorem info_lSg : (Tryz.prog.info? 120).map (fun i => (i.zero, i.size, i.bytes)) = some (some (.agg #[.string ⟨#[]⟩, .slice none 0 0, .string ⟨#[]⟩]), 3, 56) := by kernel_rfl
set_option maxRecDepth 100000 in
set_option maxHeartbeats 1600000 in
theorem listSg_any (fn : FuncId) (one : Rdr Sg) (most : Nat) (hm : most ≤ 100000) (he : ∀ args (w : World), (callFunc fn args).run Tryz.prog w = .ok (.enter fn args) w)
    (hone : ∀ W' s' R', s'.2.1 = 0 → Lies N w0 W' (sepT (crT p bs s') R') → Calls Tryz.prog fn #[.pointer (some ⟨p, 0, none⟩)] W' (RdT N w0 R' p bs sgT.el (one s')))
    (hs : s.2.1 = 0) (H : Lies N w0 W (sepT (crT p bs s) R)) :
    Calls Tryz.prog 104 #[.pointer (some ⟨p, 0, none⟩), .int .i64 most, .func (.func fn) #[.pointer (some ⟨p, 0, none⟩)] #[]] W (RdS sgT 120 N w0 R p bs (listR bs most one s)) := by
  obtain ⟨res, hres⟩ : ∃ r, r = listR bs most one s := ⟨_, rfl⟩
  rw [← hres]
  have HC := Lib.hid (rnum_any hs H)
  have HO := Lib.hid hone
  have HRes := Lib.hid hres
  clear H hone hres hs
  go_enter Tryz.func104, Tryz.ntmps104
  go_wp2_with fail
  refine HC.out.mono ?_
  intro e w1 hr
  clear HC
  unfold RdP at hr
  rcases h1 : numR bs s with f | ⟨⟨n, at_⟩, s1⟩ <;> rw [h1] at hr
  · obtain ⟨rfl, k, h⟩ := hr
    have HE : Hid (res = .error f) := Lib.hid (by rw [HRes.out]; unfold listR; rw [bind_err h1])
    have HF := Lib.hid h
    clear h h1
    go_wp2_with fail
    refine ⟨rfl, ?_⟩
    rw [HE.out]
    exact ⟨rfl, _, HF.out⟩
  · obtain ⟨rfl, h⟩ := hr
    have HZ1 := Lib.hid (numR_ok h1).2
    have HF := Lib.hid h
    by_cases hnm : n ≤ most
    · have HE : Hid (res = timesR one n [] s1) := Lib.hid (by rw [HRes.out]; unfold listR; rw [bind_ok h1]; show Rdr.bind (mustR (decide (n ≤ most)) 12 _) _ _ = _; rw [decide_eq_true hnm]; rfl)
      have hnm' : (n : Int) ≤ (most : Int) := by omega
      have hdec : decide ((n : Int) ≤ (most : Int)) = true := by simpa using hnm
      have hn : n ≤ 100000 := Nat.le_trans hnm hm
      clear h h1 HRes
      go_wp2_with fail
      refine (must_yes _ _ _).mono ?_
      rintro e w2 ⟨rfl, rfl⟩
      have HG := Lib.hid (sgT.gro_nil 120 HF.out)
      clear HF hdec hnm'
      go_wp2_with fail
      go_loopw [6, 20] (fun out ix wr => ∃ (i : Nat) (A : Option Addr) (c : Nat) (css : List (List Value)) (acc : List Sg) (si : RS), out = .slice A i c ∧ ix = .int .i64 i ∧ i ≤ n ∧ acc.length = i ∧ si.2.1 = 0 ∧ timesR one (n - i) acc si = res ∧ Lies N w0 wr (sepT (crT p bs si) (sepT (sgT.gro 120 (.slice A i c) css acc) R))) (fun _ ix _ => n - (intOf ix).toNat)
      case atStart => exact ⟨0, none, 0, [], [], s1, rfl, rfl, Nat.zero_le _, rfl, HZ1.out, HE.out.symm, HG.out.turn (by ac_rfl)⟩
      case round =>
        clear HG HE
        obtain ⟨i, A, c, css, acc, si, rfl, rfl, hi, hacc, hsi, ht, hh⟩ := hrel
        by_cases hlt : i < n
        · have hlt' : (i : Int) < (n : Int) := by omega
          rw [times_succ one n i hlt] at ht
          have HT := Lib.hid ht
          have HC := Lib.hid (HO.out _ si _ hsi hh)
          have HA := Lib.hid hacc
          clear hh ht hacc hsi HZ1
          go_wp2_with fail
          refine HC.out.mono ?_
          intro e w2 hr
          clear HC
          unfold RdT at hr
          rcases h2 : one si with f | ⟨x, s2⟩ <;> rw [h2] at hr
          · obtain ⟨rfl, k, h⟩ := hr
            have HE : Hid (res = .error f) := Lib.hid (by rw [← HT.out, bind_err h2])
            have HF := Lib.hid (h.turn (a' := sepT (sgT.gro 120 (.slice A i c) css acc) (sepT (crT p bs k) R)) (by ac_rfl)).drop
            clear h h2
            go_wp2_with fail
            refine ⟨rfl, ?_⟩
            rw [HE.out]
            exact ⟨rfl, _, HF.out⟩
          · obtain ⟨hs2, cs, hE, h⟩ := hr
            have HE : Hid (timesR one (n - (i + 1)) (acc ++ [x]) s2 = res) := Lib.hid (by rw [← HT.out, bind_ok h2])
            have HS2 := Lib.hid hs2
            have HF := Lib.hid (h.turn (a' := sepT (sgT.gro 120 (.slice A i c) css acc) (sepT (sgT.el cs x) (sepT (crT p bs s2) R))) (by ac_rfl))
            obtain ⟨A2, c2, rfl⟩ := sg_form (h.turn (a' := sepT (sgT.el cs x) (sepT (crT p bs s2) (sepT (sgT.gro 120 (.slice A i c) css acc) R))) (by ac_rfl))
            have hE' : e = .returned (.agg #[.string x.name, .slice A2 x.params.length c2, .string x.result]) := hE
            subst hE'
            clear h h2 hs2 hE
            have hrow := sgT.gro_row HF.out
            rw [HA.out] at hrow
            have HR := Lib.hid hrow
            obtain ⟨i0, hi0, hz0, hz1, hz2⟩ := info_parts info_lSg
            clear hrow
            go_wp2_with (at_builtin; refine wpList_append_own_at _ rfl (.tmp 22) (.tmp 25) 64 rfl 0 120 i0 (.agg #[.string ⟨#[]⟩, .slice none 0 0, .string ⟨#[]⟩]) 3 56 Tryz.underlying64 hi0 hz0 hz1 hz2 rfl (by decide) (.slice A i c) i _ rfl (HR.out.alloc _) ⟨w2.heap.size, 0, none⟩ 1 1 [.string x.name, .slice A2 x.params.length c2, .string x.result] rfl rfl (cells_arr _ #[.string x.name, .slice A2 x.params.length c2, .string x.result] _) (by simp [Value.oneCell']) (by simp only [maxLen]; omega) (by omega) (Nat.zero_le _) ?_; intro v' w4 hown' hgrow _ hat; obtain ⟨B', d', rfl, _⟩ := gro_form hown')
            refine ⟨⟨i + 1, B', d', css ++ [[.string x.name, .slice A2 x.params.length c2, .string x.result]], acc ++ [x], s2, rfl, by go_num, by omega, by rw [List.length_append, HA.out]; rfl, HS2.out, HE.out, (sgT.gro_app (HF.out.alloc _) (by rw [HA.out]; exact hown') hgrow hat).turn (by ac_rfl)⟩, by simp [intOf]; omega⟩
        · have hlt' : ¬ (i : Int) < (n : Int) := by omega
          obtain rfl : i = n := by omega
          rw [Nat.sub_self] at ht
          have HE : Hid (res = .ok (acc, si)) := Lib.hid ht.symm
          have HF := Lib.hid (sgT.gro_sl (by omega) (hh.turn (a' := sepT (sgT.gro 120 (.slice A i c) css acc) (sepT (crT p bs si) R)) (by ac_rfl)))
          have HS := Lib.hid hsi
          clear hh ht hsi HZ1
          have HA := Lib.hid hacc
          clear hacc
          go_wp2_with fail
          go_ret
          rw [HE.out]
          refine ⟨HS.out, A, c, by rw [HA.out]; rfl, ?_⟩
          rw [HA.out]
          exact HF.out.turn (by ac_rfl)
    · have HE : Hid (res = .error (12, (at_ : Int))) := Lib.hid (by rw [HRes.out]; unfold listR; rw [bind_ok h1]; show Rdr.bind (mustR (decide (n ≤ most)) 12 _) _ _ = _; rw [decide_eq_false hnm]; rfl)
      have hnm' : ¬ (n : Int) ≤ (most : Int) := by omega
      have hdec : decide ((n : Int) ≤ (most : Int)) = false := by simpa using hnm
      clear h h1 HRes
      go_wp2_with fail
      refine (must_no _ _ _).mono ?_
      rintro e w2 ⟨rfl, rfl⟩
      go_wp2_with fail
      refine ⟨rfl, ?_⟩
      rw [HE.out]
      exact ⟨rfl, _, HF.out⟩
theorem cl_form {cs : List Value} {x : Cl} (H : Lies N w0 W (sepT (clT.el cs x) R)) : ∃ A c B d, cs = [.string x.name, .string x.super, .slice A x.fields.length c, .slice B x.methods.length d] := by
  obtain ⟨⟨p, q⟩, H⟩ := H.ex
  rw [sepT_assoc] at H
  obtain ⟨⟨rfl, _⟩, H2⟩ := H.fact
  rw [sepT_assoc] at H2
  obtain ⟨A, c, h1, _⟩ := vrT.sl_form H2
  obtain ⟨B, d, h2, _⟩ := sgT.sl_form H2.drop
  simp only at h1 h2
  subst h1 h2
  exact ⟨A, c, B, d, rfl⟩
theorem info_lCl : (Tryz.prog.info? 66).map (fun i => (i.zero, i.size, i.bytes)) = some (some (.agg #[.string ⟨#[]⟩, .string ⟨#[]⟩, .slice none 0 0, .slice none 0 0]), 4, 80) := by kernel_rfl
set_option maxRecDepth 100000 in
set_option maxHeartbeats 1600000 in
theorem listCl_any (fn : FuncId) (one : Rdr Cl) (most : Nat) (hm : most ≤ 100000) (he : ∀ args (w : World), (callFunc fn args).run Tryz.prog w = .ok (.enter fn args) w)
    (hone : ∀ W' s' R', s'.2.1 = 0 → Lies N w0 W' (sepT (crT p bs s') R') → Calls Tryz.prog fn #[.pointer (some ⟨p, 0, none⟩)] W' (RdT N w0 R' p bs clT.el (one s')))
    (hs : s.2.1 = 0) (H : Lies N w0 W (sepT (crT p bs s) R)) :
    Calls Tryz.prog 49 #[.pointer (some ⟨p, 0, none⟩), .int .i64 most, .func (.func fn) #[.pointer (some ⟨p, 0, none⟩)] #[]] W (RdS clT 66 N w0 R p bs (listR bs most one s)) := by
  obtain ⟨res, hres⟩ : ∃ r, r = listR bs most one s := ⟨_, rfl⟩
  rw [← hres]
  have HC := Lib.hid (rnum_any hs H)
  have HO := Lib.hid hone
  have HRes := Lib.hid hres
  clear H hone hres hs
  go_enter Tryz.func49, Tryz.ntmps49
  go_wp2_with fail
  refine HC.out.mono ?_
  intro e w1 hr
  clear HC
  unfold RdP at hr
  rcases h1 : numR bs s with f | ⟨⟨n, at_⟩, s1⟩ <;> rw [h1] at hr
  · obtain ⟨rfl, k, h⟩ := hr
    have HE : Hid (res = .error f) := Lib.hid (by rw [HRes.out]; unfold listR; rw [bind_err h1])
    have HF := Lib.hid h
    clear h h1
    go_wp2_with fail
    refine ⟨rfl, ?_⟩
    rw [HE.out]
    exact ⟨rfl, _, HF.out⟩
  · obtain ⟨rfl, h⟩ := hr
    have HZ1 := Lib.hid (numR_ok h1).2
    have HF := Lib.hid h
    by_cases hnm : n ≤ most
    · have HE : Hid (res = timesR one n [] s1) := Lib.hid (by rw [HRes.out]; unfold listR; rw [bind_ok h1]; show Rdr.bind (mustR (decide (n ≤ most)) 12 _) _ _ = _; rw [decide_eq_true hnm]; rfl)
      have hnm' : (n : Int) ≤ (most : Int) := by omega
      have hdec : decide ((n : Int) ≤ (most : Int)) = true := by simpa using hnm
      have hn : n ≤ 100000 := Nat.le_trans hnm hm
      clear h h1 HRes
      go_wp2_with fail
      refine (must_yes _ _ _).mono ?_
      rintro e w2 ⟨rfl, rfl⟩
      have HG := Lib.hid (clT.gro_nil 66 HF.out)
      clear HF hdec hnm'
      go_wp2_with fail
      go_loopw [6, 20] (fun out ix wr => ∃ (i : Nat) (A : Option Addr) (c : Nat) (css : List (List Value)) (acc : List Cl) (si : RS), out = .slice A i c ∧ ix = .int .i64 i ∧ i ≤ n ∧ acc.length = i ∧ si.2.1 = 0 ∧ timesR one (n - i) acc si = res ∧ Lies N w0 wr (sepT (crT p bs si) (sepT (clT.gro 66 (.slice A i c) css acc) R))) (fun _ ix _ => n - (intOf ix).toNat)
      case atStart => exact ⟨0, none, 0, [], [], s1, rfl, rfl, Nat.zero_le _, rfl, HZ1.out, HE.out.symm, HG.out.turn (by ac_rfl)⟩
      case round =>
        clear HG HE
        obtain ⟨i, A, c, css, acc, si, rfl, rfl, hi, hacc, hsi, ht, hh⟩ := hrel
        by_cases hlt : i < n
        · have hlt' : (i : Int) < (n : Int) := by omega
          rw [times_succ one n i hlt] at ht
          have HT := Lib.hid ht
          have HC := Lib.hid (HO.out _ si _ hsi hh)
          have HA := Lib.hid hacc
          clear hh ht hacc hsi HZ1
          go_wp2_with fail
          refine HC.out.mono ?_
          intro e w2 hr
          clear HC
          unfold RdT at hr
          rcases h2 : one si with f | ⟨x, s2⟩ <;> rw [h2] at hr
          · obtain ⟨rfl, k, h⟩ := hr
            have HE : Hid (res = .error f) := Lib.hid (by rw [← HT.out, bind_err h2])
            have HF := Lib.hid (h.turn (a' := sepT (clT.gro 66 (.slice A i c) css acc) (sepT (crT p bs k) R)) (by ac_rfl)).drop
            clear h h2
            go_wp2_with fail
            refine ⟨rfl, ?_⟩
            rw [HE.out]
            exact ⟨rfl, _, HF.out⟩
          · obtain ⟨hs2, cs, hE, h⟩ := hr
            have HE : Hid (timesR one (n - (i + 1)) (acc ++ [x]) s2 = res) := Lib.hid (by rw [← HT.out, bind_ok h2])
            have HS2 := Lib.hid hs2
            have HF := Lib.hid (h.turn (a' := sepT (clT.gro 66 (.slice A i c) css acc) (sepT (clT.el cs x) (sepT (crT p bs s2) R))) (by ac_rfl))
            obtain ⟨A2, c2, A3, c3, rfl⟩ := cl_form (h.turn (a' := sepT (clT.el cs x) (sepT (crT p bs s2) (sepT (clT.gro 66 (.slice A i c) css acc) R))) (by ac_rfl))
            have hE' : e = .returned (.agg #[.string x.name, .string x.super, .slice A2 x.fields.length c2, .slice A3 x.methods.length c3]) := hE
            subst hE'
            clear h h2 hs2 hE
            have hrow := clT.gro_row HF.out
            rw [HA.out] at hrow
            have HR := Lib.hid hrow
            obtain ⟨i0, hi0, hz0, hz1, hz2⟩ := info_parts info_lCl
            clear hrow
            go_wp2_with (at_builtin; refine wpList_append_own_at _ rfl (.tmp 22) (.tmp 25) 22 rfl 0 66 i0 (.agg #[.string ⟨#[]⟩, .string ⟨#[]⟩, .slice none 0 0, .slice none 0 0]) 4 80 Tryz.underlying22 hi0 hz0 hz1 hz2 rfl (by decide) (.slice A i c) i _ rfl (HR.out.alloc _) ⟨w2.heap.size, 0, none⟩ 1 1 [.string x.name, .string x.super, .slice A2 x.fields.length c2, .slice A3 x.methods.length c3] rfl rfl (cells_arr _ #[.string x.name, .string x.super, .slice A2 x.fields.length c2, .slice A3 x.methods.length c3] _) (by simp [Value.oneCell']) (by simp only [maxLen]; omega) (by omega) (Nat.zero_le _) ?_; intro v' w4 hown' hgrow _ hat; obtain ⟨B', d', rfl, _⟩ := gro_form hown')
            refine ⟨⟨i + 1, B', d', css ++ [[.string x.name, .string x.super, .slice A2 x.fields.length c2, .slice A3 x.methods.length c3]], acc ++ [x], s2, rfl, by go_num, by omega, by rw [List.length_append, HA.out]; rfl, HS2.out, HE.out, (clT.gro_app (HF.out.alloc _) (by rw [HA.out]; exact hown') hgrow hat).turn (by ac_rfl)⟩, by simp [intOf]; omega⟩
        · have hlt' : ¬ (i : Int) < (n : Int) := by omega
          obtain rfl : i = n := by omega
          rw [Nat.sub_self] at ht
          have HE : Hid (res = .ok (acc, si)) := Lib.hid ht.symm
          have HF := Lib.hid (clT.gro_sl (by omega) (hh.turn (a' := sepT (clT.gro 66 (.slice A i c) css acc) (sepT (crT p bs si) R)) (by ac_rfl)))
          have HS := Lib.hid hsi
          clear hh ht hsi HZ1
          have HA := Lib.hid hacc
          clear hacc
          go_wp2_with fail
          go_ret
          rw [HE.out]
          refine ⟨HS.out, A, c, by rw [HA.out]; rfl, ?_⟩
          rw [HA.out]
          exact HF.out.turn (by ac_rfl)
    · have HE : Hid (res = .error (12, (at_ : Int))) := Lib.hid (by rw [HRes.out]; unfold listR; rw [bind_ok h1]; show Rdr.bind (mustR (decide (n ≤ most)) 12 _) _ _ = _; rw [decide_eq_false hnm]; rfl)
      have hnm' : ¬ (n : Int) ≤ (most : Int) := by omega
      have hdec : decide ((n : Int) ≤ (most : Int)) = false := by simpa using hnm
      clear h h1 HRes
      go_wp2_with fail
      refine (must_no _ _ _).mono ?_
      rintro e w2 ⟨rfl, rfl⟩
      go_wp2_with fail
      refine ⟨rfl, ?_⟩
      rw [HE.out]
      exact ⟨rfl, _, HF.out⟩
theorem info_lSt : (Tryz.prog.info? 70).map (fun i => (i.zero, i.size, i.bytes)) = some (some (.agg #[.int .i64 0, .string ⟨#[]⟩, .string ⟨#[]⟩]), 3, 40) := by kernel_rfl
set_option maxRecDepth 100000 in
set_option maxHeartbeats 1600000 in
theorem listSt_any (fn : FuncId) (one : Rdr St) (most : Nat) (hm : most ≤ 100000) (he : ∀ args (w : World), (callFunc fn args).run Tryz.prog w = .ok (.enter fn args) w)
    (hone : ∀ W' s' R', s'.2.1 = 0 → Lies N w0 W' (sepT (crT p bs s') R') → Calls Tryz.prog fn #[.pointer (some ⟨p, 0, none⟩)] W' (RdT N w0 R' p bs stT.el (one s')))
    (hs : s.2.1 = 0) (H : Lies N w0 W (sepT (crT p bs s) R)) :
    Calls Tryz.prog 51 #[.pointer (some ⟨p, 0, none⟩), .int .i64 most, .func (.func fn) #[.pointer (some ⟨p, 0, none⟩)] #[]] W (RdS stT 70 N w0 R p bs (listR bs most one s)) := by
  obtain ⟨res, hres⟩ : ∃ r, r = listR bs most one s := ⟨_, rfl⟩
  rw [← hres]
  have HC := Lib.hid (rnum_any hs H)
  have HO := Lib.hid hone
  have HRes := Lib.hid hres
  clear H hone hres hs
  go_enter Tryz.func51, Tryz.ntmps51
  go_wp2_with fail
  refine HC.out.mono ?_
  intro e w1 hr
  clear HC
  unfold RdP at hr
  rcases h1 : numR bs s with f | ⟨⟨n, at_⟩, s1⟩ <;> rw [h1] at hr
  · obtain ⟨rfl, k, h⟩ := hr
    have HE : Hid (res = .error f) := Lib.hid (by rw [HRes.out]; unfold listR; rw [bind_err h1])
    have HF := Lib.hid h
    clear h h1
    go_wp2_with fail
    refine ⟨rfl, ?_⟩
    rw [HE.out]
    exact ⟨rfl, _, HF.out⟩
  · obtain ⟨rfl, h⟩ := hr
    have HZ1 := Lib.hid (numR_ok h1).2
    have HF := Lib.hid h
    by_cases hnm : n ≤ most
    · have HE : Hid (res = timesR one n [] s1) := Lib.hid (by rw [HRes.out]; unfold listR; rw [bind_ok h1]; show Rdr.bind (mustR (decide (n ≤ most)) 12 _) _ _ = _; rw [decide_eq_true hnm]; rfl)
      have hnm' : (n : Int) ≤ (most : Int) := by omega
      have hdec : decide ((n : Int) ≤ (most : Int)) = true := by simpa using hnm
      have hn : n ≤ 100000 := Nat.le_trans hnm hm
      clear h h1 HRes
      go_wp2_with fail
      refine (must_yes _ _ _).mono ?_
      rintro e w2 ⟨rfl, rfl⟩
      have HG := Lib.hid (stT.gro_nil 70 HF.out)
      clear HF hdec hnm'
      go_wp2_with fail
      go_loopw [6, 20] (fun out ix wr => ∃ (i : Nat) (A : Option Addr) (c : Nat) (css : List (List Value)) (acc : List St) (si : RS), out = .slice A i c ∧ ix = .int .i64 i ∧ i ≤ n ∧ acc.length = i ∧ si.2.1 = 0 ∧ timesR one (n - i) acc si = res ∧ Lies N w0 wr (sepT (crT p bs si) (sepT (stT.gro 70 (.slice A i c) css acc) R))) (fun _ ix _ => n - (intOf ix).toNat)
      case atStart => exact ⟨0, none, 0, [], [], s1, rfl, rfl, Nat.zero_le _, rfl, HZ1.out, HE.out.symm, HG.out.turn (by ac_rfl)⟩
      case round =>
        clear HG HE
        obtain ⟨i, A, c, css, acc, si, rfl, rfl, hi, hacc, hsi, ht, hh⟩ := hrel
        by_cases hlt : i < n
        · have hlt' : (i : Int) < (n : Int) := by omega
          rw [times_succ one n i hlt] at ht
          have HT := Lib.hid ht
          have HC := Lib.hid (HO.out _ si _ hsi hh)
          have HA := Lib.hid hacc
          clear hh ht hacc hsi HZ1
          go_wp2_with fail
          refine HC.out.mono ?_
          intro e w2 hr
          clear HC
          unfold RdT at hr
          rcases h2 : one si with f | ⟨x, s2⟩ <;> rw [h2] at hr
          · obtain ⟨rfl, k, h⟩ := hr
            have HE : Hid (res = .error f) := Lib.hid (by rw [← HT.out, bind_err h2])
            have HF := Lib.hid (h.turn (a' := sepT (stT.gro 70 (.slice A i c) css acc) (sepT (crT p bs k) R)) (by ac_rfl)).drop
            clear h h2
            go_wp2_with fail
            refine ⟨rfl, ?_⟩
            rw [HE.out]
            exact ⟨rfl, _, HF.out⟩
          · obtain ⟨hs2, cs, hE, h⟩ := hr
            have HE : Hid (timesR one (n - (i + 1)) (acc ++ [x]) s2 = res) := Lib.hid (by rw [← HT.out, bind_ok h2])
            have HS2 := Lib.hid hs2
            have HF := Lib.hid (h.turn (a' := sepT (stT.gro 70 (.slice A i c) css acc) (sepT (stT.el cs x) (sepT (crT p bs s2) R))) (by ac_rfl))
            obtain ⟨⟨rfl, _⟩, _⟩ := Lies.fact (φ := cs = [.int .i64 x.what, .string x.src, .string x.dst] ∧ iz x.what ∧ sz x.src ∧ sz x.dst) (h.turn (a' := sepT (stT.el cs x) (sepT (crT p bs s2) (sepT (stT.gro 70 (.slice A i c) css acc) R))) (by ac_rfl))
            have hE' : e = .returned (.agg #[.int .i64 x.what, .string x.src, .string x.dst]) := hE
            subst hE'
            clear h h2 hs2 hE
            have hrow := stT.gro_row HF.out
            rw [HA.out] at hrow
            have HR := Lib.hid hrow
            obtain ⟨i0, hi0, hz0, hz1, hz2⟩ := info_parts info_lSt
            clear hrow
            go_wp2_with (at_builtin; refine wpList_append_own_at _ rfl (.tmp 22) (.tmp 25) 23 rfl 0 70 i0 (.agg #[.int .i64 0, .string ⟨#[]⟩, .string ⟨#[]⟩]) 3 40 Tryz.underlying23 hi0 hz0 hz1 hz2 rfl (by decide) (.slice A i c) i _ rfl (HR.out.alloc _) ⟨w2.heap.size, 0, none⟩ 1 1 [.int .i64 x.what, .string x.src, .string x.dst] rfl rfl (cells_arr _ #[.int .i64 x.what, .string x.src, .string x.dst] _) (by simp [Value.oneCell']) (by simp only [maxLen]; omega) (by omega) (Nat.zero_le _) ?_; intro v' w4 hown' hgrow _ hat; obtain ⟨B', d', rfl, _⟩ := gro_form hown')
            refine ⟨⟨i + 1, B', d', css ++ [[.int .i64 x.what, .string x.src, .string x.dst]], acc ++ [x], s2, rfl, by go_num, by omega, by rw [List.length_append, HA.out]; rfl, HS2.out, HE.out, (stT.gro_app (HF.out.alloc _) (by rw [HA.out]; exact hown') hgrow hat).turn (by ac_rfl)⟩, by simp [intOf]; omega⟩
        · have hlt' : ¬ (i : Int) < (n : Int) := by omega
          obtain rfl : i = n := by omega
          rw [Nat.sub_self] at ht
          have HE : Hid (res = .ok (acc, si)) := Lib.hid ht.symm
          have HF := Lib.hid (stT.gro_sl (by omega) (hh.turn (a' := sepT (stT.gro 70 (.slice A i c) css acc) (sepT (crT p bs si) R)) (by ac_rfl)))
          have HS := Lib.hid hsi
          clear hh ht hsi HZ1
          have HA := Lib.hid hacc
          clear hacc
          go_wp2_with fail
          go_ret
          rw [HE.out]
          refine ⟨HS.out, A, c, by rw [HA.out]; rfl, ?_⟩
          rw [HA.out]
          exact HF.out.turn (by ac_rfl)
    · have HE : Hid (res = .error (12, (at_ : Int))) := Lib.hid (by rw [HRes.out]; unfold listR; rw [bind_ok h1]; show Rdr.bind (mustR (decide (n ≤ most)) 12 _) _ _ = _; rw [decide_eq_false hnm]; rfl)
      have hnm' : ¬ (n : Int) ≤ (most : Int) := by omega
      have hdec : decide ((n : Int) ≤ (most : Int)) = false := by simpa using hnm
      clear h h1 HRes
      go_wp2_with fail
      refine (must_no _ _ _).mono ?_
      rintro e w2 ⟨rfl, rfl⟩
      go_wp2_with fail
      refine ⟨rfl, ?_⟩
      rw [HE.out]
      exact ⟨rfl, _, HF.out⟩
theorem info_lIn : (Tryz.prog.info? 117).map (fun i => (i.zero, i.size, i.bytes)) = some (some (.agg #[.int .i64 0, .int .i64 0, .int .i64 0, .int .i64 0]), 4, 32) := by kernel_rfl
set_option maxRecDepth 100000 in
set_option maxHeartbeats 1600000 in
theorem listIn_any (fn : FuncId) (one : Rdr In) (most : Nat) (hm : most ≤ 100000) (he : ∀ args (w : World), (callFunc fn args).run Tryz.prog w = .ok (.enter fn args) w)
    (hone : ∀ W' s' R', s'.2.1 = 0 → Lies N w0 W' (sepT (crT p bs s') R') → Calls Tryz.prog fn #[.pointer (some ⟨p, 0, none⟩)] W' (RdT N w0 R' p bs inT.el (one s')))
    (hs : s.2.1 = 0) (H : Lies N w0 W (sepT (crT p bs s) R)) :
    Calls Tryz.prog 108 #[.pointer (some ⟨p, 0, none⟩), .int .i64 most, .func (.func fn) #[.pointer (some ⟨p, 0, none⟩)] #[]] W (RdS inT 117 N w0 R p bs (listR bs most one s)) := by
  obtain ⟨res, hres⟩ : ∃ r, r = listR bs most one s := ⟨_, rfl⟩
  rw [← hres]
  have HC := Lib.hid (rnum_any hs H)
  have HO := Lib.hid hone
  have HRes := Lib.hid hres
  clear H hone hres hs
  go_enter Tryz.func108, Tryz.ntmps108
  go_wp2_with fail
  refine HC.out.mono ?_
  intro e w1 hr
  clear HC
  unfold RdP at hr
  rcases h1 : numR bs s with f | ⟨⟨n, at_⟩, s1⟩ <;> rw [h1] at hr
  · obtain ⟨rfl, k, h⟩ := hr
    have HE : Hid (res = .error f) := Lib.hid (by rw [HRes.out]; unfold listR; rw [bind_err h1])
    have HF := Lib.hid h
    clear h h1
    go_wp2_with fail
    refine ⟨rfl, ?_⟩
    rw [HE.out]
    exact ⟨rfl, _, HF.out⟩
  · obtain ⟨rfl, h⟩ := hr
    have HZ1 := Lib.hid (numR_ok h1).2
    have HF := Lib.hid h
    by_cases hnm : n ≤ most
    · have HE : Hid (res = timesR one n [] s1) := Lib.hid (by rw [HRes.out]; unfold listR; rw [bind_ok h1]; show Rdr.bind (mustR (decide (n ≤ most)) 12 _) _ _ = _; rw [decide_eq_true hnm]; rfl)
      have hnm' : (n : Int) ≤ (most : Int) := by omega
      have hdec : decide ((n : Int) ≤ (most : Int)) = true := by simpa using hnm
      have hn : n ≤ 100000 := Nat.le_trans hnm hm
      clear h h1 HRes
      go_wp2_with fail
      refine (must_yes _ _ _).mono ?_
      rintro e w2 ⟨rfl, rfl⟩
      have HG := Lib.hid (inT.gro_nil 117 HF.out)
      clear HF hdec hnm'
      go_wp2_with fail
      go_loopw [6, 20] (fun out ix wr => ∃ (i : Nat) (A : Option Addr) (c : Nat) (css : List (List Value)) (acc : List In) (si : RS), out = .slice A i c ∧ ix = .int .i64 i ∧ i ≤ n ∧ acc.length = i ∧ si.2.1 = 0 ∧ timesR one (n - i) acc si = res ∧ Lies N w0 wr (sepT (crT p bs si) (sepT (inT.gro 117 (.slice A i c) css acc) R))) (fun _ ix _ => n - (intOf ix).toNat)
      case atStart => exact ⟨0, none, 0, [], [], s1, rfl, rfl, Nat.zero_le _, rfl, HZ1.out, HE.out.symm, HG.out.turn (by ac_rfl)⟩
      case round =>
        clear HG HE
        obtain ⟨i, A, c, css, acc, si, rfl, rfl, hi, hacc, hsi, ht, hh⟩ := hrel
        by_cases hlt : i < n
        · have hlt' : (i : Int) < (n : Int) := by omega
          rw [times_succ one n i hlt] at ht
          have HT := Lib.hid ht
          have HC := Lib.hid (HO.out _ si _ hsi hh)
          have HA := Lib.hid hacc
          clear hh ht hacc hsi HZ1
          go_wp2_with fail
          refine HC.out.mono ?_
          intro e w2 hr
          clear HC
          unfold RdT at hr
          rcases h2 : one si with f | ⟨x, s2⟩ <;> rw [h2] at hr
          · obtain ⟨rfl, k, h⟩ := hr
            have HE : Hid (res = .error f) := Lib.hid (by rw [← HT.out, bind_err h2])
            have HF := Lib.hid (h.turn (a' := sepT (inT.gro 117 (.slice A i c) css acc) (sepT (crT p bs k) R)) (by ac_rfl)).drop
            clear h h2
            go_wp2_with fail
            refine ⟨rfl, ?_⟩
            rw [HE.out]
            exact ⟨rfl, _, HF.out⟩
          · obtain ⟨hs2, cs, hE, h⟩ := hr
            have HE : Hid (timesR one (n - (i + 1)) (acc ++ [x]) s2 = res) := Lib.hid (by rw [← HT.out, bind_ok h2])
            have HS2 := Lib.hid hs2
            have HF := Lib.hid (h.turn (a' := sepT (inT.gro 117 (.slice A i c) css acc) (sepT (inT.el cs x) (sepT (crT p bs s2) R))) (by ac_rfl))
            obtain ⟨⟨rfl, _⟩, _⟩ := Lies.fact (φ := cs = [.int .i64 x.op, .int .i64 x.a, .int .i64 x.b, .int .i64 x.c] ∧ iz x.op ∧ iz x.a ∧ iz x.b ∧ iz x.c) (h.turn (a' := sepT (inT.el cs x) (sepT (crT p bs s2) (sepT (inT.gro 117 (.slice A i c) css acc) R))) (by ac_rfl))
            have hE' : e = .returned (.agg #[.int .i64 x.op, .int .i64 x.a, .int .i64 x.b, .int .i64 x.c]) := hE
            subst hE'
            clear h h2 hs2 hE
            have hrow := inT.gro_row HF.out
            rw [HA.out] at hrow
            have HR := Lib.hid hrow
            obtain ⟨i0, hi0, hz0, hz1, hz2⟩ := info_parts info_lIn
            clear hrow
            go_wp2_with (at_builtin; refine wpList_append_own_at _ rfl (.tmp 22) (.tmp 25) 46 rfl 0 117 i0 (.agg #[.int .i64 0, .int .i64 0, .int .i64 0, .int .i64 0]) 4 32 Tryz.underlying46 hi0 hz0 hz1 hz2 rfl (by decide) (.slice A i c) i _ rfl (HR.out.alloc _) ⟨w2.heap.size, 0, none⟩ 1 1 [.int .i64 x.op, .int .i64 x.a, .int .i64 x.b, .int .i64 x.c] rfl rfl (cells_arr _ #[.int .i64 x.op, .int .i64 x.a, .int .i64 x.b, .int .i64 x.c] _) (by simp [Value.oneCell']) (by simp only [maxLen]; omega) (by omega) (Nat.zero_le _) ?_; intro v' w4 hown' hgrow _ hat; obtain ⟨B', d', rfl, _⟩ := gro_form hown')
            refine ⟨⟨i + 1, B', d', css ++ [[.int .i64 x.op, .int .i64 x.a, .int .i64 x.b, .int .i64 x.c]], acc ++ [x], s2, rfl, by go_num, by omega, by rw [List.length_append, HA.out]; rfl, HS2.out, HE.out, (inT.gro_app (HF.out.alloc _) (by rw [HA.out]; exact hown') hgrow hat).turn (by ac_rfl)⟩, by simp [intOf]; omega⟩
        · have hlt' : ¬ (i : Int) < (n : Int) := by omega
          obtain rfl : i = n := by omega
          rw [Nat.sub_self] at ht
          have HE : Hid (res = .ok (acc, si)) := Lib.hid ht.symm
          have HF := Lib.hid (inT.gro_sl (by omega) (hh.turn (a' := sepT (inT.gro 117 (.slice A i c) css acc) (sepT (crT p bs si) R)) (by ac_rfl)))
          have HS := Lib.hid hsi
          clear hh ht hsi HZ1
          have HA := Lib.hid hacc
          clear hacc
          go_wp2_with fail
          go_ret
          rw [HE.out]
          refine ⟨HS.out, A, c, by rw [HA.out]; rfl, ?_⟩
          rw [HA.out]
          exact HF.out.turn (by ac_rfl)
    · have HE : Hid (res = .error (12, (at_ : Int))) := Lib.hid (by rw [HRes.out]; unfold listR; rw [bind_ok h1]; show Rdr.bind (mustR (decide (n ≤ most)) 12 _) _ _ = _; rw [decide_eq_false hnm]; rfl)
      have hnm' : ¬ (n : Int) ≤ (most : Int) := by omega
      have hdec : decide ((n : Int) ≤ (most : Int)) = false := by simpa using hnm
      clear h h1 HRes
      go_wp2_with fail
      refine (must_no _ _ _).mono ?_
      rintro e w2 ⟨rfl, rfl⟩
      go_wp2_with fail
      refine ⟨rfl, ?_⟩
      rw [HE.out]
      exact ⟨rfl, _, HF.out⟩
theorem fu_form {cs : List Value} {x : Fu} (H : Lies N w0 W (sepT (fuT.el cs x) R)) : ∃ A c B d, cs = [.string x.cls, .string x.name, .slice A x.locals.length c, .slice B x.code.length d] := by
  obtain ⟨⟨p, q⟩, H⟩ := H.ex
  rw [sepT_assoc] at H
  obtain ⟨⟨rfl, _⟩, H2⟩ := H.fact
  rw [sepT_assoc] at H2
  obtain ⟨A, c, h1, _⟩ := txT.sl_form H2
  obtain ⟨B, d, h2, _⟩ := inT.sl_form H2.drop
  simp only at h1 h2
  subst h1 h2
  exact ⟨A, c, B, d, rfl⟩
theorem info_lFu : (Tryz.prog.info? 48).map (fun i => (i.zero, i.size, i.bytes)) = some (some (.agg #[.string ⟨#[]⟩, .string ⟨#[]⟩, .slice none 0 0, .slice none 0 0]), 4, 80) := by kernel_rfl
set_option maxRecDepth 100000 in
set_option maxHeartbeats 1600000 in
theorem listFu_any (fn : FuncId) (one : Rdr Fu) (most : Nat) (hm : most ≤ 100000) (he : ∀ args (w : World), (callFunc fn args).run Tryz.prog w = .ok (.enter fn args) w)
    (hone : ∀ W' s' R', s'.2.1 = 0 → Lies N w0 W' (sepT (crT p bs s') R') → Calls Tryz.prog fn #[.pointer (some ⟨p, 0, none⟩)] W' (RdT N w0 R' p bs fuT.el (one s')))
    (hs : s.2.1 = 0) (H : Lies N w0 W (sepT (crT p bs s) R)) :
    Calls Tryz.prog 55 #[.pointer (some ⟨p, 0, none⟩), .int .i64 most, .func (.func fn) #[.pointer (some ⟨p, 0, none⟩)] #[]] W (RdS fuT 48 N w0 R p bs (listR bs most one s)) := by
  obtain ⟨res, hres⟩ : ∃ r, r = listR bs most one s := ⟨_, rfl⟩
  rw [← hres]
  have HC := Lib.hid (rnum_any hs H)
  have HO := Lib.hid hone
  have HRes := Lib.hid hres
  clear H hone hres hs
  go_enter Tryz.func55, Tryz.ntmps55
  go_wp2_with fail
  refine HC.out.mono ?_
  intro e w1 hr
  clear HC
  unfold RdP at hr
  rcases h1 : numR bs s with f | ⟨⟨n, at_⟩, s1⟩ <;> rw [h1] at hr
  · obtain ⟨rfl, k, h⟩ := hr
    have HE : Hid (res = .error f) := Lib.hid (by rw [HRes.out]; unfold listR; rw [bind_err h1])
    have HF := Lib.hid h
    clear h h1
    go_wp2_with fail
    refine ⟨rfl, ?_⟩
    rw [HE.out]
    exact ⟨rfl, _, HF.out⟩
  · obtain ⟨rfl, h⟩ := hr
    have HZ1 := Lib.hid (numR_ok h1).2
    have HF := Lib.hid h
    by_cases hnm : n ≤ most
    · have HE : Hid (res = timesR one n [] s1) := Lib.hid (by rw [HRes.out]; unfold listR; rw [bind_ok h1]; show Rdr.bind (mustR (decide (n ≤ most)) 12 _) _ _ = _; rw [decide_eq_true hnm]; rfl)
      have hnm' : (n : Int) ≤ (most : Int) := by omega
      have hdec : decide ((n : Int) ≤ (most : Int)) = true := by simpa using hnm
      have hn : n ≤ 100000 := Nat.le_trans hnm hm
      clear h h1 HRes
      go_wp2_with fail
      refine (must_yes _ _ _).mono ?_
      rintro e w2 ⟨rfl, rfl⟩
      have HG := Lib.hid (fuT.gro_nil 48 HF.out)
      clear HF hdec hnm'
      go_wp2_with fail
      go_loopw [6, 20] (fun out ix wr => ∃ (i : Nat) (A : Option Addr) (c : Nat) (css : List (List Value)) (acc : List Fu) (si : RS), out = .slice A i c ∧ ix = .int .i64 i ∧ i ≤ n ∧ acc.length = i ∧ si.2.1 = 0 ∧ timesR one (n - i) acc si = res ∧ Lies N w0 wr (sepT (crT p bs si) (sepT (fuT.gro 48 (.slice A i c) css acc) R))) (fun _ ix _ => n - (intOf ix).toNat)
      case atStart => exact ⟨0, none, 0, [], [], s1, rfl, rfl, Nat.zero_le _, rfl, HZ1.out, HE.out.symm, HG.out.turn (by ac_rfl)⟩
      case round =>
        clear HG HE
        obtain ⟨i, A, c, css, acc, si, rfl, rfl, hi, hacc, hsi, ht, hh⟩ := hrel
        by_cases hlt : i < n
        · have hlt' : (i : Int) < (n : Int) := by omega
          rw [times_succ one n i hlt] at ht
          have HT := Lib.hid ht
          have HC := Lib.hid (HO.out _ si _ hsi hh)
          have HA := Lib.hid hacc
          clear hh ht hacc hsi HZ1
          go_wp2_with fail
          refine HC.out.mono ?_
          intro e w2 hr
          clear HC
          unfold RdT at hr
          rcases h2 : one si with f | ⟨x, s2⟩ <;> rw [h2] at hr
          · obtain ⟨rfl, k, h⟩ := hr
            have HE : Hid (res = .error f) := Lib.hid (by rw [← HT.out, bind_err h2])
            have HF := Lib.hid (h.turn (a' := sepT (fuT.gro 48 (.slice A i c) css acc) (sepT (crT p bs k) R)) (by ac_rfl)).drop
            clear h h2
            go_wp2_with fail
            refine ⟨rfl, ?_⟩
            rw [HE.out]
            exact ⟨rfl, _, HF.out⟩
          · obtain ⟨hs2, cs, hE, h⟩ := hr
            have HE : Hid (timesR one (n - (i + 1)) (acc ++ [x]) s2 = res) := Lib.hid (by rw [← HT.out, bind_ok h2])
            have HS2 := Lib.hid hs2
            have HF := Lib.hid (h.turn (a' := sepT (fuT.gro 48 (.slice A i c) css acc) (sepT (fuT.el cs x) (sepT (crT p bs s2) R))) (by ac_rfl))
            obtain ⟨A2, c2, A3, c3, rfl⟩ := fu_form (h.turn (a' := sepT (fuT.el cs x) (sepT (crT p bs s2) (sepT (fuT.gro 48 (.slice A i c) css acc) R))) (by ac_rfl))
            have hE' : e = .returned (.agg #[.string x.cls, .string x.name, .slice A2 x.locals.length c2, .slice A3 x.code.length c3]) := hE
            subst hE'
            clear h h2 hs2 hE
            have hrow := fuT.gro_row HF.out
            rw [HA.out] at hrow
            have HR := Lib.hid hrow
            obtain ⟨i0, hi0, hz0, hz1, hz2⟩ := info_parts info_lFu
            clear hrow
            go_wp2_with (at_builtin; refine wpList_append_own_at _ rfl (.tmp 22) (.tmp 25) 25 rfl 0 48 i0 (.agg #[.string ⟨#[]⟩, .string ⟨#[]⟩, .slice none 0 0, .slice none 0 0]) 4 80 Tryz.underlying25 hi0 hz0 hz1 hz2 rfl (by decide) (.slice A i c) i _ rfl (HR.out.alloc _) ⟨w2.heap.size, 0, none⟩ 1 1 [.string x.cls, .string x.name, .slice A2 x.locals.length c2, .slice A3 x.code.length c3] rfl rfl (cells_arr _ #[.string x.cls, .string x.name, .slice A2 x.locals.length c2, .slice A3 x.code.length c3] _) (by simp [Value.oneCell']) (by simp only [maxLen]; omega) (by omega) (Nat.zero_le _) ?_; intro v' w4 hown' hgrow _ hat; obtain ⟨B', d', rfl, _⟩ := gro_form hown')
            refine ⟨⟨i + 1, B', d', css ++ [[.string x.cls, .string x.name, .slice A2 x.locals.length c2, .slice A3 x.code.length c3]], acc ++ [x], s2, rfl, by go_num, by omega, by rw [List.length_append, HA.out]; rfl, HS2.out, HE.out, (fuT.gro_app (HF.out.alloc _) (by rw [HA.out]; exact hown') hgrow hat).turn (by ac_rfl)⟩, by simp [intOf]; omega⟩
        · have hlt' : ¬ (i : Int) < (n : Int) := by omega
          obtain rfl : i = n := by omega
          rw [Nat.sub_self] at ht
          have HE : Hid (res = .ok (acc, si)) := Lib.hid ht.symm
          have HF := Lib.hid (fuT.gro_sl (by omega) (hh.turn (a' := sepT (fuT.gro 48 (.slice A i c) css acc) (sepT (crT p bs si) R)) (by ac_rfl)))
          have HS := Lib.hid hsi
          clear hh ht hsi HZ1
          have HA := Lib.hid hacc
          clear hacc
          go_wp2_with fail
          go_ret
          rw [HE.out]
          refine ⟨HS.out, A, c, by rw [HA.out]; rfl, ?_⟩
          rw [HA.out]
          exact HF.out.turn (by ac_rfl)
    · have HE : Hid (res = .error (12, (at_ : Int))) := Lib.hid (by rw [HRes.out]; unfold listR; rw [bind_ok h1]; show Rdr.bind (mustR (decide (n ≤ most)) 12 _) _ _ = _; rw [decide_eq_false hnm]; rfl)
      have hnm' : ¬ (n : Int) ≤ (most : Int) := by omega
      have hdec : decide ((n : Int) ≤ (most : Int)) = false := by simpa using hnm
      clear h h1 HRes
      go_wp2_with fail
      refine (must_no _ _ _).mono ?_
      rintro e w2 ⟨rfl, rfl⟩
      go_wp2_with fail
      refine ⟨rfl, ?_⟩
      rw [HE.out]
      exact ⟨rfl, _, HF.out⟩
theorem info_lTx : (Tryz.prog.info? 9).map (fun i => (i.zero, i.size, i.bytes)) = some (some (.string ⟨#[]⟩), 1, 16) := by kernel_rfl
set_option maxRecDepth 100000 in
set_option maxHeartbeats 1600000 in
theorem listTx_any (fn : FuncId) (one : Rdr ByteArray) (most : Nat) (hm : most ≤ 100000) (he : ∀ args (w : World), (callFunc fn args).run Tryz.prog w = .ok (.enter fn args) w)
    (hone : ∀ W' s' R', s'.2.1 = 0 → Lies N w0 W' (sepT (crT p bs s') R') → Calls Tryz.prog fn #[.pointer (some ⟨p, 0, none⟩)] W' (RdT N w0 R' p bs txT.el (one s')))
    (hs : s.2.1 = 0) (H : Lies N w0 W (sepT (crT p bs s) R)) :
    Calls Tryz.prog 53 #[.pointer (some ⟨p, 0, none⟩), .int .i64 most, .func (.func fn) #[.pointer (some ⟨p, 0, none⟩)] #[]] W (RdS txT 9 N w0 R p bs (listR bs most one s)) := by
  obtain ⟨res, hres⟩ : ∃ r, r = listR bs most one s := ⟨_, rfl⟩
  rw [← hres]
  have HC := Lib.hid (rnum_any hs H)
  have HO := Lib.hid hone
  have HRes := Lib.hid hres
  clear H hone hres hs
  go_enter Tryz.func53, Tryz.ntmps53
  go_wp2_with fail
  refine HC.out.mono ?_
  intro e w1 hr
  clear HC
  unfold RdP at hr
  rcases h1 : numR bs s with f | ⟨⟨n, at_⟩, s1⟩ <;> rw [h1] at hr
  · obtain ⟨rfl, k, h⟩ := hr
    have HE : Hid (res = .error f) := Lib.hid (by rw [HRes.out]; unfold listR; rw [bind_err h1])
    have HF := Lib.hid h
    clear h h1
    go_wp2_with fail
    refine ⟨rfl, ?_⟩
    rw [HE.out]
    exact ⟨rfl, _, HF.out⟩
  · obtain ⟨rfl, h⟩ := hr
    have HZ1 := Lib.hid (numR_ok h1).2
    have HF := Lib.hid h
    by_cases hnm : n ≤ most
    · have HE : Hid (res = timesR one n [] s1) := Lib.hid (by rw [HRes.out]; unfold listR; rw [bind_ok h1]; show Rdr.bind (mustR (decide (n ≤ most)) 12 _) _ _ = _; rw [decide_eq_true hnm]; rfl)
      have hnm' : (n : Int) ≤ (most : Int) := by omega
      have hdec : decide ((n : Int) ≤ (most : Int)) = true := by simpa using hnm
      have hn : n ≤ 100000 := Nat.le_trans hnm hm
      clear h h1 HRes
      go_wp2_with fail
      refine (must_yes _ _ _).mono ?_
      rintro e w2 ⟨rfl, rfl⟩
      have HG := Lib.hid (txT.gro_nil 9 HF.out)
      clear HF hdec hnm'
      go_wp2_with fail
      go_loopw [6, 20] (fun out ix wr => ∃ (i : Nat) (A : Option Addr) (c : Nat) (css : List (List Value)) (acc : List ByteArray) (si : RS), out = .slice A i c ∧ ix = .int .i64 i ∧ i ≤ n ∧ acc.length = i ∧ si.2.1 = 0 ∧ timesR one (n - i) acc si = res ∧ Lies N w0 wr (sepT (crT p bs si) (sepT (txT.gro 9 (.slice A i c) css acc) R))) (fun _ ix _ => n - (intOf ix).toNat)
      case atStart => exact ⟨0, none, 0, [], [], s1, rfl, rfl, Nat.zero_le _, rfl, HZ1.out, HE.out.symm, HG.out.turn (by ac_rfl)⟩
      case round =>
        clear HG HE
        obtain ⟨i, A, c, css, acc, si, rfl, rfl, hi, hacc, hsi, ht, hh⟩ := hrel
        by_cases hlt : i < n
        · have hlt' : (i : Int) < (n : Int) := by omega
          rw [times_succ one n i hlt] at ht
          have HT := Lib.hid ht
          have HC := Lib.hid (HO.out _ si _ hsi hh)
          have HA := Lib.hid hacc
          clear hh ht hacc hsi HZ1
          go_wp2_with fail
          refine HC.out.mono ?_
          intro e w2 hr
          clear HC
          unfold RdT at hr
          rcases h2 : one si with f | ⟨x, s2⟩ <;> rw [h2] at hr
          · obtain ⟨rfl, k, h⟩ := hr
            have HE : Hid (res = .error f) := Lib.hid (by rw [← HT.out, bind_err h2])
            have HF := Lib.hid (h.turn (a' := sepT (txT.gro 9 (.slice A i c) css acc) (sepT (crT p bs k) R)) (by ac_rfl)).drop
            clear h h2
            go_wp2_with fail
            refine ⟨rfl, ?_⟩
            rw [HE.out]
            exact ⟨rfl, _, HF.out⟩
          · obtain ⟨hs2, cs, hE, h⟩ := hr
            have HE : Hid (timesR one (n - (i + 1)) (acc ++ [x]) s2 = res) := Lib.hid (by rw [← HT.out, bind_ok h2])
            have HS2 := Lib.hid hs2
            have HF := Lib.hid (h.turn (a' := sepT (txT.gro 9 (.slice A i c) css acc) (sepT (txT.el cs x) (sepT (crT p bs s2) R))) (by ac_rfl))
            obtain ⟨⟨rfl, _⟩, _⟩ := Lies.fact (φ := cs = [.string x] ∧ sz x) (h.turn (a' := sepT (txT.el cs x) (sepT (crT p bs s2) (sepT (txT.gro 9 (.slice A i c) css acc) R))) (by ac_rfl))
            have hE' : e = .returned (.string x) := hE
            subst hE'
            clear h h2 hs2 hE
            have hrow := txT.gro_row HF.out
            rw [HA.out] at hrow
            have HR := Lib.hid hrow
            obtain ⟨i0, hi0, hz0, hz1, hz2⟩ := info_parts info_lTx
            clear hrow
            go_wp2_with (at_builtin; refine wpList_append_own_at _ rfl (.tmp 22) (.tmp 25) 24 rfl 0 9 i0 (.string ⟨#[]⟩) 1 16 Tryz.underlying24 hi0 hz0 hz1 hz2 rfl (by decide) (.slice A i c) i _ rfl (HR.out.alloc _) ⟨w2.heap.size, 0, none⟩ 1 1 [.string x] rfl rfl (cells_arr _ #[.string x] _) (by simp [Value.oneCell']) (by simp only [maxLen]; omega) (by omega) (Nat.zero_le _) ?_; intro v' w4 hown' hgrow _ hat; obtain ⟨B', d', rfl, _⟩ := gro_form hown')
            refine ⟨⟨i + 1, B', d', css ++ [[.string x]], acc ++ [x], s2, rfl, by go_num, by omega, by rw [List.length_append, HA.out]; rfl, HS2.out, HE.out, (txT.gro_app (HF.out.alloc _) (by rw [HA.out]; exact hown') hgrow hat).turn (by ac_rfl)⟩, by simp [intOf]; omega⟩
        · have hlt' : ¬ (i : Int) < (n : Int) := by omega
          obtain rfl : i = n := by omega
          rw [Nat.sub_self] at ht
          have HE : Hid (res = .ok (acc, si)) := Lib.hid ht.symm
          have HF := Lib.hid (txT.gro_sl (by omega) (hh.turn (a' := sepT (txT.gro 9 (.slice A i c) css acc) (sepT (crT p bs si) R)) (by ac_rfl)))
          have HS := Lib.hid hsi
          clear hh ht hsi HZ1
          have HA := Lib.hid hacc
          clear hacc
          go_wp2_with fail
          go_ret
          rw [HE.out]
          refine ⟨HS.out, A, c, by rw [HA.out]; rfl, ?_⟩
          rw [HA.out]
          exact HF.out.turn (by ac_rfl)
    · have HE : Hid (res = .error (12, (at_ : Int))) := Lib.hid (by rw [HRes.out]; unfold listR; rw [bind_ok h1]; show Rdr.bind (mustR (decide (n ≤ most)) 12 _) _ _ = _; rw [decide_eq_false hnm]; rfl)
      have hnm' : ¬ (n : Int) ≤ (most : Int) := by omega
      have hdec : decide ((n : Int) ≤ (most : Int)) = false := by simpa using hnm
      clear h h1 HRes
      go_wp2_with fail
      refine (must_no _ _ _).mono ?_
      rintro e w2 ⟨rfl, rfl⟩
      go_wp2_with fail
      refine ⟨rfl, ?_⟩
      rw [HE.out]
      exact ⟨rfl, _, HF.out⟩
end
end Go.Proofs.YtcapdmicekialaaGreat
/- codec.reader: operand, ins. -/
namespace Go.Proofs.YtcapdmicekialaaGreat
open Go.RowKit
set_option linter.unusedVariables false
set_option linter.unusedSimpArgs false
attribute [local go_sem] Oper.semAt_some run_store_func run_store_nilFunc
section
variable {N : Nat} {w0 W : World} {R M : Thing} {p : Nat} {bs : List UInt8} {s : RS}
theorem numR_iz {n at_ : Nat} {s' : RS} (h : numR bs s = .ok ((n, at_), s')) : iz n := by
  have := (numR_ok h).1.out
  unfold iz
  omega
theorem numR_iz' {n at_ : Nat} {s' : RS} (h : numR bs s = .ok ((n, at_), s')) : iz (-1 - (n : Int)) := by
  have := (numR_ok h).1.out
  unfold iz
  omega
set_option maxRecDepth 100000 in
set_option maxHeartbeats 1600000 in
theorem rop_any (hs : s.2.1 = 0) (H : Lies N w0 W (sepT (crT p bs s) R)) : Calls Tryz.prog 133 #[.pointer (some ⟨p, 0, none⟩)] W (RdP N w0 R p bs (fun a : Int => .int .i64 a) (opR bs s)) := by
  obtain ⟨res, hres⟩ : ∃ r, r = opR bs s := ⟨_, rfl⟩
  rw [← hres]
  have HC := Lib.hid (rnum_any hs H)
  have HRes := Lib.hid hres
  clear H hres hs
  go_enter Tryz.func133, Tryz.ntmps133
  go_wp2_with fail
  refine HC.out.mono ?_
  intro e w1 hr
  clear HC
  unfold RdP at hr
  rcases h1 : numR bs s with f | ⟨⟨n, at_⟩, s1⟩ <;> rw [h1] at hr
  · obtain ⟨rfl, k, h⟩ := hr
    have HE : Hid (res = .error f) := Lib.hid (by rw [HRes.out]; unfold opR; rw [bind_err h1])
    have HF := Lib.hid h
    clear h h1
    go_wp2_with fail
    refine ⟨rfl, ?_⟩
    rw [HE.out]
    exact ⟨rfl, _, HF.out⟩
  · obtain ⟨rfl, h⟩ := hr
    have HZ1 := Lib.hid (numR_ok h1).2
    have HF := Lib.hid h
    by_cases hnm : n ≤ 1
    · have HE : Hid (res = ((numR bs).bind fun m => Rdr.pure (if n = 1 then -1 - (m.1 : Int) else (m.1 : Int))) s1) := Lib.hid (by rw [HRes.out]; unfold opR; rw [bind_ok h1]; show Rdr.bind (mustR (decide (n ≤ 1)) 5 _) _ _ = _; rw [decide_eq_true hnm]; rfl)
      have hnm' : (n : Int) ≤ 1 := by omega
      have hdec : decide ((n : Int) ≤ 1) = true := by simp; omega
      clear h h1 HRes
      go_wp2_with fail
      refine (must_yes _ _ _).mono ?_
      rintro e w2 ⟨rfl, rfl⟩
      have HC := Lib.hid (rnum_any HZ1.out HF.out)
      clear HF hdec hnm'
      go_wp2_with fail
      refine HC.out.mono ?_
      intro e w3 hr
      clear HC
      unfold RdP at hr
      rcases h2 : numR bs s1 with f | ⟨⟨m, at2⟩, s2⟩ <;> rw [h2] at hr
      · obtain ⟨rfl, k, h⟩ := hr
        have HE2 : Hid (res = .error f) := Lib.hid (by rw [HE.out, bind_err h2])
        have HF := Lib.hid h
        clear h h2
        go_wp2_with fail
        refine ⟨rfl, ?_⟩
        rw [HE2.out]
        exact ⟨rfl, _, HF.out⟩
      · obtain ⟨rfl, h⟩ := hr
        have HF := Lib.hid h
        by_cases h1n : n = 1
        · subst h1n
          have HE2 : Hid (res = .ok (-1 - (m : Int), s2)) := Lib.hid (by rw [HE.out, bind_ok h2]; rfl)
          have hw : IntKind.i64.wrap (-1 - (m : Int)) = -1 - (m : Int) := IntWalk.i64_in _ (numR_iz' h2)
          clear h h2 hnm
          go_wp2_with fail
          go_ret
          rw [HE2.out]
          exact ⟨rfl, HF.out⟩
        · have HE2 : Hid (res = .ok ((m : Int), s2)) := Lib.hid (by rw [HE.out, bind_ok h2]; show Except.ok ((if n = 1 then _ else _), s2) = _; rw [if_neg h1n])
          have hn1 : ¬ (n : Int) = 1 := by omega
          have hn2 : ((n : Int) == 1) = false := by simp; omega
          clear h h2 hnm
          go_wp2_with fail
          go_ret
          rw [HE2.out]
          exact ⟨rfl, HF.out⟩
    · have HE : Hid (res = .error (5, (at_ : Int))) := Lib.hid (by rw [HRes.out]; unfold opR; rw [bind_ok h1]; show Rdr.bind (mustR (decide (n ≤ 1)) 5 _) _ _ = _; rw [decide_eq_false hnm]; rfl)
      have hnm' : ¬ (n : Int) ≤ 1 := by omega
      have hdec : decide ((n : Int) ≤ 1) = false := by simp; omega
      clear h h1 HRes
      go_wp2_with fail
      refine (must_no _ _ _).mono ?_
      rintro e w2 ⟨rfl, rfl⟩
      go_wp2_with fail
      refine ⟨rfl, ?_⟩
      rw [HE.out]
      exact ⟨rfl, _, HF.out⟩
theorem opR_ok {n : Int} {s' : RS} (h : opR bs s = .ok (n, s')) : iz n ∧ s'.2.1 = 0 := by
  unfold opR at h
  rcases h1 : numR bs s with f | ⟨⟨a, at_⟩, s1⟩
  · rw [bind_err h1] at h; cases h
  · rw [bind_ok h1] at h
    change Rdr.bind (mustR (decide (a ≤ 1)) 5 _) _ s1 = _ at h
    by_cases hd : a ≤ 1
    · rw [decide_eq_true hd] at h
      change Rdr.bind (numR bs) _ s1 = _ at h
      rcases h2 : numR bs s1 with f | ⟨⟨b, at2⟩, s2⟩
      · rw [bind_err h2] at h; cases h
      · rw [bind_ok h2] at h
        injection h with h
        injection h with h3 h4
        refine ⟨?_, h4 ▸ (numR_ok h2).2⟩
        rw [← h3]
        simp only
        split
        · exact numR_iz' h2
        · exact numR_iz h2
    · rw [decide_eq_false hd] at h
      change Except.error _ = _ at h
      cases h
theorem pidx0 (a b c : Value) (w : World) : (Instr.index 182 (.agg #[a, b, c]) (.int .i64 0)).run Tryz.prog w = .ok a w := by kernel_rfl
theorem pidx1 (a b c : Value) (w : World) : (Instr.index 182 (.agg #[a, b, c]) (.int .i64 1)).run Tryz.prog w = .ok b w := by kernel_rfl
theorem pidx2 (a b c : Value) (w : World) : (Instr.index 182 (.agg #[a, b, c]) (.int .i64 2)).run Tryz.prog w = .ok c w := by kernel_rfl
theorem in_in {x : In} (h : iz x.op ∧ iz x.a ∧ iz x.b ∧ iz x.c) (H : Lies N w0 W R) : Lies N w0 W (sepT (inT.el [.int .i64 x.op, .int .i64 x.a, .int .i64 x.b, .int .i64 x.c] x) R) :=
  H.withFact ⟨rfl, h⟩
set_option maxRecDepth 100000 in
set_option maxHeartbeats 1600000 in
theorem rins_any (hs : s.2.1 = 0) (H : Lies N w0 W (sepT (crT p bs s) R)) : Calls Tryz.prog 109 #[.pointer (some ⟨p, 0, none⟩)] W (RdT N w0 R p bs inT.el (inR bs s)) := by
  have HC := Lib.hid (rnum_any hs ((H.newBlk 117 #[.int .i64 0, .int .i64 0, .int .i64 0, .int .i64 0]).turn (a' := sepT (crT p bs s) (sepT (blkT W.heap.size 117 #[.int .i64 0, .int .i64 0, .int .i64 0, .int .i64 0]) R)) (by ac_rfl)))
  clear H hs
  go_enter Tryz.func109, Tryz.ntmps109
  go_wp2_with fail
  refine HC.out.mono ?_
  intro e w1 hr
  clear HC
  unfold RdP at hr
  rcases h1 : numR bs s with f | ⟨⟨n, at_⟩, s1⟩ <;> rw [h1] at hr
  · obtain ⟨rfl, k, h⟩ := hr
    have HE : Hid (inR bs s = .error f) := Lib.hid (by unfold inR; rw [bind_err h1])
    have HF := Lib.hid (h.turn (a' := sepT (blkT W.heap.size 117 #[.int .i64 0, .int .i64 0, .int .i64 0, .int .i64 0]) (sepT (crT p bs k) R)) (by ac_rfl)).drop
    clear h h1
    go_wp2_with fail
    refine ⟨rfl, ?_⟩
    rw [HE.out]
    exact ⟨rfl, _, HF.out⟩
  · have H1 := Lib.hid h1
    obtain ⟨rfl, h⟩ := hr
    have HZ1 := Lib.hid (numR_ok h1).2
    have HZ := Lib.hid (numR_iz h1)
    have HH := Lib.hid ((h.newBlk 117 #[.int .i64 n, .int .i64 0, .int .i64 0, .int .i64 0]).turn (a' := (sepT (crT p bs s1) (sepT (blkT w1.heap.size 117 #[.int .i64 n, .int .i64 0, .int .i64 0, .int .i64 0]) (sepT (blkT W.heap.size 117 #[.int .i64 0, .int .i64 0, .int .i64 0, .int .i64 0]) R)))) (by ac_rfl))
    clear h h1
    have x0 := pidx0
    have x1 := pidx1
    have x2 := pidx2
    go_wp2_with fail
    go_loopw [19] (fun ix wr => (ix = .int .i64 0 ∧ Lies N w0 wr (sepT (crT p bs s1) (sepT (blkT w1.heap.size 117 #[.int .i64 n, .int .i64 0, .int .i64 0, .int .i64 0]) (sepT (blkT W.heap.size 117 #[.int .i64 0, .int .i64 0, .int .i64 0, .int .i64 0]) R)))) ∨ (∃ a s2, ix = .int .i64 1 ∧ opR bs s1 = .ok (a, s2) ∧ Lies N w0 wr (sepT (crT p bs s2) (sepT (blkT w1.heap.size 117 #[.int .i64 n, .int .i64 a, .int .i64 0, .int .i64 0]) (sepT (blkT W.heap.size 117 #[.int .i64 0, .int .i64 0, .int .i64 0, .int .i64 0]) R)))) ∨ (∃ a b s2 s3, ix = .int .i64 2 ∧ opR bs s1 = .ok (a, s2) ∧ opR bs s2 = .ok (b, s3) ∧ Lies N w0 wr (sepT (crT p bs s3) (sepT (blkT w1.heap.size 117 #[.int .i64 n, .int .i64 a, .int .i64 b, .int .i64 0]) (sepT (blkT W.heap.size 117 #[.int .i64 0, .int .i64 0, .int .i64 0, .int .i64 0]) R)))) ∨ (∃ a b c s2 s3 s4, ix = .int .i64 3 ∧ opR bs s1 = .ok (a, s2) ∧ opR bs s2 = .ok (b, s3) ∧ opR bs s3 = .ok (c, s4) ∧ Lies N w0 wr (sepT (crT p bs s4) (sepT (blkT w1.heap.size 117 #[.int .i64 n, .int .i64 a, .int .i64 b, .int .i64 c]) (sepT (blkT W.heap.size 117 #[.int .i64 0, .int .i64 0, .int .i64 0, .int .i64 0]) R))))) (fun ix _ => 3 - (intOf ix).toNat)
    case atStart => exact .inl ⟨rfl, HH.out⟩
    case round =>
      clear HH
      rcases hrel with ⟨rfl, hh⟩ | ⟨a, s2, rfl, ha, hh⟩ | ⟨a, b, s2, s3, rfl, ha, hb, hh⟩ | ⟨a, b, c, s2, s3, s4, rfl, ha, hb, hc, hh⟩
      · have HC := Lib.hid (rop_any (R := sepT (blkT w1.heap.size 117 #[.int .i64 n, .int .i64 0, .int .i64 0, .int .i64 0]) (sepT (blkT W.heap.size 117 #[.int .i64 0, .int .i64 0, .int .i64 0, .int .i64 0]) R)) HZ1.out hh)
        clear hh
        go_wp2_with fail
        refine HC.out.mono ?_
        intro e w2 hr
        clear HC
        unfold RdP at hr
        rcases h2 : opR bs s1 with f | ⟨a, s2⟩ <;> rw [h2] at hr
        · obtain ⟨rfl, k, h⟩ := hr
          have HE : Hid (inR bs s = .error f) := Lib.hid (by unfold inR; rw [bind_ok H1.out, bind_err h2])
          have HF := Lib.hid ((h.turn (a' := sepT (blkT w1.heap.size 117 #[.int .i64 n, .int .i64 0, .int .i64 0, .int .i64 0]) (sepT (blkT W.heap.size 117 #[.int .i64 0, .int .i64 0, .int .i64 0, .int .i64 0]) (sepT (crT p bs k) R))) (by ac_rfl)).drop.drop)
          clear h h2
          go_wp2_with fail
          refine ⟨rfl, ?_⟩
          rw [HE.out]
          exact ⟨rfl, _, HF.out⟩
        · obtain ⟨rfl, h⟩ := hr
          have HN := Lib.hid h2
          have h3 := h.turn (a' := (sepT (blkT w1.heap.size 117 #[.int .i64 n, .int .i64 0, .int .i64 0, .int .i64 0]) (sepT (crT p bs s2) (sepT (blkT W.heap.size 117 #[.int .i64 0, .int .i64 0, .int .i64 0, .int .i64 0]) R)))) (by ac_rfl)
          have e0 := h3.blk.1.cell 1
          have f0 := h3.blk.1.frozen 1
          simp at e0
          have HF := Lib.hid (h3.setBlk 1 (.int .i64 a))
          clear h h2 h3
          go_wp2_with fail
          go_roundw
          case rel => exact .inr (.inl ⟨a, s2, rfl, HN.out, HF.out.turn (by ac_rfl)⟩)
          case measure => simp [intOf]
      · have HC := Lib.hid (rop_any (R := sepT (blkT w1.heap.size 117 #[.int .i64 n, .int .i64 a, .int .i64 0, .int .i64 0]) (sepT (blkT W.heap.size 117 #[.int .i64 0, .int .i64 0, .int .i64 0, .int .i64 0]) R)) (opR_ok ha).2 hh)
        have H2 := Lib.hid ha
        clear hh ha
        go_wp2_with fail
        refine HC.out.mono ?_
        intro e w2 hr
        clear HC
        unfold RdP at hr
        rcases h2 : opR bs s2 with f | ⟨b, s3⟩ <;> rw [h2] at hr
        · obtain ⟨rfl, k, h⟩ := hr
          have HE : Hid (inR bs s = .error f) := Lib.hid (by unfold inR; rw [bind_ok H1.out, bind_ok H2.out, bind_err h2])
          have HF := Lib.hid ((h.turn (a' := sepT (blkT w1.heap.size 117 #[.int .i64 n, .int .i64 a, .int .i64 0, .int .i64 0]) (sepT (blkT W.heap.size 117 #[.int .i64 0, .int .i64 0, .int .i64 0, .int .i64 0]) (sepT (crT p bs k) R))) (by ac_rfl)).drop.drop)
          clear h h2
          go_wp2_with fail
          refine ⟨rfl, ?_⟩
          rw [HE.out]
          exact ⟨rfl, _, HF.out⟩
        · obtain ⟨rfl, h⟩ := hr
          have HN := Lib.hid h2
          have h3 := h.turn (a' := (sepT (blkT w1.heap.size 117 #[.int .i64 n, .int .i64 a, .int .i64 0, .int .i64 0]) (sepT (crT p bs s3) (sepT (blkT W.heap.size 117 #[.int .i64 0, .int .i64 0, .int .i64 0, .int .i64 0]) R)))) (by ac_rfl)
          have e0 := h3.blk.1.cell 2
          have f0 := h3.blk.1.frozen 2
          simp at e0
          have HF := Lib.hid (h3.setBlk 2 (.int .i64 b))
          clear h h2 h3
          go_wp2_with fail
          go_roundw
          case rel => exact .inr (.inr (.inl ⟨a, b, s2, s3, rfl, H2.out, HN.out, HF.out.turn (by ac_rfl)⟩))
          case measure => simp [intOf]
      · have HC := Lib.hid (rop_any (R := sepT (blkT w1.heap.size 117 #[.int .i64 n, .int .i64 a, .int .i64 b, .int .i64 0]) (sepT (blkT W.heap.size 117 #[.int .i64 0, .int .i64 0, .int .i64 0, .int .i64 0]) R)) (opR_ok hb).2 hh)
        have H2 := Lib.hid ha
        have H3 := Lib.hid hb
        clear hh ha hb
        go_wp2_with fail
        refine HC.out.mono ?_
        intro e w2 hr
        clear HC
        unfold RdP at hr
        rcases h2 : opR bs s3 with f | ⟨c, s4⟩ <;> rw [h2] at hr
        · obtain ⟨rfl, k, h⟩ := hr
          have HE : Hid (inR bs s = .error f) := Lib.hid (by unfold inR; rw [bind_ok H1.out, bind_ok H2.out, bind_ok H3.out, bind_err h2])
          have HF := Lib.hid ((h.turn (a' := sepT (blkT w1.heap.size 117 #[.int .i64 n, .int .i64 a, .int .i64 b, .int .i64 0]) (sepT (blkT W.heap.size 117 #[.int .i64 0, .int .i64 0, .int .i64 0, .int .i64 0]) (sepT (crT p bs k) R))) (by ac_rfl)).drop.drop)
          clear h h2
          go_wp2_with fail
          refine ⟨rfl, ?_⟩
          rw [HE.out]
          exact ⟨rfl, _, HF.out⟩
        · obtain ⟨rfl, h⟩ := hr
          have HN := Lib.hid h2
          have h3 := h.turn (a' := (sepT (blkT w1.heap.size 117 #[.int .i64 n, .int .i64 a, .int .i64 b, .int .i64 0]) (sepT (crT p bs s4) (sepT (blkT W.heap.size 117 #[.int .i64 0, .int .i64 0, .int .i64 0, .int .i64 0]) R)))) (by ac_rfl)
          have e0 := h3.blk.1.cell 3
          have f0 := h3.blk.1.frozen 3
          simp at e0
          have HF := Lib.hid (h3.setBlk 3 (.int .i64 c))
          clear h h2 h3
          go_wp2_with fail
          go_roundw
          case rel => exact .inr (.inr (.inr ⟨a, b, c, s2, s3, s4, rfl, H2.out, H3.out, HN.out, HF.out.turn (by ac_rfl)⟩))
          case measure => simp [intOf]
      · have HE : Hid (inR bs s = .ok (⟨n, a, b, c⟩, s4)) := Lib.hid (by unfold inR; rw [bind_ok H1.out, bind_ok ha, bind_ok hb, bind_ok hc]; rfl)
        have HZ2 := Lib.hid (And.intro (opR_ok ha).1 (And.intro (opR_ok hb).1 (opR_ok hc)))
        have h3 := hh.turn (a' := (sepT (blkT w1.heap.size 117 #[.int .i64 n, .int .i64 a, .int .i64 b, .int .i64 c]) (sepT (crT p bs s4) (sepT (blkT W.heap.size 117 #[.int .i64 0, .int .i64 0, .int .i64 0, .int .i64 0]) R)))) (by ac_rfl)
        have hx := h3.blk.1
        have e0 := hx.cell 0
        have e1 := hx.cell 1
        have e2 := hx.cell 2
        have e3 := hx.cell 3
        have h4 := h3.turn (a' := sepT (blkT W.heap.size 117 #[.int .i64 0, .int .i64 0, .int .i64 0, .int .i64 0]) (sepT (blkT w1.heap.size 117 #[.int .i64 n, .int .i64 a, .int .i64 b, .int .i64 c]) (sepT (crT p bs s4) R))) (by ac_rfl)
        have hy := h4.blk.1
        have g0 := hy.cell 0
        have g1 := hy.cell 1
        have g2 := hy.cell 2
        have g3 := hy.cell 3
        have f0 := hy.frozen 0
        have f1 := hy.frozen 1
        have f2 := hy.frozen 2
        have f3 := hy.frozen 3
        simp at e0 e1 e2 e3 g0 g1 g2 g3
        have HF : Hid (Lies N w0 _ (sepT (blkT W.heap.size 117 #[.int .i64 n, .int .i64 a, .int .i64 b, .int .i64 c]) (sepT (blkT w1.heap.size 117 #[.int .i64 n, .int .i64 a, .int .i64 b, .int .i64 c]) (sepT (crT p bs s4) R)))) := Lib.hid ((((h4.setBlk 0 (.int .i64 n)).setBlk 1 (.int .i64 a)).setBlk 2 (.int .i64 b)).setBlk 3 (.int .i64 c))
        clear hh ha hb hc h3 h4 hx hy
        go_wp2_with fail
        refine bodyPost_ret (results_cell_row rfl _ _ W.heap.size 117 #[.int .i64 n, .int .i64 a, .int .i64 b, .int .i64 c] (0, 0) _ rfl HF.out.blk.1 Tryz.underlying117 rfl (by kernel_rfl)) rfl ?_
        rw [HE.out]
        exact ⟨HZ2.out.2.2.2, [.int .i64 n, .int .i64 a, .int .i64 b, .int .i64 c], rfl, (in_in (x := ⟨n, a, b, c⟩) ⟨HZ.out, HZ2.out.1, HZ2.out.2.1, HZ2.out.2.2.1⟩ HF.out.drop.drop).turn (by ac_rfl)⟩
end
end Go.Proofs.YtcapdmicekialaaGreat
/- codec.reader: method, class, site, function. Printed by gen_rd.py. -/
namespace Go.Proofs.YtcapdmicekialaaGreat
open Go.RowKit
set_option linter.unusedVariables false
set_option linter.unusedSimpArgs false
attribute [local go_sem] Oper.semAt_some run_store_func run_store_nilFunc
section
variable {N : Nat} {w0 W : World} {R M : Thing} {p : Nat} {bs : List UInt8} {s : RS}
theorem sg_in {x : Sg} {A : Option Addr} {c : Nat} (h1 : sz x.name) (h2 : sz x.result) (H : Lies N w0 W (sepT (vrT.slT 140 (.slice A x.params.length c) x.params) R)) : Lies N w0 W (sepT (sgT.el [.string x.name, .slice A x.params.length c, .string x.result] x) R) := by
  refine Lies.intro (.slice A x.params.length c) ?_
  rw [factT_true ⟨rfl, h1, h2⟩, empT_sep]
  exact H
theorem cl_in {x : Cl} {A B : Option Addr} {c d : Nat} (h1 : sz x.name) (h2 : sz x.super) (H : Lies N w0 W (sepT (vrT.slT 140 (.slice A x.fields.length c) x.fields) (sepT (sgT.slT 120 (.slice B x.methods.length d) x.methods) R))) : Lies N w0 W (sepT (clT.el [.string x.name, .string x.super, .slice A x.fields.length c, .slice B x.methods.length d] x) R) := by
  refine Lies.intro (.slice A x.fields.length c, .slice B x.methods.length d) ?_
  rw [factT_true ⟨rfl, h1, h2⟩, empT_sep]
  exact H.turn (by ac_rfl)
theorem fu_in {x : Fu} {A B : Option Addr} {c d : Nat} (h1 : sz x.cls) (h2 : sz x.name) (H : Lies N w0 W (sepT (txT.slT 9 (.slice A x.locals.length c) x.locals) (sepT (inT.slT 117 (.slice B x.code.length d) x.code) R))) : Lies N w0 W (sepT (fuT.el [.string x.cls, .string x.name, .slice A x.locals.length c, .slice B x.code.length d] x) R) := by
  refine Lies.intro (.slice A x.locals.length c, .slice B x.code.length d) ?_
  rw [factT_true ⟨rfl, h1, h2⟩, empT_sep]
  exact H.turn (by ac_rfl)
theorem st_in {x : St} (h1 : iz x.what) (h2 : sz x.src) (h3 : sz x.dst) (H : Lies N w0 W R) : Lies N w0 W (sepT (stT.el [.int .i64 x.what, .string x.src, .string x.dst] x) R) :=
  H.withFact ⟨rfl, h1, h2, h3⟩
set_option maxRecDepth 100000 in
set_option maxHeartbeats 1600000 in
theorem rmeth_any (hs : s.2.1 = 0) (H : Lies N w0 W (sepT (crT p bs s) R)) : Calls Tryz.prog 105 #[.pointer (some ⟨p, 0, none⟩)] W (RdT N w0 R p bs sgT.el (sgR bs s)) := by
  have HC := Lib.hid (rword_any ((H.newBlk 120 #[.string ⟨#[]⟩, .slice none 0 0, .string ⟨#[]⟩]).turn (a' := (sepT (crT p bs s) (sepT (blkT W.heap.size 120 #[.string ⟨#[]⟩, .slice none 0 0, .string ⟨#[]⟩]) R))) (by ac_rfl)))
  have hmf : ∀ fn first cap (w : World), (Instr.makeFunc fn first cap).run Tryz.prog w = .ok (.func fn first cap) w := fun _ _ _ _ => rfl
  clear H hs
  go_enter Tryz.func105, Tryz.ntmps105
  go_wp2_with fail
  refine HC.out.mono ?_
  intro e w1 hr
  clear HC
  unfold RdP at hr
  rcases h1 : wordR bs s with f | ⟨a1, s1⟩ <;> rw [h1] at hr
  · obtain ⟨rfl, k, h⟩ := hr
    have HE : Hid (sgR bs s = .error f) := Lib.hid (by unfold sgR; rw [bind_err h1])
    have HF := Lib.hid (h.turn (a' := (sepT (blkT W.heap.size 120 #[.string ⟨#[]⟩, .slice none 0 0, .string ⟨#[]⟩]) (sepT (crT p bs k) R))) (by ac_rfl)).drop
    clear h h1
    go_wp2_with fail
    refine ⟨rfl, ?_⟩
    rw [HE.out]
    exact ⟨rfl, _, HF.out⟩
  · have H1 := Lib.hid h1
    obtain ⟨rfl, h⟩ := hr
    have HZ1 := Lib.hid (wordR_ok h1)
    have hlt := (h.turn (a' := (sepT (blkT W.heap.size 120 #[.string ⟨#[]⟩, .slice none 0 0, .string ⟨#[]⟩]) (sepT (crT p bs s1) R))) (by ac_rfl)).blk.1.lt
    have hne1 : ¬ w1.heap.size = W.heap.size := by omega
    have hne2 : ¬ W.heap.size = w1.heap.size := by omega
    clear hlt
    have hn := h.newBlk 120 #[.string a1, .slice none 0 0, .string ⟨#[]⟩]
    have HC := Lib.hid (listVr_any 103 (vrR bs) 8 (by decide) (fun _ _ => rfl) (fun W' s' R' _ h => rvar_any h) (HZ1.out.2) (hn.turn (a' := (sepT (crT p bs s1) (sepT (blkT W.heap.size 120 #[.string ⟨#[]⟩, .slice none 0 0, .string ⟨#[]⟩]) (sepT (blkT w1.heap.size 120 #[.string a1, .slice none 0 0, .string ⟨#[]⟩]) R)))) (by ac_rfl)))
    clear h h1 hn
    go_wp2_with fail
    refine HC.out.mono ?_
    intro e w2 hr
    clear HC
    unfold RdS at hr
    rcases h1 : listR bs 8 (vrR bs) s1 with f | ⟨l2, s2⟩ <;> rw [h1] at hr
    · obtain ⟨rfl, k, h⟩ := hr
      have HE : Hid (sgR bs s = .error f) := Lib.hid (by unfold sgR; rw [bind_ok H1.out, bind_err h1])
      have HF := Lib.hid (h.turn (a' := (sepT (blkT W.heap.size 120 #[.string ⟨#[]⟩, .slice none 0 0, .string ⟨#[]⟩]) (sepT (blkT w1.heap.size 120 #[.string a1, .slice none 0 0, .string ⟨#[]⟩]) (sepT (crT p bs k) R)))) (by ac_rfl)).drop.drop
      clear h h1
      go_wp2_with fail
      refine ⟨rfl, ?_⟩
      rw [HE.out]
      exact ⟨rfl, _, HF.out⟩
    · have H2 := Lib.hid h1
      obtain ⟨h02, A2, c2, rfl, h⟩ := hr
      have hbe := (h.turn (a' := (sepT (blkT w1.heap.size 120 #[.string a1, .slice none 0 0, .string ⟨#[]⟩]) (sepT (crT p bs s2) (sepT (blkT W.heap.size 120 #[.string ⟨#[]⟩, .slice none 0 0, .string ⟨#[]⟩]) (sepT (vrT.slT 140 (.slice A2 l2.length c2) l2) R))))) (by ac_rfl)).blk.1
      have e0 := hbe.cell 0
      have ef0 := hbe.frozen 0
      have e1 := hbe.cell 1
      have ef1 := hbe.frozen 1
      have e2 := hbe.cell 2
      have ef2 := hbe.frozen 2
      simp at e0 e1 e2
      clear hbe
      have HC := Lib.hid (rword_any ((h.turn (a' := (sepT (blkT w1.heap.size 120 #[.string a1, .slice none 0 0, .string ⟨#[]⟩]) (sepT (crT p bs s2) (sepT (blkT W.heap.size 120 #[.string ⟨#[]⟩, .slice none 0 0, .string ⟨#[]⟩]) (sepT (vrT.slT 140 (.slice A2 l2.length c2) l2) R))))) (by ac_rfl)).setBlk 1 (.slice A2 l2.length c2) |>.turn (a' := (sepT (crT p bs s2) (sepT (blkT W.heap.size 120 #[.string ⟨#[]⟩, .slice none 0 0, .string ⟨#[]⟩]) (sepT (blkT w1.heap.size 120 #[.string a1, .slice A2 l2.length c2, .string ⟨#[]⟩]) (sepT (vrT.slT 140 (.slice A2 l2.length c2) l2) R))))) (by ac_rfl)))
      clear h h1 h02
      go_wp2_with fail
      refine HC.out.mono ?_
      intro e w3 hr
      clear HC e0 e1 e2 ef0 ef1 ef2
      unfold RdP at hr
      rcases h1 : wordR bs s2 with f | ⟨a3, s3⟩ <;> rw [h1] at hr
      · obtain ⟨rfl, k, h⟩ := hr
        have HE : Hid (sgR bs s = .error f) := Lib.hid (by unfold sgR; rw [bind_ok H1.out, bind_ok H2.out, bind_err h1])
        have HF := Lib.hid (h.turn (a' := (sepT (blkT W.heap.size 120 #[.string ⟨#[]⟩, .slice none 0 0, .string ⟨#[]⟩]) (sepT (blkT w1.heap.size 120 #[.string a1, .slice A2 l2.length c2, .string ⟨#[]⟩]) (sepT (vrT.slT 140 (.slice A2 l2.length c2) l2) (sepT (crT p bs k) R))))) (by ac_rfl)).drop.drop.drop
        clear h h1
        go_wp2_with fail
        refine ⟨rfl, ?_⟩
        rw [HE.out]
        exact ⟨rfl, _, HF.out⟩
      · have H3 := Lib.hid h1
        obtain ⟨rfl, h⟩ := hr
        have HZ3 := Lib.hid (wordR_ok h1)
        have hbe := (h.turn (a' := (sepT (blkT w1.heap.size 120 #[.string a1, .slice A2 l2.length c2, .string ⟨#[]⟩]) (sepT (crT p bs s3) (sepT (blkT W.heap.size 120 #[.string ⟨#[]⟩, .slice none 0 0, .string ⟨#[]⟩]) (sepT (vrT.slT 140 (.slice A2 l2.length c2) l2) R))))) (by ac_rfl)).blk.1
        have e0 := hbe.cell 0
        have ef0 := hbe.frozen 0
        have e1 := hbe.cell 1
        have ef1 := hbe.frozen 1
        have e2 := hbe.cell 2
        have ef2 := hbe.frozen 2
        simp at e0 e1 e2
        clear hbe
        have hbg := (h.turn (a' := (sepT (blkT W.heap.size 120 #[.string ⟨#[]⟩, .slice none 0 0, .string ⟨#[]⟩]) (sepT (crT p bs s3) (sepT (blkT w1.heap.size 120 #[.string a1, .slice A2 l2.length c2, .string ⟨#[]⟩]) (sepT (vrT.slT 140 (.slice A2 l2.length c2) l2) R))))) (by ac_rfl)).blk.1
        have g0 := hbg.cell 0
        have gf0 := hbg.frozen 0
        have g1 := hbg.cell 1
        have gf1 := hbg.frozen 1
        have g2 := hbg.cell 2
        have gf2 := hbg.frozen 2
        simp at g0 g1 g2
        clear hbg
        have HE : Hid (sgR bs s = .ok (⟨a1, l2, a3⟩, s3)) := Lib.hid (by unfold sgR; rw [bind_ok H1.out, bind_ok H2.out, bind_ok H3.out]; rfl)
        have h3 := (h.turn (a' := (sepT (blkT w1.heap.size 120 #[.string a1, .slice A2 l2.length c2, .string ⟨#[]⟩]) (sepT (crT p bs s3) (sepT (blkT W.heap.size 120 #[.string ⟨#[]⟩, .slice none 0 0, .string ⟨#[]⟩]) (sepT (vrT.slT 140 (.slice A2 l2.length c2) l2) R))))) (by ac_rfl)).setBlk 2 (.string a3)
        have HF : Hid (Lies N w0 _ (sepT (blkT W.heap.size 120 #[.string a1, .slice A2 l2.length c2, .string a3]) (sepT (crT p bs s3) (sepT (blkT w1.heap.size 120 #[.string a1, .slice A2 l2.length c2, .string a3]) (sepT (vrT.slT 140 (.slice A2 l2.length c2) l2) R))))) := Lib.hid ((((h3.turn (a' := (sepT (blkT W.heap.size 120 #[.string ⟨#[]⟩, .slice none 0 0, .string ⟨#[]⟩]) (sepT (crT p bs s3) (sepT (blkT w1.heap.size 120 #[.string a1, .slice A2 l2.length c2, .string a3]) (sepT (vrT.slT 140 (.slice A2 l2.length c2) l2) R))))) (by ac_rfl)).setBlk 0 (.string a1)).setBlk 1 (.slice A2 l2.length c2)).setBlk 2 (.string a3))
        clear h h1 h3
        go_wp2_with fail
        refine bodyPost_ret (results_cell_row rfl _ _ W.heap.size 120 #[.string a1, .slice A2 l2.length c2, .string a3] (0, 0) _ rfl HF.out.blk.1 Tryz.underlying120 rfl (by kernel_rfl)) rfl ?_
        rw [HE.out]
        have hd := (HF.out.drop.turn (a' := (sepT (blkT w1.heap.size 120 #[.string a1, .slice A2 l2.length c2, .string a3]) (sepT (vrT.slT 140 (.slice A2 l2.length c2) l2) (sepT (crT p bs s3) R)))) (by ac_rfl)).drop
        exact ⟨HZ3.out.2, [.string a1, .slice A2 l2.length c2, .string a3], rfl, (sg_in (x := ⟨a1, l2, a3⟩) HZ1.out.1 HZ3.out.1 hd).turn (by ac_rfl)⟩
set_option maxRecDepth 100000 in
set_option maxHeartbeats 1600000 in
theorem rcls_any (hs : s.2.1 = 0) (H : Lies N w0 W (sepT (crT p bs s) R)) : Calls Tryz.prog 50 #[.pointer (some ⟨p, 0, none⟩)] W (RdT N w0 R p bs clT.el (clR bs s)) := by
  have HC := Lib.hid (rword_any ((H.newBlk 66 #[.string ⟨#[]⟩, .string ⟨#[]⟩, .slice none 0 0, .slice none 0 0]).turn (a' := (sepT (crT p bs s) (sepT (blkT W.heap.size 66 #[.string ⟨#[]⟩, .string ⟨#[]⟩, .slice none 0 0, .slice none 0 0]) R))) (by ac_rfl)))
  have hmf : ∀ fn first cap (w : World), (Instr.makeFunc fn first cap).run Tryz.prog w = .ok (.func fn first cap) w := fun _ _ _ _ => rfl
  clear H hs
  go_enter Tryz.func50, Tryz.ntmps50
  go_wp2_with fail
  refine HC.out.mono ?_
  intro e w1 hr
  clear HC
  unfold RdP at hr
  rcases h1 : wordR bs s with f | ⟨a1, s1⟩ <;> rw [h1] at hr
  · obtain ⟨rfl, k, h⟩ := hr
    have HE : Hid (clR bs s = .error f) := Lib.hid (by unfold clR; rw [bind_err h1])
    have HF := Lib.hid (h.turn (a' := (sepT (blkT W.heap.size 66 #[.string ⟨#[]⟩, .string ⟨#[]⟩, .slice none 0 0, .slice none 0 0]) (sepT (crT p bs k) R))) (by ac_rfl)).drop
    clear h h1
    go_wp2_with fail
    refine ⟨rfl, ?_⟩
    rw [HE.out]
    exact ⟨rfl, _, HF.out⟩
  · have H1 := Lib.hid h1
    obtain ⟨rfl, h⟩ := hr
    have HZ1 := Lib.hid (wordR_ok h1)
    have hlt := (h.turn (a' := (sepT (blkT W.heap.size 66 #[.string ⟨#[]⟩, .string ⟨#[]⟩, .slice none 0 0, .slice none 0 0]) (sepT (crT p bs s1) R))) (by ac_rfl)).blk.1.lt
    have hne1 : ¬ w1.heap.size = W.heap.size := by omega
    have hne2 : ¬ W.heap.size = w1.heap.size := by omega
    clear hlt
    have hn := h.newBlk 66 #[.string a1, .string ⟨#[]⟩, .slice none 0 0, .slice none 0 0]
    have HC := Lib.hid (rword_any (hn.turn (a' := (sepT (crT p bs s1) (sepT (blkT W.heap.size 66 #[.string ⟨#[]⟩, .string ⟨#[]⟩, .slice none 0 0, .slice none 0 0]) (sepT (blkT w1.heap.size 66 #[.string a1, .string ⟨#[]⟩, .slice none 0 0, .slice none 0 0]) R)))) (by ac_rfl)))
    clear h h1 hn
    go_wp2_with fail
    refine HC.out.mono ?_
    intro e w2 hr
    clear HC
    unfold RdP at hr
    rcases h1 : wordR bs s1 with f | ⟨a2, s2⟩ <;> rw [h1] at hr
    · obtain ⟨rfl, k, h⟩ := hr
      have HE : Hid (clR bs s = .error f) := Lib.hid (by unfold clR; rw [bind_ok H1.out, bind_err h1])
      have HF := Lib.hid (h.turn (a' := (sepT (blkT W.heap.size 66 #[.string ⟨#[]⟩, .string ⟨#[]⟩, .slice none 0 0, .slice none 0 0]) (sepT (blkT w1.heap.size 66 #[.string a1, .string ⟨#[]⟩, .slice none 0 0, .slice none 0 0]) (sepT (crT p bs k) R)))) (by ac_rfl)).drop.drop
      clear h h1
      go_wp2_with fail
      refine ⟨rfl, ?_⟩
      rw [HE.out]
      exact ⟨rfl, _, HF.out⟩
    · have H2 := Lib.hid h1
      obtain ⟨rfl, h⟩ := hr
      have HZ2 := Lib.hid (wordR_ok h1)
      have hbe := (h.turn (a' := (sepT (blkT w1.heap.size 66 #[.string a1, .string ⟨#[]⟩, .slice none 0 0, .slice none 0 0]) (sepT (crT p bs s2) (sepT (blkT W.heap.size 66 #[.string ⟨#[]⟩, .string ⟨#[]⟩, .slice none 0 0, .slice none 0 0]) R)))) (by ac_rfl)).blk.1
      have e0 := hbe.cell 0
      have ef0 := hbe.frozen 0
      have e1 := hbe.cell 1
      have ef1 := hbe.frozen 1
      have e2 := hbe.cell 2
      have ef2 := hbe.frozen 2
      have e3 := hbe.cell 3
      have ef3 := hbe.frozen 3
      simp at e0 e1 e2 e3
      clear hbe
      have hn := (h.turn (a' := (sepT (blkT w1.heap.size 66 #[.string a1, .string ⟨#[]⟩, .slice none 0 0, .slice none 0 0]) (sepT (crT p bs s2) (sepT (blkT W.heap.size 66 #[.string ⟨#[]⟩, .string ⟨#[]⟩, .slice none 0 0, .slice none 0 0]) R)))) (by ac_rfl)).setBlk 1 (.string a2)
      have HC := Lib.hid (listVr_any 103 (vrR bs) 20 (by decide) (fun _ _ => rfl) (fun W' s' R' _ h => rvar_any h) (HZ2.out.2) (hn.turn (a' := (sepT (crT p bs s2) (sepT (blkT W.heap.size 66 #[.string ⟨#[]⟩, .string ⟨#[]⟩, .slice none 0 0, .slice none 0 0]) (sepT (blkT w1.heap.size 66 #[.string a1, .string a2, .slice none 0 0, .slice none 0 0]) R)))) (by ac_rfl)))
      clear h h1 hn
      go_wp2_with fail
      refine HC.out.mono ?_
      intro e w3 hr
      clear HC e0 e1 e2 e3 ef0 ef1 ef2 ef3
      unfold RdS at hr
      rcases h1 : listR bs 20 (vrR bs) s2 with f | ⟨l3, s3⟩ <;> rw [h1] at hr
      · obtain ⟨rfl, k, h⟩ := hr
        have HE : Hid (clR bs s = .error f) := Lib.hid (by unfold clR; rw [bind_ok H1.out, bind_ok H2.out, bind_err h1])
        have HF := Lib.hid (h.turn (a' := (sepT (blkT W.heap.size 66 #[.string ⟨#[]⟩, .string ⟨#[]⟩, .slice none 0 0, .slice none 0 0]) (sepT (blkT w1.heap.size 66 #[.string a1, .string a2, .slice none 0 0, .slice none 0 0]) (sepT (crT p bs k) R)))) (by ac_rfl)).drop.drop
        clear h h1
        go_wp2_with fail
        refine ⟨rfl, ?_⟩
        rw [HE.out]
        exact ⟨rfl, _, HF.out⟩
      · have H3 := Lib.hid h1
        obtain ⟨h03, A3, c3, rfl, h⟩ := hr
        have HZ3 := Lib.hid h03
        have hbe := (h.turn (a' := (sepT (blkT w1.heap.size 66 #[.string a1, .string a2, .slice none 0 0, .slice none 0 0]) (sepT (crT p bs s3) (sepT (blkT W.heap.size 66 #[.string ⟨#[]⟩, .string ⟨#[]⟩, .slice none 0 0, .slice none 0 0]) (sepT (vrT.slT 140 (.slice A3 l3.length c3) l3) R))))) (by ac_rfl)).blk.1
        have e0 := hbe.cell 0
        have ef0 := hbe.frozen 0
        have e1 := hbe.cell 1
        have ef1 := hbe.frozen 1
        have e2 := hbe.cell 2
        have ef2 := hbe.frozen 2
        have e3 := hbe.cell 3
        have ef3 := hbe.frozen 3
        simp at e0 e1 e2 e3
        clear hbe
        have hn := (h.turn (a' := (sepT (blkT w1.heap.size 66 #[.string a1, .string a2, .slice none 0 0, .slice none 0 0]) (sepT (crT p bs s3) (sepT (blkT W.heap.size 66 #[.string ⟨#[]⟩, .string ⟨#[]⟩, .slice none 0 0, .slice none 0 0]) (sepT (vrT.slT 140 (.slice A3 l3.length c3) l3) R))))) (by ac_rfl)).setBlk 2 (.slice A3 l3.length c3)
        clear h03
        have HC := Lib.hid (listSg_any 105 (sgR bs) 20 (by decide) (fun _ _ => rfl) (fun W' s' R' h0 h => rmeth_any h0 h) (HZ3.out) (hn.turn (a' := (sepT (crT p bs s3) (sepT (blkT W.heap.size 66 #[.string ⟨#[]⟩, .string ⟨#[]⟩, .slice none 0 0, .slice none 0 0]) (sepT (blkT w1.heap.size 66 #[.string a1, .string a2, .slice A3 l3.length c3, .slice none 0 0]) (sepT (vrT.slT 140 (.slice A3 l3.length c3) l3) R))))) (by ac_rfl)))
        clear h h1 hn
        go_wp2_with fail
        refine HC.out.mono ?_
        intro e w4 hr
        clear HC e0 e1 e2 e3 ef0 ef1 ef2 ef3
        unfold RdS at hr
        rcases h1 : listR bs 20 (sgR bs) s3 with f | ⟨l4, s4⟩ <;> rw [h1] at hr
        · obtain ⟨rfl, k, h⟩ := hr
          have HE : Hid (clR bs s = .error f) := Lib.hid (by unfold clR; rw [bind_ok H1.out, bind_ok H2.out, bind_ok H3.out, bind_err h1])
          have HF := Lib.hid (h.turn (a' := (sepT (blkT W.heap.size 66 #[.string ⟨#[]⟩, .string ⟨#[]⟩, .slice none 0 0, .slice none 0 0]) (sepT (blkT w1.heap.size 66 #[.string a1, .string a2, .slice A3 l3.length c3, .slice none 0 0]) (sepT (vrT.slT 140 (.slice A3 l3.length c3) l3) (sepT (crT p bs k) R))))) (by ac_rfl)).drop.drop.drop
          clear h h1
          go_wp2_with fail
          refine ⟨rfl, ?_⟩
          rw [HE.out]
          exact ⟨rfl, _, HF.out⟩
        · have H4 := Lib.hid h1
          obtain ⟨h04, A4, c4, rfl, h⟩ := hr
          have HZ4 := Lib.hid h04
          clear h04
          have hbe := (h.turn (a' := (sepT (blkT w1.heap.size 66 #[.string a1, .string a2, .slice A3 l3.length c3, .slice none 0 0]) (sepT (crT p bs s4) (sepT (blkT W.heap.size 66 #[.string ⟨#[]⟩, .string ⟨#[]⟩, .slice none 0 0, .slice none 0 0]) (sepT (vrT.slT 140 (.slice A3 l3.length c3) l3) (sepT (sgT.slT 120 (.slice A4 l4.length c4) l4) R)))))) (by ac_rfl)).blk.1
          have e0 := hbe.cell 0
          have ef0 := hbe.frozen 0
          have e1 := hbe.cell 1
          have ef1 := hbe.frozen 1
          have e2 := hbe.cell 2
          have ef2 := hbe.frozen 2
          have e3 := hbe.cell 3
          have ef3 := hbe.frozen 3
          simp at e0 e1 e2 e3
          clear hbe
          have hbg := (h.turn (a' := (sepT (blkT W.heap.size 66 #[.string ⟨#[]⟩, .string ⟨#[]⟩, .slice none 0 0, .slice none 0 0]) (sepT (crT p bs s4) (sepT (blkT w1.heap.size 66 #[.string a1, .string a2, .slice A3 l3.length c3, .slice none 0 0]) (sepT (vrT.slT 140 (.slice A3 l3.length c3) l3) (sepT (sgT.slT 120 (.slice A4 l4.length c4) l4) R)))))) (by ac_rfl)).blk.1
          have g0 := hbg.cell 0
          have gf0 := hbg.frozen 0
          have g1 := hbg.cell 1
          have gf1 := hbg.frozen 1
          have g2 := hbg.cell 2
          have gf2 := hbg.frozen 2
          have g3 := hbg.cell 3
          have gf3 := hbg.frozen 3
          simp at g0 g1 g2 g3
          clear hbg
          have HE : Hid (clR bs s = .ok (⟨a1, a2, l3, l4⟩, s4)) := Lib.hid (by unfold clR; rw [bind_ok H1.out, bind_ok H2.out, bind_ok H3.out, bind_ok H4.out]; rfl)
          have h3 := (h.turn (a' := (sepT (blkT w1.heap.size 66 #[.string a1, .string a2, .slice A3 l3.length c3, .slice none 0 0]) (sepT (crT p bs s4) (sepT (blkT W.heap.size 66 #[.string ⟨#[]⟩, .string ⟨#[]⟩, .slice none 0 0, .slice none 0 0]) (sepT (vrT.slT 140 (.slice A3 l3.length c3) l3) (sepT (sgT.slT 120 (.slice A4 l4.length c4) l4) R)))))) (by ac_rfl)).setBlk 3 (.slice A4 l4.length c4)
          have HF : Hid (Lies N w0 _ (sepT (blkT W.heap.size 66 #[.string a1, .string a2, .slice A3 l3.length c3, .slice A4 l4.length c4]) (sepT (crT p bs s4) (sepT (blkT w1.heap.size 66 #[.string a1, .string a2, .slice A3 l3.length c3, .slice A4 l4.length c4]) (sepT (vrT.slT 140 (.slice A3 l3.length c3) l3) (sepT (sgT.slT 120 (.slice A4 l4.length c4) l4) R)))))) := Lib.hid (((((h3.turn (a' := (sepT (blkT W.heap.size 66 #[.string ⟨#[]⟩, .string ⟨#[]⟩, .slice none 0 0, .slice none 0 0]) (sepT (crT p bs s4) (sepT (blkT w1.heap.size 66 #[.string a1, .string a2, .slice A3 l3.length c3, .slice A4 l4.length c4]) (sepT (vrT.slT 140 (.slice A3 l3.length c3) l3) (sepT (sgT.slT 120 (.slice A4 l4.length c4) l4) R)))))) (by ac_rfl)).setBlk 0 (.string a1)).setBlk 1 (.string a2)).setBlk 2 (.slice A3 l3.length c3)).setBlk 3 (.slice A4 l4.length c4))
          clear h h1 h3
          go_wp2_with fail
          refine bodyPost_ret (results_cell_row rfl _ _ W.heap.size 66 #[.string a1, .string a2, .slice A3 l3.length c3, .slice A4 l4.length c4] (0, 0) _ rfl HF.out.blk.1 Tryz.underlying66 rfl (by kernel_rfl)) rfl ?_
          rw [HE.out]
          have hd := (HF.out.drop.turn (a' := (sepT (blkT w1.heap.size 66 #[.string a1, .string a2, .slice A3 l3.length c3, .slice A4 l4.length c4]) (sepT (vrT.slT 140 (.slice A3 l3.length c3) l3) (sepT (sgT.slT 120 (.slice A4 l4.length c4) l4) (sepT (crT p bs s4) R))))) (by ac_rfl)).drop
          exact ⟨HZ4.out, [.string a1, .string a2, .slice A3 l3.length c3, .slice A4 l4.length c4], rfl, (cl_in (x := ⟨a1, a2, l3, l4⟩) HZ1.out.1 HZ2.out.1 hd).turn (by ac_rfl)⟩
set_option maxRecDepth 100000 in
set_option maxHeartbeats 1600000 in
theorem rfun_any (hs : s.2.1 = 0) (H : Lies N w0 W (sepT (crT p bs s) R)) : Calls Tryz.prog 56 #[.pointer (some ⟨p, 0, none⟩)] W (RdT N w0 R p bs fuT.el (fuR bs s)) := by
  have HC := Lib.hid (rword_any ((H.newBlk 48 #[.string ⟨#[]⟩, .string ⟨#[]⟩, .slice none 0 0, .slice none 0 0]).turn (a' := (sepT (crT p bs s) (sepT (blkT W.heap.size 48 #[.string ⟨#[]⟩, .string ⟨#[]⟩, .slice none 0 0, .slice none 0 0]) R))) (by ac_rfl)))
  have hmf : ∀ fn first cap (w : World), (Instr.makeFunc fn first cap).run Tryz.prog w = .ok (.func fn first cap) w := fun _ _ _ _ => rfl
  clear H hs
  go_enter Tryz.func56, Tryz.ntmps56
  go_wp2_with fail
  refine HC.out.mono ?_
  intro e w1 hr
  clear HC
  unfold RdP at hr
  rcases h1 : wordR bs s with f | ⟨a1, s1⟩ <;> rw [h1] at hr
  · obtain ⟨rfl, k, h⟩ := hr
    have HE : Hid (fuR bs s = .error f) := Lib.hid (by unfold fuR; rw [bind_err h1])
    have HF := Lib.hid (h.turn (a' := (sepT (blkT W.heap.size 48 #[.string ⟨#[]⟩, .string ⟨#[]⟩, .slice none 0 0, .slice none 0 0]) (sepT (crT p bs k) R))) (by ac_rfl)).drop
    clear h h1
    go_wp2_with fail
    refine ⟨rfl, ?_⟩
    rw [HE.out]
    exact ⟨rfl, _, HF.out⟩
  · have H1 := Lib.hid h1
    obtain ⟨rfl, h⟩ := hr
    have HZ1 := Lib.hid (wordR_ok h1)
    have hlt := (h.turn (a' := (sepT (blkT W.heap.size 48 #[.string ⟨#[]⟩, .string ⟨#[]⟩, .slice none 0 0, .slice none 0 0]) (sepT (crT p bs s1) R))) (by ac_rfl)).blk.1.lt
    have hne1 : ¬ w1.heap.size = W.heap.size := by omega
    have hne2 : ¬ W.heap.size = w1.heap.size := by omega
    clear hlt
    have hn := h.newBlk 48 #[.string a1, .string ⟨#[]⟩, .slice none 0 0, .slice none 0 0]
    have HC := Lib.hid (rword_any (hn.turn (a' := (sepT (crT p bs s1) (sepT (blkT W.heap.size 48 #[.string ⟨#[]⟩, .string ⟨#[]⟩, .slice none 0 0, .slice none 0 0]) (sepT (blkT w1.heap.size 48 #[.string a1, .string ⟨#[]⟩, .slice none 0 0, .slice none 0 0]) R)))) (by ac_rfl)))
    clear h h1 hn
    go_wp2_with fail
    refine HC.out.mono ?_
    intro e w2 hr
    clear HC
    unfold RdP at hr
    rcases h1 : wordR bs s1 with f | ⟨a2, s2⟩ <;> rw [h1] at hr
    · obtain ⟨rfl, k, h⟩ := hr
      have HE : Hid (fuR bs s = .error f) := Lib.hid (by unfold fuR; rw [bind_ok H1.out, bind_err h1])
      have HF := Lib.hid (h.turn (a' := (sepT (blkT W.heap.size 48 #[.string ⟨#[]⟩, .string ⟨#[]⟩, .slice none 0 0, .slice none 0 0]) (sepT (blkT w1.heap.size 48 #[.string a1, .string ⟨#[]⟩, .slice none 0 0, .slice none 0 0]) (sepT (crT p bs k) R)))) (by ac_rfl)).drop.drop
      clear h h1
      go_wp2_with fail
      refine ⟨rfl, ?_⟩
      rw [HE.out]
      exact ⟨rfl, _, HF.out⟩
    · have H2 := Lib.hid h1
      obtain ⟨rfl, h⟩ := hr
      have HZ2 := Lib.hid (wordR_ok h1)
      have hbe := (h.turn (a' := (sepT (blkT w1.heap.size 48 #[.string a1, .string ⟨#[]⟩, .slice none 0 0, .slice none 0 0]) (sepT (crT p bs s2) (sepT (blkT W.heap.size 48 #[.string ⟨#[]⟩, .string ⟨#[]⟩, .slice none 0 0, .slice none 0 0]) R)))) (by ac_rfl)).blk.1
      have e0 := hbe.cell 0
      have ef0 := hbe.frozen 0
      have e1 := hbe.cell 1
      have ef1 := hbe.frozen 1
      have e2 := hbe.cell 2
      have ef2 := hbe.frozen 2
      have e3 := hbe.cell 3
      have ef3 := hbe.frozen 3
      simp at e0 e1 e2 e3
      clear hbe
      have hn := (h.turn (a' := (sepT (blkT w1.heap.size 48 #[.string a1, .string ⟨#[]⟩, .slice none 0 0, .slice none 0 0]) (sepT (crT p bs s2) (sepT (blkT W.heap.size 48 #[.string ⟨#[]⟩, .string ⟨#[]⟩, .slice none 0 0, .slice none 0 0]) R)))) (by ac_rfl)).setBlk 1 (.string a2)
      have HC := Lib.hid (listTx_any 54 (wordR bs) 200 (by decide) (fun _ _ => rfl) (fun W' s' R' _ h => rword_t h) (HZ2.out.2) (hn.turn (a' := (sepT (crT p bs s2) (sepT (blkT W.heap.size 48 #[.string ⟨#[]⟩, .string ⟨#[]⟩, .slice none 0 0, .slice none 0 0]) (sepT (blkT w1.heap.size 48 #[.string a1, .string a2, .slice none 0 0, .slice none 0 0]) R)))) (by ac_rfl)))
      clear h h1 hn
      go_wp2_with fail
      refine HC.out.mono ?_
      intro e w3 hr
      clear HC e0 e1 e2 e3 ef0 ef1 ef2 ef3
      unfold RdS at hr
      rcases h1 : listR bs 200 (wordR bs) s2 with f | ⟨l3, s3⟩ <;> rw [h1] at hr
      · obtain ⟨rfl, k, h⟩ := hr
        have HE : Hid (fuR bs s = .error f) := Lib.hid (by unfold fuR; rw [bind_ok H1.out, bind_ok H2.out, bind_err h1])
        have HF := Lib.hid (h.turn (a' := (sepT (blkT W.heap.size 48 #[.string ⟨#[]⟩, .string ⟨#[]⟩, .slice none 0 0, .slice none 0 0]) (sepT (blkT w1.heap.size 48 #[.string a1, .string a2, .slice none 0 0, .slice none 0 0]) (sepT (crT p bs k) R)))) (by ac_rfl)).drop.drop
        clear h h1
        go_wp2_with fail
        refine ⟨rfl, ?_⟩
        rw [HE.out]
        exact ⟨rfl, _, HF.out⟩
      · have H3 := Lib.hid h1
        obtain ⟨h03, A3, c3, rfl, h⟩ := hr
        have HZ3 := Lib.hid h03
        have hbe := (h.turn (a' := (sepT (blkT w1.heap.size 48 #[.string a1, .string a2, .slice none 0 0, .slice none 0 0]) (sepT (crT p bs s3) (sepT (blkT W.heap.size 48 #[.string ⟨#[]⟩, .string ⟨#[]⟩, .slice none 0 0, .slice none 0 0]) (sepT (txT.slT 9 (.slice A3 l3.length c3) l3) R))))) (by ac_rfl)).blk.1
        have e0 := hbe.cell 0
        have ef0 := hbe.frozen 0
        have e1 := hbe.cell 1
        have ef1 := hbe.frozen 1
        have e2 := hbe.cell 2
        have ef2 := hbe.frozen 2
        have e3 := hbe.cell 3
        have ef3 := hbe.frozen 3
        simp at e0 e1 e2 e3
        clear hbe
        have hn := (h.turn (a' := (sepT (blkT w1.heap.size 48 #[.string a1, .string a2, .slice none 0 0, .slice none 0 0]) (sepT (crT p bs s3) (sepT (blkT W.heap.size 48 #[.string ⟨#[]⟩, .string ⟨#[]⟩, .slice none 0 0, .slice none 0 0]) (sepT (txT.slT 9 (.slice A3 l3.length c3) l3) R))))) (by ac_rfl)).setBlk 2 (.slice A3 l3.length c3)
        clear h03
        have HC := Lib.hid (listIn_any 109 (inR bs) 20000 (by decide) (fun _ _ => rfl) (fun W' s' R' h0 h => rins_any h0 h) (HZ3.out) (hn.turn (a' := (sepT (crT p bs s3) (sepT (blkT W.heap.size 48 #[.string ⟨#[]⟩, .string ⟨#[]⟩, .slice none 0 0, .slice none 0 0]) (sepT (blkT w1.heap.size 48 #[.string a1, .string a2, .slice A3 l3.length c3, .slice none 0 0]) (sepT (txT.slT 9 (.slice A3 l3.length c3) l3) R))))) (by ac_rfl)))
        clear h h1 hn
        go_wp2_with fail
        refine HC.out.mono ?_
        intro e w4 hr
        clear HC e0 e1 e2 e3 ef0 ef1 ef2 ef3
        unfold RdS at hr
        rcases h1 : listR bs 20000 (inR bs) s3 with f | ⟨l4, s4⟩ <;> rw [h1] at hr
        · obtain ⟨rfl, k, h⟩ := hr
          have HE : Hid (fuR bs s = .error f) := Lib.hid (by unfold fuR; rw [bind_ok H1.out, bind_ok H2.out, bind_ok H3.out, bind_err h1])
          have HF := Lib.hid (h.turn (a' := (sepT (blkT W.heap.size 48 #[.string ⟨#[]⟩, .string ⟨#[]⟩, .slice none 0 0, .slice none 0 0]) (sepT (blkT w1.heap.size 48 #[.string a1, .string a2, .slice A3 l3.length c3, .slice none 0 0]) (sepT (txT.slT 9 (.slice A3 l3.length c3) l3) (sepT (crT p bs k) R))))) (by ac_rfl)).drop.drop.drop
          clear h h1
          go_wp2_with fail
          refine ⟨rfl, ?_⟩
          rw [HE.out]
          exact ⟨rfl, _, HF.out⟩
        · have H4 := Lib.hid h1
          obtain ⟨h04, A4, c4, rfl, h⟩ := hr
          have HZ4 := Lib.hid h04
          clear h04
          have hbe := (h.turn (a' := (sepT (blkT w1.heap.size 48 #[.string a1, .string a2, .slice A3 l3.length c3, .slice none 0 0]) (sepT (crT p bs s4) (sepT (blkT W.heap.size 48 #[.string ⟨#[]⟩, .string ⟨#[]⟩, .slice none 0 0, .slice none 0 0]) (sepT (txT.slT 9 (.slice A3 l3.length c3) l3) (sepT (inT.slT 117 (.slice A4 l4.length c4) l4) R)))))) (by ac_rfl)).blk.1
          have e0 := hbe.cell 0
          have ef0 := hbe.frozen 0
          have e1 := hbe.cell 1
          have ef1 := hbe.frozen 1
          have e2 := hbe.cell 2
          have ef2 := hbe.frozen 2
          have e3 := hbe.cell 3
          have ef3 := hbe.frozen 3
          simp at e0 e1 e2 e3
          clear hbe
          have hbg := (h.turn (a' := (sepT (blkT W.heap.size 48 #[.string ⟨#[]⟩, .string ⟨#[]⟩, .slice none 0 0, .slice none 0 0]) (sepT (crT p bs s4) (sepT (blkT w1.heap.size 48 #[.string a1, .string a2, .slice A3 l3.length c3, .slice none 0 0]) (sepT (txT.slT 9 (.slice A3 l3.length c3) l3) (sepT (inT.slT 117 (.slice A4 l4.length c4) l4) R)))))) (by ac_rfl)).blk.1
          have g0 := hbg.cell 0
          have gf0 := hbg.frozen 0
          have g1 := hbg.cell 1
          have gf1 := hbg.frozen 1
          have g2 := hbg.cell 2
          have gf2 := hbg.frozen 2
          have g3 := hbg.cell 3
          have gf3 := hbg.frozen 3
          simp at g0 g1 g2 g3
          clear hbg
          have HE : Hid (fuR bs s = .ok (⟨a1, a2, l3, l4⟩, s4)) := Lib.hid (by unfold fuR; rw [bind_ok H1.out, bind_ok H2.out, bind_ok H3.out, bind_ok H4.out]; rfl)
          have h3 := (h.turn (a' := (sepT (blkT w1.heap.size 48 #[.string a1, .string a2, .slice A3 l3.length c3, .slice none 0 0]) (sepT (crT p bs s4) (sepT (blkT W.heap.size 48 #[.string ⟨#[]⟩, .string ⟨#[]⟩, .slice none 0 0, .slice none 0 0]) (sepT (txT.slT 9 (.slice A3 l3.length c3) l3) (sepT (inT.slT 117 (.slice A4 l4.length c4) l4) R)))))) (by ac_rfl)).setBlk 3 (.slice A4 l4.length c4)
          have HF : Hid (Lies N w0 _ (sepT (blkT W.heap.size 48 #[.string a1, .string a2, .slice A3 l3.length c3, .slice A4 l4.length c4]) (sepT (crT p bs s4) (sepT (blkT w1.heap.size 48 #[.string a1, .string a2, .slice A3 l3.length c3, .slice A4 l4.length c4]) (sepT (txT.slT 9 (.slice A3 l3.length c3) l3) (sepT (inT.slT 117 (.slice A4 l4.length c4) l4) R)))))) := Lib.hid (((((h3.turn (a' := (sepT (blkT W.heap.size 48 #[.string ⟨#[]⟩, .string ⟨#[]⟩, .slice none 0 0, .slice none 0 0]) (sepT (crT p bs s4) (sepT (blkT w1.heap.size 48 #[.string a1, .string a2, .slice A3 l3.length c3, .slice A4 l4.length c4]) (sepT (txT.slT 9 (.slice A3 l3.length c3) l3) (sepT (inT.slT 117 (.slice A4 l4.length c4) l4) R)))))) (by ac_rfl)).setBlk 0 (.string a1)).setBlk 1 (.string a2)).setBlk 2 (.slice A3 l3.length c3)).setBlk 3 (.slice A4 l4.length c4))
          clear h h1 h3
          go_wp2_with fail
          refine bodyPost_ret (results_cell_row rfl _ _ W.heap.size 48 #[.string a1, .string a2, .slice A3 l3.length c3, .slice A4 l4.length c4] (0, 0) _ rfl HF.out.blk.1 Tryz.underlying48 rfl (by kernel_rfl)) rfl ?_
          rw [HE.out]
          have hd := (HF.out.drop.turn (a' := (sepT (blkT w1.heap.size 48 #[.string a1, .string a2, .slice A3 l3.length c3, .slice A4 l4.length c4]) (sepT (txT.slT 9 (.slice A3 l3.length c3) l3) (sepT (inT.slT 117 (.slice A4 l4.length c4) l4) (sepT (crT p bs s4) R))))) (by ac_rfl)).drop
          exact ⟨HZ4.out, [.string a1, .string a2, .slice A3 l3.length c3, .slice A4 l4.length c4], rfl, (fu_in (x := ⟨a1, a2, l3, l4⟩) HZ1.out.1 HZ2.out.1 hd).turn (by ac_rfl)⟩
set_option maxRecDepth 100000 in
set_option maxHeartbeats 1600000 in
theorem rsite_any (hs : s.2.1 = 0) (H : Lies N w0 W (sepT (crT p bs s) R)) : Calls Tryz.prog 52 #[.pointer (some ⟨p, 0, none⟩)] W (RdT N w0 R p bs stT.el (stR bs s)) := by
  have HC := Lib.hid (rnum_any hs ((H.newBlk 70 #[.int .i64 0, .string ⟨#[]⟩, .string ⟨#[]⟩]).turn (a' := (sepT (crT p bs s) (sepT (blkT W.heap.size 70 #[.int .i64 0, .string ⟨#[]⟩, .string ⟨#[]⟩]) R))) (by ac_rfl)))
  clear H hs
  go_enter Tryz.func52, Tryz.ntmps52
  go_wp2_with fail
  refine HC.out.mono ?_
  intro e w1 hr
  clear HC
  unfold RdP at hr
  rcases h1 : numR bs s with f | ⟨⟨n1, at_⟩, s1⟩ <;> rw [h1] at hr
  · obtain ⟨rfl, k, h⟩ := hr
    have HE : Hid (stR bs s = .error f) := Lib.hid (by unfold stR; rw [bind_err h1])
    have HF := Lib.hid (h.turn (a' := (sepT (blkT W.heap.size 70 #[.int .i64 0, .string ⟨#[]⟩, .string ⟨#[]⟩]) (sepT (crT p bs k) R))) (by ac_rfl)).drop
    clear h h1
    go_wp2_with fail
    refine ⟨rfl, ?_⟩
    rw [HE.out]
    exact ⟨rfl, _, HF.out⟩
  · have H1 := Lib.hid h1
    obtain ⟨rfl, h⟩ := hr
    have HZ1 := Lib.hid (numR_iz h1)
    have HC := Lib.hid (rword_any h)
    clear h h1
    go_wp2_with fail
    refine HC.out.mono ?_
    intro e w2 hr
    clear HC
    unfold RdP at hr
    rcases h1 : wordR bs s1 with f | ⟨a2, s2⟩ <;> rw [h1] at hr
    · obtain ⟨rfl, k, h⟩ := hr
      have HE : Hid (stR bs s = .error f) := Lib.hid (by unfold stR; rw [bind_ok H1.out, bind_err h1])
      have HF := Lib.hid (h.turn (a' := (sepT (blkT W.heap.size 70 #[.int .i64 0, .string ⟨#[]⟩, .string ⟨#[]⟩]) (sepT (crT p bs k) R))) (by ac_rfl)).drop
      clear h h1
      go_wp2_with fail
      refine ⟨rfl, ?_⟩
      rw [HE.out]
      exact ⟨rfl, _, HF.out⟩
    · have H2 := Lib.hid h1
      obtain ⟨rfl, h⟩ := hr
      have HZ2 := Lib.hid (wordR_ok h1)
      have hlt := (h.turn (a' := (sepT (blkT W.heap.size 70 #[.int .i64 0, .string ⟨#[]⟩, .string ⟨#[]⟩]) (sepT (crT p bs s2) R))) (by ac_rfl)).blk.1.lt
      have hne1 : ¬ w2.heap.size = W.heap.size := by omega
      have hne2 : ¬ W.heap.size = w2.heap.size := by omega
      clear hlt
      have hn := h.newBlk 70 #[.int .i64 n1, .string a2, .string ⟨#[]⟩]
      have HC := Lib.hid (rword_any (hn.turn (a' := (sepT (crT p bs s2) (sepT (blkT W.heap.size 70 #[.int .i64 0, .string ⟨#[]⟩, .string ⟨#[]⟩]) (sepT (blkT w2.heap.size 70 #[.int .i64 n1, .string a2, .string ⟨#[]⟩]) R)))) (by ac_rfl)))
      clear h h1 hn
      go_wp2_with fail
      refine HC.out.mono ?_
      intro e w3 hr
      clear HC
      unfold RdP at hr
      rcases h1 : wordR bs s2 with f | ⟨a3, s3⟩ <;> rw [h1] at hr
      · obtain ⟨rfl, k, h⟩ := hr
        have HE : Hid (stR bs s = .error f) := Lib.hid (by unfold stR; rw [bind_ok H1.out, bind_ok H2.out, bind_err h1])
        have HF := Lib.hid (h.turn (a' := (sepT (blkT W.heap.size 70 #[.int .i64 0, .string ⟨#[]⟩, .string ⟨#[]⟩]) (sepT (blkT w2.heap.size 70 #[.int .i64 n1, .string a2, .string ⟨#[]⟩]) (sepT (crT p bs k) R)))) (by ac_rfl)).drop.drop
        clear h h1
        go_wp2_with fail
        refine ⟨rfl, ?_⟩
        rw [HE.out]
        exact ⟨rfl, _, HF.out⟩
      · have H3 := Lib.hid h1
        obtain ⟨rfl, h⟩ := hr
        have HZ3 := Lib.hid (wordR_ok h1)
        have hbe := (h.turn (a' := (sepT (blkT w2.heap.size 70 #[.int .i64 n1, .string a2, .string ⟨#[]⟩]) (sepT (crT p bs s3) (sepT (blkT W.heap.size 70 #[.int .i64 0, .string ⟨#[]⟩, .string ⟨#[]⟩]) R)))) (by ac_rfl)).blk.1
        have e0 := hbe.cell 0
        have ef0 := hbe.frozen 0
        have e1 := hbe.cell 1
        have ef1 := hbe.frozen 1
        have e2 := hbe.cell 2
        have ef2 := hbe.frozen 2
        simp at e0 e1 e2
        clear hbe
        have hbg := (h.turn (a' := (sepT (blkT W.heap.size 70 #[.int .i64 0, .string ⟨#[]⟩, .string ⟨#[]⟩]) (sepT (crT p bs s3) (sepT (blkT w2.heap.size 70 #[.int .i64 n1, .string a2, .string ⟨#[]⟩]) R)))) (by ac_rfl)).blk.1
        have g0 := hbg.cell 0
        have gf0 := hbg.frozen 0
        have g1 := hbg.cell 1
        have gf1 := hbg.frozen 1
        have g2 := hbg.cell 2
        have gf2 := hbg.frozen 2
        simp at g0 g1 g2
        clear hbg
        have HE : Hid (stR bs s = .ok (⟨n1, a2, a3⟩, s3)) := Lib.hid (by unfold stR; rw [bind_ok H1.out, bind_ok H2.out, bind_ok H3.out]; rfl)
        have h3 := (h.turn (a' := (sepT (blkT w2.heap.size 70 #[.int .i64 n1, .string a2, .string ⟨#[]⟩]) (sepT (crT p bs s3) (sepT (blkT W.heap.size 70 #[.int .i64 0, .string ⟨#[]⟩, .string ⟨#[]⟩]) R)))) (by ac_rfl)).setBlk 2 (.string a3)
        have HF : Hid (Lies N w0 _ (sepT (blkT W.heap.size 70 #[.int .i64 n1, .string a2, .string a3]) (sepT (crT p bs s3) (sepT (blkT w2.heap.size 70 #[.int .i64 n1, .string a2, .string a3]) R)))) := Lib.hid ((((h3.turn (a' := (sepT (blkT W.heap.size 70 #[.int .i64 0, .string ⟨#[]⟩, .string ⟨#[]⟩]) (sepT (crT p bs s3) (sepT (blkT w2.heap.size 70 #[.int .i64 n1, .string a2, .string a3]) R)))) (by ac_rfl)).setBlk 0 (.int .i64 n1)).setBlk 1 (.string a2)).setBlk 2 (.string a3))
        clear h h1 h3
        go_wp2_with fail
        refine bodyPost_ret (results_cell_row rfl _ _ W.heap.size 70 #[.int .i64 n1, .string a2, .string a3] (0, 0) _ rfl HF.out.blk.1 Tryz.underlying70 rfl (by kernel_rfl)) rfl ?_
        rw [HE.out]
        have hd := (HF.out.drop.turn (a' := (sepT (blkT w2.heap.size 70 #[.int .i64 n1, .string a2, .string a3]) (sepT (crT p bs s3) R))) (by ac_rfl)).drop
        exact ⟨HZ3.out.2, [.int .i64 n1, .string a2, .string a3], rfl, (st_in (x := ⟨n1, a2, a3⟩) HZ1.out HZ2.out.1 HZ3.out.1 hd).turn (by ac_rfl)⟩
end
end Go.Proofs.YtcapdmicekialaaGreat
