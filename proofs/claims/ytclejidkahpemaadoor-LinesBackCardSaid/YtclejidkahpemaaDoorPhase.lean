/- Regions that draw their order and hold calls that turn the world: one walk, in the order of the text, in worlds that are described by which of these calls are done (C: which operations are done, and the world). Over any program. Derived/Deep/Quiet.lean's way with a description that hangs on what is done. -/
import Derived.Test.YtclejidkahpemaaDoorClass
namespace Go.Proofs.YtclejidkahpemaaDoor
open Go.RowKit
section
variable {P : Program} {ops : Array Oper} {md : Region.Mode} {C : Array Bool → World → Prop} {J : List Nat}

/-- A world in which operation i is still to be done. -/
structure Still (C : Array Bool → World → Prop) (i : Nat) where
  L : Array Bool
  w : World
  no : L.getD i true = false
  h : C L w

/-- What an operation yields: one that is among J is a call that leads on; another one yields a value where it stands, or is a call that stays. -/
def phaseUpon (P : Program) (C : Array Bool → World → Prop) (J : List Nat) (i : Nat) (x : Still C i) (v : Value) (r : Result Next) : Prop :=
  match r with
  | .ok (.value u) w' => i ∉ J ∧ w' = x.w ∧ u = v
  | .ok .skip w' => i ∉ J ∧ w' = x.w ∧ v = undef
  | .ok (.enter f args) w' => w' = x.w ∧ Calls P f args x.w (fun e w'' => e = .returned v ∧ C (if i ∈ J then x.L.setIfInBounds i true else x.L) w'')
  | _ => False
def phaseAt (P : Program) (C : Array Bool → World → Prop) (J : List Nat) (o : Oper) (a : Act) (i : Nat) (x : Still C i) (v : Value) : Prop := phaseUpon P C J i x v ((execOp a.eval o).run P x.w)
def phase (P : Program) (C : Array Bool → World → Prop) (J : List Nat) (o : Oper) (a : Act) (i : Nat) (K : Act → Prop) : Prop := ∃ v, (∀ x : Still C i, phaseAt P C J o a i x v) ∧ K (a.put o.dst v)
/-- The operations in the order of the text, from number k on. -/
def wpPhase (P : Program) (ops : Array Oper) (C : Array Bool → World → Prop) (J : List Nat) (Q : Array Bool → Act → Prop) : Nat → List Oper → Array Bool → Act → Prop
  | _, [], L, a => Q L a
  | k, o :: rest, L, a => if Region.wanted o (yielded ops a.tmps) then phase P C J o a k (wpPhase P ops C J Q (k + 1) rest (L.setIfInBounds k true)) else k ∉ J ∧ wpPhase P ops C J Q (k + 1) rest (L.setIfInBounds k true) (a.put o.dst undef)
theorem wpPhase_nil {Q : Array Bool → Act → Prop} {k : Nat} {L : Array Bool} {a : Act} (h : Q L a) : wpPhase P ops C J Q k [] L a := h
theorem wpPhase_step {Q : Array Bool → Act → Prop} {a : Act} {o : Oper} {rest : List Oper} {k : Nat} {L : Array Bool}
    (h : ∀ K : Act → Prop, (∀ a, wpPhase P ops C J Q (k + 1) rest (L.setIfInBounds k true) a → K a) → if Region.wanted o (yielded ops a.tmps) then phase P C J o a k K else k ∉ J ∧ K (a.put o.dst undef)) : wpPhase P ops C J Q k (o :: rest) L a :=
  h _ (fun _ h => h)
def phOp (P : Program) (ops : Array Oper) (C : Array Bool → World → Prop) (J : List Nat) (i : Nat) (K : Act → Prop) (a : Act) : Prop :=
  match ops[i]? with
  | none => K a
  | some o => if Region.wanted o (yielded ops a.tmps) then phase P C J o a i K else i ∉ J ∧ K (a.put o.dst undef)
theorem phase_mono {o : Oper} {a : Act} {i : Nat} {K K' : Act → Prop} (h : ∀ a, K a → K' a) (hh : phase P C J o a i K) : phase P C J o a i K' :=
  let ⟨v, h1, h2⟩ := hh
  ⟨v, h1, h _ h2⟩
theorem phOp_mono {i : Nat} {a : Act} {K K' : Act → Prop} (h : ∀ a, K a → K' a) (hh : phOp P ops C J i K a) : phOp P ops C J i K' a := by
  unfold phOp at *
  split
  · exact h _ (by simpa [*] using hh)
  · rename_i o ho
    simp only [ho] at hh
    split
    · rename_i hw; simp only [hw, if_true] at hh; exact phase_mono h hh
    · rename_i hw; simp only [hw] at hh; exact ⟨hh.1, h _ hh.2⟩
def wpAnyP (P : Program) (md : Region.Mode) (ops : Array Oper) (C : Array Bool → World → Prop) (J : List Nat) (Q : Array Bool → Act → Prop) : Nat → Array Bool → Act → Prop
  | 0, listed, a => Region.ready md ops listed = [] ∧ Q listed a
  | fuel + 1, listed, a =>
    (Region.ready md ops listed = [] → Q listed a) ∧
    ∀ i ∈ Region.ready md ops listed, phOp P ops C J i (wpAnyP P md ops C J Q fuel (listed.setIfInBounds i true)) a
/-- C looks at J alone. -/
def Looks (C : Array Bool → World → Prop) (J : List Nat) : Prop := ∀ L w i, i ∉ J → C L w → C (L.setIfInBounds i true) w
theorem wp_of_phase (hJ : Looks C J) {o : Oper} {a : Act} {i : Nat} {L : Array Bool} {K : Act → Prop} {K' : Act → World → Prop} {Q' : Exit → Act → World → Prop} {w : World} (hn : L.getD i true = false) (hw : C L w)
    (h : ∀ a w', C (L.setIfInBounds i true) w' → K a → K' a w') (hh : phase P C J o a i K) : o.wp P a w K' Q' := by
  obtain ⟨v, h1, h2⟩ := hh
  have h3 := h1 ⟨L, w, hn, hw⟩
  unfold phaseAt at h3
  unfold Oper.wp
  simp only at h3
  generalize (execOp a.eval o).run P w = r at *
  cases r with
  | ok n w' =>
    cases n <;> simp only [phaseUpon] at h3 <;> simp only [Oper.upon]
    case value u =>
      obtain ⟨e0, e1, e2⟩ := h3
      rw [e1, e2]
      exact h _ _ (hJ _ _ _ e0 hw) h2
    case skip =>
      obtain ⟨e0, e1, e2⟩ := h3
      rw [e1, ← e2]
      exact h _ _ (hJ _ _ _ e0 hw) h2
    case enter f args =>
      obtain ⟨e1, hc⟩ := h3
      rw [e1]
      refine hc.mono fun e w'' ⟨he, hw''⟩ => ?_
      subst he
      refine h _ _ ?_ h2
      by_cases hi : i ∈ J
      · rw [if_pos hi] at hw''; exact hw''
      · rw [if_neg hi] at hw''; exact hJ _ _ _ hi hw''
  | halt x w' => simp only [phaseUpon] at h3
theorem wpOp_of_phOp (hJ : Looks C J) {i : Nat} {a : Act} {L : Array Bool} {K : Act → Prop} {K' : Act → World → Prop} {Q' : Exit → Act → World → Prop} {w : World} (hi : i < ops.size) (hn : L.getD i true = false) (hC : C L w)
    (h : ∀ a w', C (L.setIfInBounds i true) w' → K a → K' a w') (hh : phOp P ops C J i K a) : wpOp P ops Q' i K' a w := by
  unfold phOp at hh
  unfold wpOp
  split
  · rename_i ho; rw [Array.getElem?_eq_getElem hi] at ho; cases ho
  · rename_i o ho
    simp only [ho] at hh
    split
    · rename_i hw; simp only [hw, if_true] at hh; exact .inl (wp_of_phase hJ hn hC h hh)
    · rename_i hw; simp only [hw] at hh; exact h _ _ (hJ _ _ _ hh.1 hC) hh.2
theorem wpAny_of_phase (hJ : Looks C J) {Q : Array Bool → Act → Prop} {Q' : Exit → Act → World → Prop} (hQ : ∀ L a w, C L w → Q L a → Q' .normal a w) : ∀ (fuel : Nat) (listed : Array Bool) (a : Act) (w : World), C listed w →
    wpAnyP P md ops C J Q fuel listed a → wpAny P md ops Q' fuel listed a w
  | 0, _, _, _, hw, h => ⟨h.1, hQ _ _ _ hw h.2⟩
  | fuel + 1, listed, _, _, hw, h => ⟨fun h0 => hQ _ _ _ hw (h.1 h0), fun i hi => by
    obtain ⟨hn, o, ho, _⟩ := mem_ready.1 hi
    exact wpOp_of_phOp hJ (Array.getElem?_eq_some_iff.1 ho).1 hn hw (fun a' w' hw' => wpAny_of_phase hJ hQ fuel _ a' w' hw') (h.2 i hi)⟩
def YieldsP (P : Program) (ops : Array Oper) (C : Array Bool → World → Prop) (J : List Nat) (i : Nat) (o : Oper) (v : Value) (a : Act) : Prop :=
  (Region.wanted o (yielded ops a.tmps) = true ∧ ∀ x : Still C i, phaseAt P C J o a i x v) ∨
  (Region.wanted o (yielded ops a.tmps) = false ∧ i ∉ J ∧ v = undef)
theorem YieldsP.phOp {i : Nat} {o : Oper} {v : Value} {a : Act} (hi : ops[i]? = some o) (hy : YieldsP P ops C J i o v a) {K : Act → Prop} (h : K (a.put o.dst v)) : phOp P ops C J i K a := by
  unfold Proofs.YtclejidkahpemaaDoor.phOp
  simp only [hi]
  rcases hy with ⟨hw, hv⟩ | ⟨hw, hj, rfl⟩
  · simp only [hw, if_true]; exact ⟨v, hv, h⟩
  · simp only [hw, Bool.false_eq_true, if_false]; exact ⟨hj, h⟩
theorem YieldsP.of_same {i : Nat} {o : Oper} {v : Value} {a a' : Act} (hy : YieldsP P ops C J i o v a) (he : execOp a'.eval o = execOp a.eval o)
    (hw : Region.wanted o (yielded ops a'.tmps) = Region.wanted o (yielded ops a.tmps)) : YieldsP P ops C J i o v a' := by
  unfold YieldsP phaseAt at *
  rw [he, hw]
  exact hy
theorem yieldsP_of_phOp {i : Nat} {o : Oper} {a : Act} {K : Act → Prop} (hi : ops[i]? = some o) (h : phOp P ops C J i K a) : ∃ v, YieldsP P ops C J i o v a ∧ K (a.put o.dst v) := by
  unfold phOp at h
  simp only [hi] at h
  by_cases hw : Region.wanted o (yielded ops a.tmps) = true
  · simp only [hw, if_true] at h
    obtain ⟨v, h1, h2⟩ := h
    exact ⟨v, .inl ⟨hw, h1⟩, h2⟩
  · simp only [hw] at h
    exact ⟨undef, .inr ⟨by simpa using hw, h.1, rfl⟩, h.2⟩
theorem phOp_put {i j : Nat} {oi oj : Oper} {v : Value} (hj : ops[j]? = some oj) (hap : oi.apart ops oj = true)
    (hsi : ∀ cs b, oi.op ≠ .select cs b) (hsj : ∀ cs b, oj.op ≠ .select cs b) {K : Act → Prop} {a : Act}
    (hy : YieldsP P ops C J i oi v a) (h : phOp P ops C J j K (a.put oi.dst v)) :
    phOp P ops C J j (fun a' => YieldsP P ops C J i oi v a' ∧ K (a'.put oi.dst v)) a := by
  obtain ⟨h1, h2, h3⟩ := Oper.apart_spec hap
  have keep : ∀ (a : Act), YieldsP P ops C J i oi v a → ∀ u, YieldsP P ops C J i oi v (a.put oj.dst u) := fun a hy u =>
    hy.of_same (execOp_put oi hsi a oj.dst u h3) (wanted_put oi a oj.dst u h3)
  unfold phOp at *
  simp only [hj] at *
  rw [wanted_put oj a oi.dst v h1] at h
  split
  · rename_i hw
    simp only [hw, if_true] at h
    obtain ⟨u, hu, hn⟩ := h
    refine ⟨u, fun x => ?_, keep a hy u, by rw [← Act.put_comm a v u h2]; exact hn⟩
    have := hu x
    unfold phaseAt at *
    rwa [execOp_put oj hsj a oi.dst v h1] at this
  · rename_i hw
    simp only [hw] at h
    exact ⟨h.1, keep a hy _, by rw [← Act.put_comm a v undef h2]; exact h.2⟩
theorem wpAnyP_first {Q : Array Bool → Act → Prop} {i : Nat} {oi : Oper} {v : Value} (hi : ops[i]? = some oi) (hsel : ∀ (j : Nat) (o : Oper) cs b, ops[j]? = some o → o.op ≠ .select cs b) :
    ∀ (fuel : Nat) (listed : Array Bool) (a : Act),
      (∀ j oj, ops[j]? = some oj → j ≠ i → listed.getD j true = false → (∀ e ∈ oj.after, Region.binds md e = true → e.on ≠ i) → oi.apart ops oj = true) →
      i ∈ Region.ready md ops listed → YieldsP P ops C J i oi v a →
      wpAnyP P md ops C J Q fuel (listed.setIfInBounds i true) (a.put oi.dst v) → wpAnyP P md ops C J Q (fuel + 1) listed a := by
  intro fuel
  induction fuel with
  | zero =>
    intro listed a _ hr hy H
    refine ⟨fun h => (by rw [h] at hr; cases hr), fun j hj => ?_⟩
    by_cases hji : j = i
    · subst hji; exact hy.phOp hi H
    · have := ready_mono hj hji
      rw [H.1] at this
      cases this
  | succ fuel ih =>
    intro listed a hfree hr hy H
    refine ⟨fun h => (by rw [h] at hr; cases hr), fun j hj => ?_⟩
    by_cases hji : j = i
    · subst hji; exact hy.phOp hi H
    · have h1 := H.2 j (ready_mono hj hji)
      obtain ⟨hjun, oj, hoj, hall⟩ := mem_ready.1 hj
      have hnot : ∀ e ∈ oj.after, Region.binds md e = true → e.on ≠ i := fun e he hb heq => by
        have h1 := hall e he hb
        have h0 := (mem_ready.1 hr).1
        rw [heq] at h1
        rcases Nat.lt_or_ge i listed.size with h' | h'
        · simp [h'] at h0 h1; rw [h0] at h1; cases h1
        · simp [Array.getElem?_eq_none h'] at h1
      have h2 := phOp_put hoj (hfree j oj hoj hji hjun hnot) (fun cs b => hsel i oi cs b hi) (fun cs b => hsel j oj cs b hoj) hy h1
      have hfree' : ∀ k ok, ops[k]? = some ok → k ≠ i → (listed.setIfInBounds j true).getD k true = false →
          (∀ e ∈ ok.after, Region.binds md e = true → e.on ≠ i) → oi.apart ops ok = true := fun k ok hk hki hun hno => by
        refine hfree k ok hk hki ?_ hno
        by_cases hjk : j = k
        · subst hjk; exact hjun
        · rw [getD_set_ne true hjk] at hun; exact hun
      refine phOp_mono (fun a' h3 => ih (listed.setIfInBounds j true) a' hfree' (ready_mono hr (Ne.symm hji)) h3.1 ?_) h2
      rw [Array.setIfInBounds_comm _ _ hji]
      exact h3.2
theorem wpAnyP_lex {Q : Array Bool → Act → Prop} (hs : Region.noSelect ops = true) : ∀ (l : List Oper) (k : Nat) (listed : Array Bool) (a : Act), (∀ j, l[j]? = ops[k + j]?) →
    Region.lexFrom md ops l.length k listed = true → wpPhase P ops C J Q k l listed a → wpAnyP P md ops C J Q l.length listed a
  | [], _, _, _, _, hB, h => ⟨by simpa [Region.lexFrom] using hB, h⟩
  | o :: l, k, listed, a, hl, hB, h => by
    have h0 : ops[k]? = some o := by simpa using (hl 0).symm
    simp only [List.length_cons, Region.lexFrom, Bool.and_eq_true] at hB
    obtain ⟨⟨hr, hf⟩, hB'⟩ := hB
    have hst : phOp P ops C J k (wpPhase P ops C J Q (k + 1) l (listed.setIfInBounds k true)) a := by unfold phOp; simp only [h0]; exact h
    obtain ⟨v, hy, hK⟩ := yieldsP_of_phOp h0 hst
    exact wpAnyP_first h0 (Region.noSelect_spec hs) l.length listed a (Region.free_spec h0 hf) (by simpa using hr) hy
      (wpAnyP_lex hs l (k + 1) _ _ (fun j => by have := hl (j + 1); simpa [Nat.add_assoc, Nat.add_comm 1 j] using this) hB' hK)
/-- One walk serves every order. -/
theorem wp_region_phase {id : Nat} {Q : Exit → Act → World → Prop} {a : Act} {w : World} {l : List Oper} (C : Array Bool → World → Prop) (J : List Nat) (hJ : Looks C J) (hm : P.follows .mixedOrders = true) (hB : Region.lexB .any l.toArray = true)
    (hC : C (Array.replicate l.length false) w.drew)
    (h : (∀ i, i < l.length → Nonempty (Still C i)) → wpPhase P l.toArray C J (fun L a' => ∀ w', C L w' → Q .normal a' w') 0 l (Array.replicate l.length false) a) : (Code.region id l.toArray true).wp P Q a w := by
  have hne : ∀ i, i < l.length → Nonempty (Still C i) := fun i hi => ⟨⟨Array.replicate l.length false, w.drew, by simp [hi], hC⟩⟩
  simp only [Region.lexB, Bool.and_eq_true] at hB
  refine wp_region_any hm (wpAny_of_phase (C := C) (J := J) hJ (Q := fun L a' => ∀ w', C L w' → Q .normal a' w') (fun L _ w' hw' h => h w' hw') _ _ _ _ (by simpa using hC) ?_)
  have := wpAnyP_lex (C := C) (J := J) (md := .any) hB.1 l 0 (Array.replicate l.length false) a (by simp) (by simpa using hB.2) (h hne)
  simpa using this

/-- Two calls, numbers i and j. -/
def two (i j : Nat) (R : Bool → Bool → World → Prop) (L : Array Bool) (w : World) : Prop := R (L.getD i true) (L.getD j true) w
theorem two_looks (i j : Nat) (R : Bool → Bool → World → Prop) : Looks (two i j R) [i, j] := by
  intro L w k hk h
  unfold two at *
  simp only [List.mem_cons, List.not_mem_nil, or_false, not_or] at hk
  rw [getD_set_ne true hk.1, getD_set_ne true hk.2]
  exact h
theorem getD_set_self (L : Array Bool) (i : Nat) : (L.setIfInBounds i true).getD i true = true := by
  rcases Nat.lt_or_ge i L.size with h | h
  · simp [h]
  · simp [h]
theorem two_call1 {i j : Nat} (hij : i ≠ j) {R : Bool → Bool → World → Prop} {f : FuncId} {args : Array Value} {v : Value} (x : Still (two i j R) i) (h : ∀ d W, R false d W → Calls P f args W fun e W' => e = .returned v ∧ R true d W') :
    Calls P f args x.w fun e w' => e = .returned v ∧ two i j R (x.L.setIfInBounds i true) w' := by
  have h0 := x.h
  unfold two at h0
  rw [x.no] at h0
  refine (h _ _ h0).mono fun e w' k => ⟨k.1, ?_⟩
  unfold two
  rw [getD_set_self, getD_set_ne true hij]
  exact k.2
theorem two_call2 {i j : Nat} (hij : j ≠ i) {R : Bool → Bool → World → Prop} {f : FuncId} {args : Array Value} {v : Value} (x : Still (two i j R) j) (h : ∀ d W, R d false W → Calls P f args W fun e W' => e = .returned v ∧ R d true W') :
    Calls P f args x.w fun e w' => e = .returned v ∧ two i j R (x.L.setIfInBounds j true) w' := by
  have h0 := x.h
  unfold two at h0
  rw [x.no] at h0
  refine (h _ _ h0).mono fun e w' k => ⟨k.1, ?_⟩
  unfold two
  rw [getD_set_self, getD_set_ne true hij]
  exact k.2
theorem two_fact {i j k : Nat} {R : Bool → Bool → World → Prop} {F : World → Prop} (h : ∀ d1 d2 W, R d1 d2 W → F W) (x : Still (two i j R) k) : F x.w := h _ _ _ x.h
end
attribute [go_sem] phase phaseAt phaseUpon
end Go.Proofs.YtclejidkahpemaaDoor
