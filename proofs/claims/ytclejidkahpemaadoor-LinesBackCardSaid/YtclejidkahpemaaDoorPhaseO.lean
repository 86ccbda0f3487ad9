/- Regions that draw their order and hold one call whose result hangs on the world (new memory handed back): one walk, in the order of the text. The call is met before the walk; the walk takes what it handed back as said. Over any program. -/
import Derived.Test.YtclejidkahpemaaDoorPhase
namespace Go.Proofs.YtclejidkahpemaaDoor
open Go.RowKit
/-- The one call of a region: which operation, which function, with what; what it is said to hand back. -/
structure Said where
  c : Nat
  f : FuncId
  args : Array Value
  v : Value
section
variable {P : Program} {ops : Array Oper} {md : Region.Mode} {C : Array Bool → World → Prop} {J : Said}
/-- What an operation yields: a value where it stands; the call enters just that function with just these arguments. -/
def orUpon (C : Array Bool → World → Prop) (J : Said) (i : Nat) (x : Still C i) (v : Value) (r : Result Next) : Prop :=
  match r with
  | .ok (.value u) w' => i ≠ J.c ∧ w' = x.w ∧ u = v
  | .ok .skip w' => i ≠ J.c ∧ w' = x.w ∧ v = undef
  | .ok (.enter f args) w' => i = J.c ∧ w' = x.w ∧ f = J.f ∧ args = J.args ∧ v = J.v
  | _ => False
def orAt (P : Program) (C : Array Bool → World → Prop) (J : Said) (o : Oper) (a : Act) (i : Nat) (x : Still C i) (v : Value) : Prop := orUpon C J i x v ((execOp a.eval o).run P x.w)
def orPh (P : Program) (C : Array Bool → World → Prop) (J : Said) (o : Oper) (a : Act) (i : Nat) (K : Act → Prop) : Prop := ∃ v, (∀ x : Still C i, orAt P C J o a i x v) ∧ K (a.put o.dst v)
/-- The operations in the order of the text, from number k on. -/
def wpOr (P : Program) (ops : Array Oper) (C : Array Bool → World → Prop) (J : Said) (Q : Array Bool → Act → Prop) : Nat → List Oper → Array Bool → Act → Prop
  | _, [], L, a => Q L a
  | k, o :: rest, L, a => if Region.wanted o (yielded ops a.tmps) then orPh P C J o a k (wpOr P ops C J Q (k + 1) rest (L.setIfInBounds k true)) else k ≠ J.c ∧ wpOr P ops C J Q (k + 1) rest (L.setIfInBounds k true) (a.put o.dst undef)
theorem wpOr_nil {Q : Array Bool → Act → Prop} {k : Nat} {L : Array Bool} {a : Act} (h : Q L a) : wpOr P ops C J Q k [] L a := h
theorem wpOr_step {Q : Array Bool → Act → Prop} {a : Act} {o : Oper} {rest : List Oper} {k : Nat} {L : Array Bool}
    (h : ∀ K : Act → Prop, (∀ a, wpOr P ops C J Q (k + 1) rest (L.setIfInBounds k true) a → K a) → if Region.wanted o (yielded ops a.tmps) then orPh P C J o a k K else k ≠ J.c ∧ K (a.put o.dst undef)) : wpOr P ops C J Q k (o :: rest) L a :=
  h _ (fun _ h => h)
def orOp (P : Program) (ops : Array Oper) (C : Array Bool → World → Prop) (J : Said) (i : Nat) (K : Act → Prop) (a : Act) : Prop :=
  match ops[i]? with
  | none => K a
  | some o => if Region.wanted o (yielded ops a.tmps) then orPh P C J o a i K else i ≠ J.c ∧ K (a.put o.dst undef)
theorem or_mono {o : Oper} {a : Act} {i : Nat} {K K' : Act → Prop} (h : ∀ a, K a → K' a) (hh : orPh P C J o a i K) : orPh P C J o a i K' :=
  let ⟨v, h1, h2⟩ := hh
  ⟨v, h1, h _ h2⟩
theorem orOp_mono {i : Nat} {a : Act} {K K' : Act → Prop} (h : ∀ a, K a → K' a) (hh : orOp P ops C J i K a) : orOp P ops C J i K' a := by
  unfold orOp at *
  split
  · exact h _ (by simpa [*] using hh)
  · rename_i o ho
    simp only [ho] at hh
    split
    · rename_i hw; simp only [hw, if_true] at hh; exact or_mono h hh
    · rename_i hw; simp only [hw] at hh; exact ⟨hh.1, h _ hh.2⟩
def wpAnyOr (P : Program) (md : Region.Mode) (ops : Array Oper) (C : Array Bool → World → Prop) (J : Said) (Q : Array Bool → Act → Prop) : Nat → Array Bool → Act → Prop
  | 0, listed, a => Region.ready md ops listed = [] ∧ Q listed a
  | fuel + 1, listed, a =>
    (Region.ready md ops listed = [] → Q listed a) ∧
    ∀ i ∈ Region.ready md ops listed, orOp P ops C J i (wpAnyOr P md ops C J Q fuel (listed.setIfInBounds i true)) a
def YieldsOr (P : Program) (ops : Array Oper) (C : Array Bool → World → Prop) (J : Said) (i : Nat) (o : Oper) (v : Value) (a : Act) : Prop :=
  (Region.wanted o (yielded ops a.tmps) = true ∧ ∀ x : Still C i, orAt P C J o a i x v) ∨
  (Region.wanted o (yielded ops a.tmps) = false ∧ i ≠ J.c ∧ v = undef)
theorem YieldsOr.orOp {i : Nat} {o : Oper} {v : Value} {a : Act} (hi : ops[i]? = some o) (hy : YieldsOr P ops C J i o v a) {K : Act → Prop} (h : K (a.put o.dst v)) : orOp P ops C J i K a := by
  unfold Proofs.YtclejidkahpemaaDoor.orOp
  simp only [hi]
  rcases hy with ⟨hw, hv⟩ | ⟨hw, hj, rfl⟩
  · simp only [hw, if_true]; exact ⟨v, hv, h⟩
  · simp only [hw, Bool.false_eq_true, if_false]; exact ⟨hj, h⟩
theorem YieldsOr.of_same {i : Nat} {o : Oper} {v : Value} {a a' : Act} (hy : YieldsOr P ops C J i o v a) (he : execOp a'.eval o = execOp a.eval o)
    (hw : Region.wanted o (yielded ops a'.tmps) = Region.wanted o (yielded ops a.tmps)) : YieldsOr P ops C J i o v a' := by
  unfold YieldsOr orAt at *
  rw [he, hw]
  exact hy
theorem yieldsOr_of_orOp {i : Nat} {o : Oper} {a : Act} {K : Act → Prop} (hi : ops[i]? = some o) (h : orOp P ops C J i K a) : ∃ v, YieldsOr P ops C J i o v a ∧ K (a.put o.dst v) := by
  unfold orOp at h
  simp only [hi] at h
  by_cases hw : Region.wanted o (yielded ops a.tmps) = true
  · simp only [hw, if_true] at h
    obtain ⟨v, h1, h2⟩ := h
    exact ⟨v, .inl ⟨hw, h1⟩, h2⟩
  · simp only [hw] at h
    exact ⟨undef, .inr ⟨by simpa using hw, h.1, rfl⟩, h.2⟩
theorem orOp_put {i j : Nat} {oi oj : Oper} {v : Value} (hj : ops[j]? = some oj) (hap : oi.apart ops oj = true)
    (hsi : ∀ cs b, oi.op ≠ .select cs b) (hsj : ∀ cs b, oj.op ≠ .select cs b) {K : Act → Prop} {a : Act}
    (hy : YieldsOr P ops C J i oi v a) (h : orOp P ops C J j K (a.put oi.dst v)) :
    orOp P ops C J j (fun a' => YieldsOr P ops C J i oi v a' ∧ K (a'.put oi.dst v)) a := by
  obtain ⟨h1, h2, h3⟩ := Oper.apart_spec hap
  have keep : ∀ (a : Act), YieldsOr P ops C J i oi v a → ∀ u, YieldsOr P ops C J i oi v (a.put oj.dst u) := fun a hy u =>
    hy.of_same (execOp_put oi hsi a oj.dst u h3) (wanted_put oi a oj.dst u h3)
  unfold orOp at *
  simp only [hj] at *
  rw [wanted_put oj a oi.dst v h1] at h
  split
  · rename_i hw
    simp only [hw, if_true] at h
    obtain ⟨u, hu, hn⟩ := h
    refine ⟨u, fun x => ?_, keep a hy u, by rw [← Act.put_comm a v u h2]; exact hn⟩
    have := hu x
    unfold orAt at *
    rwa [execOp_put oj hsj a oi.dst v h1] at this
  · rename_i hw
    simp only [hw] at h
    exact ⟨h.1, keep a hy _, by rw [← Act.put_comm a v undef h2]; exact h.2⟩
theorem wpAnyOr_first {Q : Array Bool → Act → Prop} {i : Nat} {oi : Oper} {v : Value} (hi : ops[i]? = some oi) (hsel : ∀ (j : Nat) (o : Oper) cs b, ops[j]? = some o → o.op ≠ .select cs b) :
    ∀ (fuel : Nat) (listed : Array Bool) (a : Act),
      (∀ j oj, ops[j]? = some oj → j ≠ i → listed.getD j true = false → (∀ e ∈ oj.after, Region.binds md e = true → e.on ≠ i) → oi.apart ops oj = true) →
      i ∈ Region.ready md ops listed → YieldsOr P ops C J i oi v a →
      wpAnyOr P md ops C J Q fuel (listed.setIfInBounds i true) (a.put oi.dst v) → wpAnyOr P md ops C J Q (fuel + 1) listed a := by
  intro fuel
  induction fuel with
  | zero =>
    intro listed a _ hr hy H
    refine ⟨fun h => (by rw [h] at hr; cases hr), fun j hj => ?_⟩
    by_cases hji : j = i
    · subst hji; exact hy.orOp hi H
    · have := ready_mono hj hji
      rw [H.1] at this
      cases this
  | succ fuel ih =>
    intro listed a hfree hr hy H
    refine ⟨fun h => (by rw [h] at hr; cases hr), fun j hj => ?_⟩
    by_cases hji : j = i
    · subst hji; exact hy.orOp hi H
    · have h1 := H.2 j (ready_mono hj hji)
      obtain ⟨hjun, oj, hoj, hall⟩ := mem_ready.1 hj
      have hnot : ∀ e ∈ oj.after, Region.binds md e = true → e.on ≠ i := fun e he hb heq => by
        have h1 := hall e he hb
        have h0 := (mem_ready.1 hr).1
        rw [heq] at h1
        rcases Nat.lt_or_ge i listed.size with h' | h'
        · simp [h'] at h0 h1; rw [h0] at h1; cases h1
        · simp [Array.getElem?_eq_none h'] at h1
      have h2 := orOp_put hoj (hfree j oj hoj hji hjun hnot) (fun cs b => hsel i oi cs b hi) (fun cs b => hsel j oj cs b hoj) hy h1
      have hfree' : ∀ k ok, ops[k]? = some ok → k ≠ i → (listed.setIfInBounds j true).getD k true = false →
          (∀ e ∈ ok.after, Region.binds md e = true → e.on ≠ i) → oi.apart ops ok = true := fun k ok hk hki hun hno => by
        refine hfree k ok hk hki ?_ hno
        by_cases hjk : j = k
        · subst hjk; exact hjun
        · rw [getD_set_ne true hjk] at hun; exact hun
      refine orOp_mono (fun a' h3 => ih (listed.setIfInBounds j true) a' hfree' (ready_mono hr (Ne.symm hji)) h3.1 ?_) h2
      rw [Array.setIfInBounds_comm _ _ hji]
      exact h3.2
theorem wpAnyOr_lex {Q : Array Bool → Act → Prop} (hs : Region.noSelect ops = true) : ∀ (l : List Oper) (k : Nat) (listed : Array Bool) (a : Act), (∀ j, l[j]? = ops[k + j]?) →
    Region.lexFrom md ops l.length k listed = true → wpOr P ops C J Q k l listed a → wpAnyOr P md ops C J Q l.length listed a
  | [], _, _, _, _, hB, h => ⟨by simpa [Region.lexFrom] using hB, h⟩
  | o :: l, k, listed, a, hl, hB, h => by
    have h0 : ops[k]? = some o := by simpa using (hl 0).symm
    simp only [List.length_cons, Region.lexFrom, Bool.and_eq_true] at hB
    obtain ⟨⟨hr, hf⟩, hB'⟩ := hB
    have hst : orOp P ops C J k (wpOr P ops C J Q (k + 1) l (listed.setIfInBounds k true)) a := by unfold orOp; simp only [h0]; exact h
    obtain ⟨v, hy, hK⟩ := yieldsOr_of_orOp h0 hst
    exact wpAnyOr_first h0 (Region.noSelect_spec hs) l.length listed a (Region.free_spec h0 hf) (by simpa using hr) hy
      (wpAnyOr_lex hs l (k + 1) _ _ (fun j => by have := hl (j + 1); simpa [Nat.add_assoc, Nat.add_comm 1 j] using this) hB' hK)

/-- Ahead of the call the world is W0, behind it w1. -/
def orC (c : Nat) (W0 w1 : World) (L : Array Bool) (W : World) : Prop := W = if L.getD c true then w1 else W0
theorem orC_other {c : Nat} {W0 w1 W : World} {L : Array Bool} {i : Nat} (h : orC c W0 w1 L W) (hi : i ≠ c) : orC c W0 w1 (L.setIfInBounds i true) W := by
  unfold orC at *
  rw [getD_set_ne true hi]
  exact h
theorem after_call {c : Nat} {f : FuncId} {args : Array Value} {v : Value} {W0 w1 : World} {Q : Array Bool → Act → Prop} {Q' : Exit → Act → World → Prop} (hQ : ∀ L a w, orC c W0 w1 L w → Q L a → Q' .normal a w) :
    ∀ (fuel : Nat) (L : Array Bool) (a : Act), L.getD c true = true → wpAnyOr P md ops (orC c W0 w1) ⟨c, f, args, v⟩ Q fuel L a → wpAny P md ops Q' fuel L a w1
  | 0, L, a, hc, h => ⟨h.1, hQ _ _ _ (by unfold orC; rw [if_pos hc]) h.2⟩
  | fuel + 1, L, a, hc, h => ⟨fun h0 => hQ _ _ _ (by unfold orC; rw [if_pos hc]) (h.1 h0), fun i hi => by
    obtain ⟨hn, o, ho, _⟩ := mem_ready.1 hi
    have hh := h.2 i hi
    have hC : orC c W0 w1 L w1 := by unfold orC; rw [if_pos hc]
    have hic : i ≠ c := fun e => by rw [e] at hn; rw [hn] at hc; cases hc
    have hc' : (L.setIfInBounds i true).getD c true = true := by rw [getD_set_ne true hic]; exact hc
    unfold orOp at hh
    unfold wpOp
    simp only [ho] at hh ⊢
    split
    · rename_i hw
      simp only [hw, if_true] at hh
      obtain ⟨u, h1, h2⟩ := hh
      have h3 := h1 ⟨L, w1, hn, hC⟩
      unfold orAt at h3
      simp only at h3
      refine .inl ?_
      unfold Oper.wp
      generalize (execOp a.eval o).run P w1 = r at *
      cases r with
      | ok n w' =>
        cases n <;> simp only [orUpon] at h3 <;> simp only [Oper.upon]
        case value z =>
          obtain ⟨_, e1, e2⟩ := h3
          rw [e1, e2]
          exact after_call hQ fuel _ _ hc' h2
        case skip =>
          obtain ⟨_, e1, e2⟩ := h3
          rw [e1, ← e2]
          exact after_call hQ fuel _ _ hc' h2
        case enter g as => exact absurd h3.1 hic
      | halt x w' => simp only [orUpon] at h3
    · rename_i hw
      simp only [hw] at hh
      exact after_call hQ fuel _ _ hc' hh.2⟩
theorem before_call {c : Nat} {f : FuncId} {args : Array Value} {W0 : World} {R : Value → World → Prop} {Q : Value → World → Array Bool → Act → Prop} {Q' : Exit → Act → World → Prop}
    (hcall : Calls P f args W0 fun e w' => ∃ v, e = .returned v ∧ R v w') (hsome : ∃ v w1, R v w1) (hQ : ∀ v w1, R v w1 → ∀ L a w, orC c W0 w1 L w → Q v w1 L a → Q' .normal a w) (hcs : c < ops.size) :
    ∀ (fuel : Nat) (L : Array Bool) (a : Act), L.getD c true = false → (∀ v w1, R v w1 → wpAnyOr P md ops (orC c W0 w1) ⟨c, f, args, v⟩ (Q v w1) fuel L a) → wpAny P md ops Q' fuel L a W0
  | 0, L, a, hc, h => by
    obtain ⟨v, w1, hr⟩ := hsome
    exact ⟨(h v w1 hr).1, hQ v w1 hr L a W0 (by unfold orC; rw [hc]; rfl) (h v w1 hr).2⟩
  | fuel + 1, L, a, hc, h => by
    obtain ⟨v, w1, hr⟩ := hsome
    refine ⟨fun h0 => hQ v w1 hr L a W0 (by unfold orC; rw [hc]; rfl) ((h v w1 hr).1 h0), fun i hi => ?_⟩
    obtain ⟨hn, o, ho, _⟩ := mem_ready.1 hi
    have hC : ∀ w2, orC c W0 w2 L W0 := fun w2 => by unfold orC; rw [hc]; rfl
    have hh := fun v w1 hr => (h v w1 hr).2 i hi
    unfold orOp at hh
    unfold wpOp
    simp only [ho] at hh ⊢
    split
    · rename_i hw
      simp only [hw, if_true] at hh
      refine .inl ?_
      obtain ⟨u, h1, h2⟩ := hh v w1 hr
      have h3 := h1 ⟨L, W0, hn, hC w1⟩
      unfold orAt at h3
      simp only at h3
      unfold Oper.wp
      generalize hrun : (execOp a.eval o).run P W0 = r at *
      cases r with
      | ok n w' =>
        cases n <;> simp only [orUpon] at h3 <;> simp only [Oper.upon]
        case value z =>
          obtain ⟨hic, e1, e2⟩ := h3
          subst e1
          refine before_call hcall ⟨v, w1, hr⟩ hQ hcs fuel _ _ (by rw [getD_set_ne true hic]; exact hc) (fun v2 w2 hr2 => ?_)
          obtain ⟨u2, k1, k2⟩ := hh v2 w2 hr2
          have k3 := k1 ⟨L, _, hn, hC w2⟩
          unfold orAt at k3
          simp only [hrun, orUpon] at k3
          rw [k3.2.2]
          exact k2
        case skip =>
          obtain ⟨hic, e1, e2⟩ := h3
          subst e1
          refine before_call hcall ⟨v, w1, hr⟩ hQ hcs fuel _ _ (by rw [getD_set_ne true hic]; exact hc) (fun v2 w2 hr2 => ?_)
          obtain ⟨u2, k1, k2⟩ := hh v2 w2 hr2
          have k3 := k1 ⟨L, _, hn, hC w2⟩
          unfold orAt at k3
          simp only [hrun, orUpon] at k3
          rw [← k3.2.2]
          exact k2
        case enter g as =>
          obtain ⟨hic, e1, rfl, rfl, _⟩ := h3
          subst e1
          subst hic
          refine hcall.mono fun e w2 ⟨v2, he, hr2⟩ => ?_
          subst he
          obtain ⟨u2, k1, k2⟩ := hh v2 w2 hr2
          have k3 := k1 ⟨L, _, hn, hC w2⟩
          unfold orAt at k3
          simp only [hrun, orUpon] at k3
          rw [← k3.2.2.2.2]
          exact after_call (hQ v2 w2 hr2) fuel _ _ (getD_set_self _ _) (by rw [k3.2.2.2.2]; rw [k3.2.2.2.2] at k2; exact k2)
      | halt x w' => simp only [orUpon] at h3
    · rename_i hw
      simp only [hw] at hh
      have hic := (hh v w1 hr).1
      exact before_call hcall ⟨v, w1, hr⟩ hQ hcs fuel _ _ (by rw [getD_set_ne true hic]; exact hc) (fun v2 w2 hr2 => (hh v2 w2 hr2).2)
theorem Calls.some {f : FuncId} {args : Array Value} {w : World} {R : Ending → World → Prop} (h : Calls P f args w R) : ∃ e w', R e w' := by
  obtain ⟨e, w', _, h, _⟩ := h []
  exact ⟨e, w', h⟩
/-- One walk serves every order; c: the call's number. -/
theorem wp_region_call {id : Nat} {Q : Exit → Act → World → Prop} {a : Act} {w : World} {l : List Oper} (c : Nat) (f : FuncId) (args : Array Value) (R : Value → World → Prop) (hm : P.follows .mixedOrders = true) (hB : Region.lexB .any l.toArray = true) (hc : c < l.length)
    (hcall : Calls P f args w.drew fun e w' => ∃ v, e = .returned v ∧ R v w')
    (h : ∀ v w1, R v w1 → (∀ i, i < l.length → Nonempty (Still (orC c w.drew w1) i)) → wpOr P l.toArray (orC c w.drew w1) ⟨c, f, args, v⟩ (fun L a' => ∀ w', orC c w.drew w1 L w' → Q .normal a' w') 0 l (Array.replicate l.length false) a) : (Code.region id l.toArray true).wp P Q a w := by
  simp only [Region.lexB, Bool.and_eq_true] at hB
  have h0 : (Array.replicate l.length false).getD c true = false := by simp [hc]
  refine wp_region_any hm (before_call (c := c) (f := f) (args := args) (R := R) (Q := fun v w1 L a' => ∀ w', orC c w.drew w1 L w' → Q .normal a' w') hcall ?_ (fun v w1 _ L a w hw hq => hq w hw) (by simpa using hc) _ _ _ (by simpa using h0) (fun v w1 hr => ?_))
  · obtain ⟨e, w', v, _, hr⟩ := Calls.some hcall
    exact ⟨v, w', hr⟩
  · have hne : ∀ i, i < l.length → Nonempty (Still (orC c w.drew w1) i) := fun i hi => ⟨⟨Array.replicate l.length false, w.drew, by simp [hi], by unfold orC; rw [h0]; rfl⟩⟩
    have := wpAnyOr_lex (P := P) (C := orC c w.drew w1) (J := ⟨c, f, args, v⟩) (md := .any) hB.1 l 0 (Array.replicate l.length false) a (by simp) (by simpa using hB.2) (h v w1 hr hne)
    simpa using this
theorem or_fact {c k : Nat} {W0 w1 : World} {F : World → Prop} (h0 : F W0) (h1 : F w1) (x : Still (orC c W0 w1) k) : F x.w := by
  have h := x.h
  unfold orC at h
  rw [h]
  split
  · exact h1
  · exact h0
end
attribute [go_sem] orPh orAt orUpon
end Go.Proofs.YtclejidkahpemaaDoor
