/- Regions that draw their order and hold effects in a forced order (calls whose results hang on the world, new blocks, appends, stores), beside what only reads: one walk, in the order of the text. Over any program. -/
import Derived.Test.YtclejidkahpemaaDoorPhaseO
namespace Go.Proofs.YtclejidkahpemaaDoor
open Go.RowKit
/-- An effect of the region: which operation; a call's function and arguments; what it hands back, and the world behind it. -/
structure Step where
  c : Nat
  call : Option (FuncId × Array Value)
  v : Value
  w : World
def look : List Step → Nat → Option Step
  | [], _ => none
  | s :: σ, i => if s.c = i then some s else look σ i
/-- The world ahead of effect i. -/
def prevW : World → List Step → Nat → World
  | W0, [], _ => W0
  | W0, s :: σ, i => if s.c = i then W0 else prevW s.w σ i
/-- Is this one of the worlds that come about? -/
def Among : World → List Step → World → Prop
  | W0, [], w => w = W0
  | W0, s :: σ, w => w = W0 ∨ Among s.w σ w
/-- Does operation c wait for operation i (by an edge of its own)? -/
def waits (md : Region.Mode) (ops : Array Oper) (c i : Nat) : Bool := match ops[c]? with | some o => o.after.any (fun e => Region.binds md e && e.on == i) | none => false
/-- No more than up i effects come ahead of operation i: one that waits for it is that effect, or comes ahead of it. -/
def upOK (md : Region.Mode) (ops : Array Oper) (cs : List Nat) (up : Nat → Nat) (i : Nat) : Bool :=
  decide (cs.length ≤ up i) || (List.range ops.size).any fun j => decide (i < j) && waits md ops j i && (cs[up i]? == some j || decide (up j ≤ up i))
def Closed (md : Region.Mode) (ops : Array Oper) (L : Array Bool) : Prop := ∀ j i, waits md ops j i = true → L.getD j false = true → L.getD i false = true
theorem up_listed {md : Region.Mode} {ops : Array Oper} {cs : List Nat} {up : Nat → Nat} {L : Array Bool} {n : Nat} (hcl : Closed md ops L) (hup : ∀ i, i < ops.size → upOK md ops cs up i = true) (hn : n ≤ cs.length) (hL : ∀ m c, m < n → cs[m]? = some c → L.getD c false = true) :
    ∀ k i, ops.size - i ≤ k → i < ops.size → up i < n → L.getD i false = true
  | 0, i, hk, hi, _ => by omega
  | k + 1, i, hk, hi, hu => by
    have h := hup i hi
    unfold upOK at h
    rw [Bool.or_eq_true] at h
    rcases h with h | h
    · have := of_decide_eq_true h; omega
    · obtain ⟨j, hj, h⟩ := List.any_eq_true.1 h
      simp only [Bool.and_eq_true, Bool.or_eq_true, decide_eq_true_eq, beq_iff_eq] at h
      obtain ⟨⟨h1, h2⟩, h3⟩ := h
      have hjs := List.mem_range.1 hj
      refine hcl j i h2 ?_
      rcases h3 with h3 | h3
      · exact hL _ _ hu h3
      · exact up_listed hcl hup hn hL k j (by omega) hjs (by omega)
/-- A world in which operation i may come up; up: how many effects may be done by then. -/
structure Pre (up : Nat → Nat) (W0 : World) (σ : List Step) (i : Nat) where
  w : World
  all : look σ i = none → Among W0 (σ.take (up i)) w
  h : look σ i ≠ none → w = prevW W0 σ i
/-- What an effect yields. -/
def stepUpon (s : Step) (w : World) (r : Result Next) : Prop :=
  match s.call, r with
  | none, .ok (.value u) w' => w' = s.w ∧ u = s.v
  | none, .ok .skip w' => w' = s.w ∧ s.v = undef
  | some fa, .ok (.enter g as) w' => w' = w ∧ g = fa.1 ∧ as = fa.2
  | _, _ => False
def pureUpon (w : World) (v : Value) (r : Result Next) : Prop :=
  match r with
  | .ok (.value u) w' => w' = w ∧ u = v
  | .ok .skip w' => w' = w ∧ v = undef
  | _ => False
def pnUpon (σ : List Step) (i : Nat) (w : World) (v : Value) (r : Result Next) : Prop :=
  match look σ i with
  | none => pureUpon w v r
  | some s => v = s.v ∧ stepUpon s w r
section
variable {P : Program} {ops : Array Oper} {md : Region.Mode} {up : Nat → Nat} {W0 : World} {σ : List Step}
def pnAt (P : Program) (up : Nat → Nat) (W0 : World) (σ : List Step) (o : Oper) (a : Act) (i : Nat) (x : Pre up W0 σ i) (v : Value) : Prop := pnUpon σ i x.w v ((execOp a.eval o).run P x.w)
def pnPh (P : Program) (up : Nat → Nat) (W0 : World) (σ : List Step) (o : Oper) (a : Act) (i : Nat) (K : Act → Prop) : Prop := ∃ v, (∀ x : Pre up W0 σ i, pnAt P up W0 σ o a i x v) ∧ K (a.put o.dst v)
/-- The operations in the order of the text, from number k on. -/
def wpPn (P : Program) (up : Nat → Nat) (ops : Array Oper) (W0 : World) (σ : List Step) (Q : Array Bool → Act → Prop) : Nat → List Oper → Array Bool → Act → Prop
  | _, [], L, a => Q L a
  | k, o :: rest, L, a => if Region.wanted o (yielded ops a.tmps) then pnPh P up W0 σ o a k (wpPn P up ops W0 σ Q (k + 1) rest (L.setIfInBounds k true)) else look σ k = none ∧ wpPn P up ops W0 σ Q (k + 1) rest (L.setIfInBounds k true) (a.put o.dst undef)
theorem wpPn_nil {Q : Array Bool → Act → Prop} {k : Nat} {L : Array Bool} {a : Act} (h : Q L a) : wpPn P up ops W0 σ Q k [] L a := h
theorem wpPn_step {Q : Array Bool → Act → Prop} {a : Act} {o : Oper} {rest : List Oper} {k : Nat} {L : Array Bool}
    (h : ∀ K : Act → Prop, (∀ a, wpPn P up ops W0 σ Q (k + 1) rest (L.setIfInBounds k true) a → K a) → if Region.wanted o (yielded ops a.tmps) then pnPh P up W0 σ o a k K else look σ k = none ∧ K (a.put o.dst undef)) : wpPn P up ops W0 σ Q k (o :: rest) L a :=
  h _ (fun _ h => h)
def pnOp (P : Program) (up : Nat → Nat) (ops : Array Oper) (W0 : World) (σ : List Step) (i : Nat) (K : Act → Prop) (a : Act) : Prop :=
  match ops[i]? with
  | none => K a
  | some o => if Region.wanted o (yielded ops a.tmps) then pnPh P up W0 σ o a i K else look σ i = none ∧ K (a.put o.dst undef)
theorem pn_mono {o : Oper} {a : Act} {i : Nat} {K K' : Act → Prop} (h : ∀ a, K a → K' a) (hh : pnPh P up W0 σ o a i K) : pnPh P up W0 σ o a i K' :=
  let ⟨v, h1, h2⟩ := hh
  ⟨v, h1, h _ h2⟩
theorem pnOp_mono {i : Nat} {a : Act} {K K' : Act → Prop} (h : ∀ a, K a → K' a) (hh : pnOp P up ops W0 σ i K a) : pnOp P up ops W0 σ i K' a := by
  unfold pnOp at *
  split
  · exact h _ (by simpa [*] using hh)
  · rename_i o ho
    simp only [ho] at hh
    split
    · rename_i hw; simp only [hw, if_true] at hh; exact pn_mono h hh
    · rename_i hw; simp only [hw] at hh; exact ⟨hh.1, h _ hh.2⟩
def wpAnyPn (P : Program) (md : Region.Mode) (up : Nat → Nat) (ops : Array Oper) (W0 : World) (σ : List Step) (Q : Array Bool → Act → Prop) : Nat → Array Bool → Act → Prop
  | 0, listed, a => Region.ready md ops listed = [] ∧ Q listed a
  | fuel + 1, listed, a =>
    (Region.ready md ops listed = [] → Q listed a) ∧
    ∀ i ∈ Region.ready md ops listed, pnOp P up ops W0 σ i (wpAnyPn P md up ops W0 σ Q fuel (listed.setIfInBounds i true)) a
def YieldsPn (P : Program) (up : Nat → Nat) (ops : Array Oper) (W0 : World) (σ : List Step) (i : Nat) (o : Oper) (v : Value) (a : Act) : Prop :=
  (Region.wanted o (yielded ops a.tmps) = true ∧ ∀ x : Pre up W0 σ i, pnAt P up W0 σ o a i x v) ∨
  (Region.wanted o (yielded ops a.tmps) = false ∧ look σ i = none ∧ v = undef)
theorem YieldsPn.pnOp {i : Nat} {o : Oper} {v : Value} {a : Act} (hi : ops[i]? = some o) (hy : YieldsPn P up ops W0 σ i o v a) {K : Act → Prop} (h : K (a.put o.dst v)) : pnOp P up ops W0 σ i K a := by
  unfold Proofs.YtclejidkahpemaaDoor.pnOp
  simp only [hi]
  rcases hy with ⟨hw, hv⟩ | ⟨hw, hj, rfl⟩
  · simp only [hw, if_true]; exact ⟨v, hv, h⟩
  · simp only [hw, Bool.false_eq_true, if_false]; exact ⟨hj, h⟩
theorem YieldsPn.of_same {i : Nat} {o : Oper} {v : Value} {a a' : Act} (hy : YieldsPn P up ops W0 σ i o v a) (he : execOp a'.eval o = execOp a.eval o)
    (hw : Region.wanted o (yielded ops a'.tmps) = Region.wanted o (yielded ops a.tmps)) : YieldsPn P up ops W0 σ i o v a' := by
  unfold YieldsPn pnAt at *
  rw [he, hw]
  exact hy
theorem yieldsPn_of_pnOp {i : Nat} {o : Oper} {a : Act} {K : Act → Prop} (hi : ops[i]? = some o) (h : pnOp P up ops W0 σ i K a) : ∃ v, YieldsPn P up ops W0 σ i o v a ∧ K (a.put o.dst v) := by
  unfold pnOp at h
  simp only [hi] at h
  by_cases hw : Region.wanted o (yielded ops a.tmps) = true
  · simp only [hw, if_true] at h
    obtain ⟨v, h1, h2⟩ := h
    exact ⟨v, .inl ⟨hw, h1⟩, h2⟩
  · simp only [hw] at h
    exact ⟨undef, .inr ⟨by simpa using hw, h.1, rfl⟩, h.2⟩
theorem pnOp_put {i j : Nat} {oi oj : Oper} {v : Value} (hj : ops[j]? = some oj) (hap : oi.apart ops oj = true)
    (hsi : ∀ cs b, oi.op ≠ .select cs b) (hsj : ∀ cs b, oj.op ≠ .select cs b) {K : Act → Prop} {a : Act}
    (hy : YieldsPn P up ops W0 σ i oi v a) (h : pnOp P up ops W0 σ j K (a.put oi.dst v)) :
    pnOp P up ops W0 σ j (fun a' => YieldsPn P up ops W0 σ i oi v a' ∧ K (a'.put oi.dst v)) a := by
  obtain ⟨h1, h2, h3⟩ := Oper.apart_spec hap
  have keep : ∀ (a : Act), YieldsPn P up ops W0 σ i oi v a → ∀ u, YieldsPn P up ops W0 σ i oi v (a.put oj.dst u) := fun a hy u =>
    hy.of_same (execOp_put oi hsi a oj.dst u h3) (wanted_put oi a oj.dst u h3)
  unfold pnOp at *
  simp only [hj] at *
  rw [wanted_put oj a oi.dst v h1] at h
  split
  · rename_i hw
    simp only [hw, if_true] at h
    obtain ⟨u, hu, hn⟩ := h
    refine ⟨u, fun x => ?_, keep a hy u, by rw [← Act.put_comm a v u h2]; exact hn⟩
    have := hu x
    unfold pnAt at *
    rwa [execOp_put oj hsj a oi.dst v h1] at this
  · rename_i hw
    simp only [hw] at h
    exact ⟨h.1, keep a hy _, by rw [← Act.put_comm a v undef h2]; exact h.2⟩
theorem wpAnyPn_first {Q : Array Bool → Act → Prop} {i : Nat} {oi : Oper} {v : Value} (hi : ops[i]? = some oi) (hsel : ∀ (j : Nat) (o : Oper) cs b, ops[j]? = some o → o.op ≠ .select cs b) :
    ∀ (fuel : Nat) (listed : Array Bool) (a : Act),
      (∀ j oj, ops[j]? = some oj → j ≠ i → listed.getD j true = false → (∀ e ∈ oj.after, Region.binds md e = true → e.on ≠ i) → oi.apart ops oj = true) →
      i ∈ Region.ready md ops listed → YieldsPn P up ops W0 σ i oi v a →
      wpAnyPn P md up ops W0 σ Q fuel (listed.setIfInBounds i true) (a.put oi.dst v) → wpAnyPn P md up ops W0 σ Q (fuel + 1) listed a := by
  intro fuel
  induction fuel with
  | zero =>
    intro listed a _ hr hy H
    refine ⟨fun h => (by rw [h] at hr; cases hr), fun j hj => ?_⟩
    by_cases hji : j = i
    · subst hji; exact hy.pnOp hi H
    · have := ready_mono hj hji
      rw [H.1] at this
      cases this
  | succ fuel ih =>
    intro listed a hfree hr hy H
    refine ⟨fun h => (by rw [h] at hr; cases hr), fun j hj => ?_⟩
    by_cases hji : j = i
    · subst hji; exact hy.pnOp hi H
    · have h1 := H.2 j (ready_mono hj hji)
      obtain ⟨hjun, oj, hoj, hall⟩ := mem_ready.1 hj
      have hnot : ∀ e ∈ oj.after, Region.binds md e = true → e.on ≠ i := fun e he hb heq => by
        have h1 := hall e he hb
        have h0 := (mem_ready.1 hr).1
        rw [heq] at h1
        rcases Nat.lt_or_ge i listed.size with h' | h'
        · simp [h'] at h0 h1; rw [h0] at h1; cases h1
        · simp [Array.getElem?_eq_none h'] at h1
      have h2 := pnOp_put hoj (hfree j oj hoj hji hjun hnot) (fun cs b => hsel i oi cs b hi) (fun cs b => hsel j oj cs b hoj) hy h1
      have hfree' : ∀ k ok, ops[k]? = some ok → k ≠ i → (listed.setIfInBounds j true).getD k true = false →
          (∀ e ∈ ok.after, Region.binds md e = true → e.on ≠ i) → oi.apart ops ok = true := fun k ok hk hki hun hno => by
        refine hfree k ok hk hki ?_ hno
        by_cases hjk : j = k
        · subst hjk; exact hjun
        · rw [getD_set_ne true hjk] at hun; exact hun
      refine pnOp_mono (fun a' h3 => ih (listed.setIfInBounds j true) a' hfree' (ready_mono hr (Ne.symm hji)) h3.1 ?_) h2
      rw [Array.setIfInBounds_comm _ _ hji]
      exact h3.2
theorem wpAnyPn_lex {Q : Array Bool → Act → Prop} (hs : Region.noSelect ops = true) : ∀ (l : List Oper) (k : Nat) (listed : Array Bool) (a : Act), (∀ j, l[j]? = ops[k + j]?) →
    Region.lexFrom md ops l.length k listed = true → wpPn P up ops W0 σ Q k l listed a → wpAnyPn P md up ops W0 σ Q l.length listed a
  | [], _, _, _, _, hB, h => ⟨by simpa [Region.lexFrom] using hB, h⟩
  | o :: l, k, listed, a, hl, hB, h => by
    have h0 : ops[k]? = some o := by simpa using (hl 0).symm
    simp only [List.length_cons, Region.lexFrom, Bool.and_eq_true] at hB
    obtain ⟨⟨hr, hf⟩, hB'⟩ := hB
    have hst : pnOp P up ops W0 σ k (wpPn P up ops W0 σ Q (k + 1) l (listed.setIfInBounds k true)) a := by unfold pnOp; simp only [h0]; exact h
    obtain ⟨v, hy, hK⟩ := yieldsPn_of_pnOp h0 hst
    exact wpAnyPn_first h0 (Region.noSelect_spec hs) l.length listed a (Region.free_spec h0 hf) (by simpa using hr) hy
      (wpAnyPn_lex hs l (k + 1) _ _ (fun j => by have := hl (j + 1); simpa [Nat.add_assoc, Nat.add_comm 1 j] using this) hB' hK)


/-- The world that the effects listed in L leave. -/
def stageW : World → List Step → Array Bool → World
  | W0, [], _ => W0
  | W0, s :: σ, L => if L.getD s.c true then stageW s.w σ L else W0
/-- It holds of each world that comes about. -/
def AllAmong (F : World → Prop) : World → List Step → Prop
  | W0, [] => F W0
  | W0, s :: σ => F W0 ∧ AllAmong F s.w σ
def lastW : World → List Step → World
  | W0, [] => W0
  | _, s :: σ => lastW s.w σ
theorem look_app_none {dn τ : List Step} {i : Nat} (h : i ∉ dn.map (·.c)) : look (dn ++ τ) i = look τ i := by
  induction dn with
  | nil => rfl
  | cons s dn ih =>
    simp only [List.map_cons, List.mem_cons, not_or] at h
    rw [List.cons_append, look, if_neg (fun e => h.1 e.symm)]
    exact ih h.2
theorem look_none {τ : List Step} {i : Nat} (h : i ∉ τ.map (·.c)) : look τ i = none := by
  have := look_app_none (τ := []) h
  rwa [List.append_nil] at this
theorem prevW_app {dn : List Step} {s : Step} {τ : List Step} (h : s.c ∉ dn.map (·.c)) : ∀ W0, prevW W0 (dn ++ s :: τ) s.c = lastW W0 dn := by
  induction dn with
  | nil => intro W0; rw [List.nil_append, prevW, if_pos rfl]; rfl
  | cons t dn ih =>
    intro W0
    simp only [List.map_cons, List.mem_cons, not_or] at h
    rw [List.cons_append, prevW, if_neg (fun e => h.1 e.symm)]
    exact ih h.2 t.w
theorem among_last {dn τ : List Step} : ∀ W0, Among W0 (dn ++ τ) (lastW W0 dn) := by
  induction dn with
  | nil => intro W0; cases τ with | nil => rfl | cons => exact .inl rfl
  | cons t dn ih => intro W0; exact .inr (ih t.w)
theorem lastW_snoc {dn : List Step} {s : Step} : ∀ W0, lastW W0 (dn ++ [s]) = s.w := by
  induction dn with
  | nil => intro W0; rfl
  | cons t dn ih => intro W0; exact ih t.w
theorem stage_at {dn τ : List Step} {L : Array Bool} (hd : ∀ s ∈ dn, L.getD s.c true = true) (ht : ∀ s ∈ τ, L.getD s.c true = false) : ∀ W0, stageW W0 (dn ++ τ) L = lastW W0 dn := by
  induction dn with
  | nil =>
    intro W0
    cases τ with
    | nil => rfl
    | cons s τ => rw [List.nil_append, stageW, ht s (List.mem_cons_self ..)]; rfl
  | cons t dn ih =>
    intro W0
    rw [List.cons_append, stageW, hd t (List.mem_cons_self ..), if_pos rfl]
    exact ih (fun s hs => hd s (List.mem_cons_of_mem _ hs)) t.w
/-- The effects to come, and what they may come to. -/
inductive Plan (P : Program) : World → (List Step → Prop) → Prop
  | done (w : World) : Plan P w (· = [])
  | call {w : World} (c : Nat) (f : FuncId) (args : Array Value) (R : Value → World → Prop) (T : Value → World → List Step → Prop) (h : Calls P f args w fun e w' => ∃ v, e = .returned v ∧ R v w') (hT : ∀ v w', R v w' → Plan P w' (T v w')) :
      Plan P w (fun σ => ∃ v w' τ, R v w' ∧ T v w' τ ∧ σ = ⟨c, some (f, args), v, w'⟩ :: τ)
  | own {w : World} (c : Nat) (v : Value) (w' : World) (T : List Step → Prop) (hT : Plan P w' T) : Plan P w (fun σ => ∃ τ, T τ ∧ σ = ⟨c, none, v, w'⟩ :: τ)
theorem Plan.some {w : World} {T : List Step → Prop} (h : Plan P w T) : ∃ σ, T σ := by
  induction h with
  | done w => exact ⟨[], rfl⟩
  | call c f args R T h hT ih =>
    obtain ⟨e, w', v, _, hr⟩ := Calls.some h
    obtain ⟨τ, ht⟩ := ih v w' hr
    exact ⟨_, v, w', τ, hr, ht, rfl⟩
  | own c v w' T hT ih =>
    obtain ⟨τ, ht⟩ := ih
    exact ⟨_, τ, ht, rfl⟩
/-- Each effect waits for the one ahead of it. -/
def Chained (md : Region.Mode) (ops : Array Oper) : List Nat → Prop
  | [] => True
  | [_] => True
  | a :: b :: r => (∀ L, b ∈ Region.ready md ops L → L.getD a false = true) ∧ Chained md ops (b :: r)
def chainedB (md : Region.Mode) (ops : Array Oper) : List Nat → Bool
  | [] => true
  | [_] => true
  | a :: b :: r => (match ops[b]? with | some o => o.after.any (fun e => Region.binds md e && e.on == a) | none => true) && chainedB md ops (b :: r)
theorem chained_of : ∀ {cs : List Nat}, chainedB md ops cs = true → Chained md ops cs
  | [], _ => trivial
  | [_], _ => trivial
  | a :: b :: r, h => by
    rw [chainedB, Bool.and_eq_true] at h
    refine ⟨fun L hb => ?_, chained_of h.2⟩
    obtain ⟨_, o, ho, hall⟩ := mem_ready.1 hb
    have h1 := h.1
    rw [ho] at h1
    simp only [Array.any_eq_true'] at h1
    obtain ⟨e, he, hh⟩ := h1
    rw [Bool.and_eq_true, beq_iff_eq] at hh
    rw [← hh.2]
    exact hall e he hh.1
theorem chained_app {as bs : List Nat} (h : Chained md ops (as ++ bs)) : Chained md ops bs := by
  induction as with
  | nil => exact h
  | cons a as ih =>
    refine ih ?_
    cases hab : as ++ bs with
    | nil => trivial
    | cons b r =>
      rw [List.cons_append, hab] at h
      exact h.2
/-- Of the effects still to come only the first may come up. -/
theorem first_ready {L : Array Bool} {i : Nat} (hi : i ∈ Region.ready md ops L) : ∀ {s : Step} {τ : List Step}, Chained md ops ((s :: τ).map (·.c)) → (∀ t ∈ s :: τ, L.getD t.c true = false) → i ∈ (s :: τ).map (·.c) → i = s.c
  | s, [], _, _, h => by simpa using h
  | s, t :: τ, hc, hL, h => by
    simp only [List.map_cons, List.mem_cons] at h
    rcases h with h | h
    · exact h
    · have e := first_ready hi (s := t) (τ := τ) hc.2 (fun x hx => hL x (List.mem_cons_of_mem _ hx)) (by simpa using h)
      subst e
      have h1 := hc.1 L hi
      have h2 := hL s (List.mem_cons_self ..)
      rcases Nat.lt_or_ge s.c L.size with hs | hs
      · simp [hs] at h1 h2; rw [h1] at h2; cases h2
      · simp [hs] at h2
theorem before_plan {cs : List Nat} {Q' : Exit → Act → World → Prop} {W0 : World} {Q : List Step → Array Bool → Act → Prop} (hcs : Chained md ops cs) (hnd : cs.Nodup) (hup : ∀ i, i < ops.size → upOK md ops cs up i = true) (hQ : ∀ σ L a, Q σ L a → Q' .normal a (stageW W0 σ L)) :
    ∀ (fuel : Nat) (dn : List Step) (T : List Step → Prop) (w : World) (L : Array Bool) (a : Act), w = lastW W0 dn → Plan P w T → (∀ σ, T σ → (dn ++ σ).map (·.c) = cs) → (∀ s ∈ dn, L.getD s.c true = true) → (∀ σ, T σ → ∀ s ∈ σ, L.getD s.c true = false) → ((∀ s ∈ dn, L.getD s.c false = true) ∧ Closed md ops L) →
      (∀ σ, T σ → wpAnyPn P md up ops W0 (dn ++ σ) (Q (dn ++ σ)) fuel L a) → wpAny P md ops Q' fuel L a w
  | 0, dn, T, w, L, a, hw, hp, hc, hd, ht, _, h => by
    obtain ⟨σ, hσ⟩ := hp.some
    have := hQ _ _ _ (h σ hσ).2
    rw [stage_at hd (ht σ hσ), ← hw] at this
    exact ⟨(h σ hσ).1, this⟩
  | fuel + 1, dn, T, w, L, a, hw, hp, hc, hd, ht, hv, h => by
    obtain ⟨σ0, hσ0⟩ := hp.some
    refine ⟨fun h0 => ?_, fun i hi => ?_⟩
    · have := hQ _ _ _ ((h σ0 hσ0).1 h0)
      rw [stage_at hd (ht σ0 hσ0), ← hw] at this
      exact this
    obtain ⟨hn, o, ho, hall⟩ := mem_ready.1 hi
    have hmon : ∀ k j : Nat, L.getD j false = true → (L.setIfInBounds k true).getD j false = true := fun k j hj => by
      by_cases e : k = j
      · subst e
        rcases Nat.lt_or_ge k L.size with hs | hs
        · simp [hs]
        · simp [Nat.not_lt.2 hs] at hj
      · rw [getD_set_ne false e]; exact hj
    have hnw : ∀ j, waits md ops i j = true → L.getD j false = true := fun j hj => by
      unfold waits at hj
      rw [ho] at hj
      simp only [Array.any_eq_true'] at hj
      obtain ⟨e, he, hb⟩ := hj
      rw [Bool.and_eq_true, beq_iff_eq] at hb
      rw [← hb.2]
      exact hall e he hb.1
    have hclN : Closed md ops (L.setIfInBounds i true) := fun j k hw hj => by
      by_cases e : i = j
      · subst e; exact hmon _ _ (hnw k hw)
      · rw [getD_set_ne false e] at hj; exact hmon _ _ (hv.2 j k hw hj)
    have hiN : (L.setIfInBounds i true).getD i false = true := by
      rcases Nat.lt_or_ge i L.size with hz | hz
      · simp [hz]
      · simp [Nat.not_lt.2 hz] at hn
    have hfew : ∀ σ, T σ → dn.length ≤ up i := fun σ hσ => by
      rcases Nat.lt_or_ge (up i) dn.length with hlt | hge
      · have hle : dn.length ≤ cs.length := by rw [← hc σ hσ]; simp
        have h1 := up_listed hv.2 hup hle (fun m c hm hmc => by
          rw [← hc σ hσ, List.map_append, List.getElem?_append_left (by simpa using hm), List.getElem?_map] at hmc
          obtain ⟨s, hs, rfl⟩ := Option.map_eq_some_iff.1 hmc
          exact hv.1 s (List.mem_of_getElem? hs)) _ i (Nat.le_refl _) (Array.getElem?_eq_some_iff.1 ho).1 hlt
        rcases Nat.lt_or_ge i L.size with hz | hz
        · simp [hz] at h1 hn; rw [h1] at hn; cases hn
        · simp [Nat.not_lt.2 hz] at h1
      · exact hge
    have hidn : i ∉ dn.map (·.c) := fun hm => by
      obtain ⟨s, hs, rfl⟩ := List.mem_map.1 hm
      rw [hd s hs] at hn; cases hn
    have hh := fun σ hσ => (h σ hσ).2 i hi
    unfold pnOp at hh
    unfold wpOp
    simp only [ho] at hh ⊢
    have hch : ∀ σ, T σ → Chained md ops (σ.map (·.c)) := fun σ hσ => by
      have := hcs
      rw [← hc σ hσ, List.map_append] at this
      exact chained_app this
    by_cases hie : i ∈ σ0.map (·.c)
    · -- the first effect that is still to come
      cases σ0 with
      | nil => simp at hie
      | cons s0 τ0 =>
        have his := first_ready hi (hch _ hσ0) (ht _ hσ0) hie
        subst his
        have hlook : ∀ (s : Step) (τ : List Step), s.c = s0.c → look (dn ++ s :: τ) s0.c = some s := fun s τ e => by rw [look_app_none hidn, look, if_pos e]
        have vnext : ∀ s : Step, s.c = s0.c → (∀ x ∈ dn ++ [s], (L.setIfInBounds s0.c true).getD x.c false = true) ∧ Closed md ops (L.setIfInBounds s0.c true) := fun s e => ⟨fun x hx => by
          rcases List.mem_append.1 hx with hx | hx
          · exact hmon _ _ (hv.1 x hx)
          · simp only [List.mem_singleton] at hx
            subst hx
            rw [e]; exact hiN, hclN⟩
        have use : ∀ (s : Step) (τ : List Step) (u : Value), s.c = s0.c → (∀ x : Pre up W0 (dn ++ s :: τ) s0.c, pnAt P up W0 (dn ++ s :: τ) o a s0.c x u) → u = s.v ∧ stepUpon s w ((execOp a.eval o).run P w) := fun s τ u e hx => by
          have h1 : pnUpon (dn ++ s :: τ) s0.c w u ((execOp a.eval o).run P w) := hx ⟨w, fun hn => (by rw [hlook _ _ e] at hn; cases hn), fun _ => by rw [← e, prevW_app (by rw [e]; exact hidn), hw]⟩
          unfold pnUpon at h1
          rw [hlook _ _ e] at h1
          exact h1
        split
        · rename_i hwant
          simp only [hwant, if_true] at hh
          refine .inl ?_
          cases hp with
          | done => cases hσ0
          | call c f args R T' hcall hT =>
            obtain ⟨v0, w0, τ1, hr0, ht0, he0⟩ := hσ0
            injection he0 with he0 _
            subst he0
            obtain ⟨u, h1, h2⟩ := hh _ ⟨v0, w0, τ1, hr0, ht0, rfl⟩
            have h3 := use _ _ _ rfl h1
            unfold Oper.wp
            generalize hrun : (execOp a.eval o).run P w = r at *
            cases r with
            | halt x w' => simp [stepUpon] at h3
            | ok n w' =>
              cases n with
              | enter g as =>
                simp only [stepUpon] at h3
                obtain ⟨_, e1, rfl, rfl⟩ := h3
                subst e1
                simp only [Oper.upon]
                refine hcall.mono fun e w2 ⟨v2, he, hr2⟩ => ?_
                subst he
                refine before_plan hcs hnd hup hQ fuel (dn ++ [⟨c, some (g, as), v2, w2⟩]) (T' v2 w2) w2 _ _ (lastW_snoc (dn := dn) (s := ⟨c, some (g, as), v2, w2⟩) W0).symm (hT v2 w2 hr2) (fun σ hσ => ?_) (fun s hs => ?_) (fun σ hσ s hs => ?_) (vnext _ rfl) (fun σ hσ => ?_)
                · have := hc _ ⟨v2, w2, σ, hr2, hσ, rfl⟩
                  simpa using this
                · rcases List.mem_append.1 hs with hs | hs
                  · by_cases e : s.c = c
                    · rw [e]; exact getD_set_self _ _
                    · rw [getD_set_ne true (fun e' => e e'.symm)]; exact hd s hs
                  · simp only [List.mem_singleton] at hs
                    subst hs
                    exact getD_set_self _ _
                · have hne : s.c ≠ c := fun e => by
                    have h1 := hc _ ⟨v2, w2, σ, hr2, hσ, rfl⟩
                    rw [← h1, List.map_append, List.map_cons] at hnd
                    have h2 := (List.nodup_append.1 hnd).2.1
                    rw [List.nodup_cons] at h2
                    exact h2.1 (List.mem_map.2 ⟨s, hs, e⟩)
                  rw [getD_set_ne true (fun e' => hne e'.symm)]
                  exact ht _ ⟨v2, w2, σ, hr2, hσ, rfl⟩ s (List.mem_cons_of_mem _ hs)
                · obtain ⟨u2, k1, k2⟩ := hh _ ⟨v2, w2, σ, hr2, hσ, rfl⟩
                  have k3 := use ⟨c, _, v2, w2⟩ _ _ rfl k1
                  rw [k3.1] at k2
                  rw [List.append_assoc]
                  exact k2
              | _ => simp [stepUpon] at h3
          | own c v w1 T' hT =>
            obtain ⟨τ1, ht0, he0⟩ := hσ0
            injection he0 with he0 _
            subst he0
            obtain ⟨u, h1, h2⟩ := hh _ ⟨τ1, ht0, rfl⟩
            have h3 := use _ _ _ rfl h1
            have go : ∀ K : Act → World → Prop, (∀ σ, T' σ → wpAnyPn P md up ops W0 (dn ++ ⟨c, none, v, w1⟩ :: σ) (Q (dn ++ ⟨c, none, v, w1⟩ :: σ)) fuel (L.setIfInBounds c true) (a.put o.dst v)) → wpAny P md ops Q' fuel (L.setIfInBounds c true) (a.put o.dst v) w1 := fun _ hk => by
              refine before_plan hcs hnd hup hQ fuel (dn ++ [⟨c, none, v, w1⟩]) T' w1 _ _ (lastW_snoc (dn := dn) (s := ⟨c, none, v, w1⟩) W0).symm hT (fun σ hσ => ?_) (fun s hs => ?_) (fun σ hσ s hs => ?_) (vnext _ rfl) (fun σ hσ => ?_)
              · have := hc _ ⟨σ, hσ, rfl⟩
                simpa using this
              · rcases List.mem_append.1 hs with hs | hs
                · by_cases e : s.c = c
                  · rw [e]; exact getD_set_self _ _
                  · rw [getD_set_ne true (fun e' => e e'.symm)]; exact hd s hs
                · simp only [List.mem_singleton] at hs
                  subst hs
                  exact getD_set_self _ _
              · have hne : s.c ≠ c := fun e => by
                  have h1 := hc _ ⟨σ, hσ, rfl⟩
                  rw [← h1, List.map_append, List.map_cons] at hnd
                  have h2 := (List.nodup_append.1 hnd).2.1
                  rw [List.nodup_cons] at h2
                  exact h2.1 (List.mem_map.2 ⟨s, hs, e⟩)
                rw [getD_set_ne true (fun e' => hne e'.symm)]
                exact ht _ ⟨σ, hσ, rfl⟩ s (List.mem_cons_of_mem _ hs)
              · rw [List.append_assoc]
                exact hk σ hσ
            have next : ∀ σ, T' σ → wpAnyPn P md up ops W0 (dn ++ ⟨c, none, v, w1⟩ :: σ) (Q (dn ++ ⟨c, none, v, w1⟩ :: σ)) fuel (L.setIfInBounds c true) (a.put o.dst v) := fun σ hσ => by
              obtain ⟨u2, k1, k2⟩ := hh _ ⟨σ, hσ, rfl⟩
              have k3 := use _ _ _ rfl k1
              rw [k3.1] at k2
              exact k2
            unfold Oper.wp
            generalize hrun : (execOp a.eval o).run P w = r at *
            cases r with
            | halt x w' => simp [stepUpon] at h3
            | ok n w' =>
              cases n with
              | value z =>
                simp only [stepUpon] at h3
                obtain ⟨_, e1, e2⟩ := h3
                simp only [Oper.upon]
                rw [e1, e2]
                exact go (fun _ _ => True) next
              | skip =>
                simp only [stepUpon] at h3
                obtain ⟨_, e1, e2⟩ := h3
                simp only [Oper.upon]
                rw [e1, ← e2]
                exact go (fun _ _ => True) next
              | _ => simp [stepUpon] at h3
        · rename_i hwant
          simp only [hwant] at hh
          have := (hh _ hσ0).1
          rw [hlook _ _ rfl] at this
          cases this
    · -- an operation that only reads
      have hall : ∀ σ, T σ → i ∉ σ.map (·.c) := fun σ hσ hm => hie (by
        have h1 := hc σ hσ
        have h2 := hc σ0 hσ0
        rw [List.map_append] at h1 h2
        have h3 : σ.map (·.c) = σ0.map (·.c) := List.append_cancel_left (h1.trans h2.symm)
        rw [← h3]; exact hm)
      have hlook : ∀ σ, T σ → look (dn ++ σ) i = none := fun σ hσ => by rw [look_app_none hidn, look_none (hall σ hσ)]
      have hset : ∀ s, (s ∈ dn ∨ ∃ σ, T σ ∧ s ∈ σ) → (L.setIfInBounds i true).getD s.c true = L.getD s.c true := fun s hs => by
        refine getD_set_ne true (fun e => ?_)
        rcases hs with hs | ⟨σ, hσ, hs⟩
        · exact hidn (List.mem_map.2 ⟨s, hs, e.symm⟩)
        · exact hall σ hσ (List.mem_map.2 ⟨s, hs, e.symm⟩)
      have next : ∀ v, (∀ σ, T σ → wpAnyPn P md up ops W0 (dn ++ σ) (Q (dn ++ σ)) fuel (L.setIfInBounds i true) (a.put o.dst v)) → wpAny P md ops Q' fuel (L.setIfInBounds i true) (a.put o.dst v) w := fun v hk =>
        before_plan hcs hnd hup hQ fuel dn T w _ _ hw hp hc (fun s hs => (hset s (.inl hs)).trans (hd s hs)) (fun σ hσ s hs => (hset s (.inr ⟨σ, hσ, hs⟩)).trans (ht σ hσ s hs)) ⟨fun s hs => hmon _ _ (hv.1 s hs), hclN⟩ hk
      split
      · rename_i hwant
        simp only [hwant, if_true] at hh
        refine .inl ?_
        have hamong : ∀ σ, T σ → Among W0 ((dn ++ σ).take (up i)) (lastW W0 dn) := fun σ hσ => by
          rw [List.take_append, List.take_of_length_le (hfew σ hσ)]
          exact among_last W0
        have key : ∀ σ (hσ : T σ), ∃ u, pureUpon w u ((execOp a.eval o).run P w) ∧ wpAnyPn P md up ops W0 (dn ++ σ) (Q (dn ++ σ)) fuel (L.setIfInBounds i true) (a.put o.dst u) := fun σ hσ => by
          obtain ⟨u, h1, h2⟩ := hh σ hσ
          have h3 : pnUpon (dn ++ σ) i w u ((execOp a.eval o).run P w) := h1 ⟨w, fun _ => (by rw [hw]; exact hamong σ hσ), fun hx => absurd (hlook σ hσ) hx⟩
          unfold pnUpon at h3
          rw [hlook σ hσ] at h3
          exact ⟨u, h3, h2⟩
        unfold Oper.wp
        generalize (execOp a.eval o).run P w = r at *
        obtain ⟨u0, q0, _⟩ := key σ0 hσ0
        cases r with
        | halt x w' => simp [pureUpon] at q0
        | ok n w' =>
          cases n with
          | value z =>
            simp only [pureUpon] at q0
            obtain ⟨e1, e2⟩ := q0
            simp only [Oper.upon]
            subst e1
            refine next z (fun σ hσ => ?_)
            obtain ⟨u, q, k⟩ := key σ hσ
            simp only [pureUpon] at q
            rw [q.2]; exact k
          | skip =>
            simp only [pureUpon] at q0
            obtain ⟨e1, e2⟩ := q0
            simp only [Oper.upon]
            subst e1
            refine next undef (fun σ hσ => ?_)
            obtain ⟨u, q, k⟩ := key σ hσ
            simp only [pureUpon] at q
            rw [← q.2]; exact k
          | _ => simp [pureUpon] at q0
      · rename_i hwant
        simp only [hwant] at hh
        exact next undef (fun σ hσ => (hh σ hσ).2)
theorem AllAmong.of {F : World → Prop} : ∀ {σ : List Step} {W0 w : World}, AllAmong F W0 σ → Among W0 σ w → F w
  | [], _, _, h, e => e ▸ h
  | _ :: _, _, _, h, .inl e => e ▸ h.1
  | _ :: _, _, _, h, .inr e => AllAmong.of h.2 e
/-- A fact on the world that operation k, which only reads, may meet. -/
theorem pn_fact {F : World → Prop} {k : Nat} (h : AllAmong F W0 (σ.take (up k))) (hl : look σ k = none) (x : Pre up W0 σ k) : F x.w := h.of (x.all hl)
theorem stage_full : ∀ {σ : List Step} {W0 : World} {L : Array Bool}, (∀ c ∈ σ.map (·.c), L.getD c true = true) → stageW W0 σ L = lastW W0 σ
  | [], _, _, _ => rfl
  | s :: σ, _, L, h => by
    rw [stageW, if_pos (h s.c (by simp)), lastW]
    exact stage_full fun c hc => h c (by simp only [List.map_cons, List.mem_cons]; exact .inr hc)
def upB (md : Region.Mode) (ops : Array Oper) (cs : List Nat) (up : Nat → Nat) : Bool := (List.range ops.size).all (upOK md ops cs up)
/-- One walk serves every order; cs: the effects' numbers, in their forced order; up: how many of them may be done ahead of each operation. -/
theorem wp_region_plan {id : Nat} {Q : Exit → Act → World → Prop} {a : Act} {w : World} {l : List Oper} (cs : List Nat) (up : Nat → Nat) (T : List Step → Prop) (hp : Plan P w.drew T) (hm : P.follows .mixedOrders = true) (hB : Region.lexB .any l.toArray = true) (hC : chainedB .any l.toArray cs = true) (hU : upB .any l.toArray cs up = true) (hnd : cs.Nodup) (hlt : ∀ c ∈ cs, c < l.length)
    (hT : ∀ σ, T σ → σ.map (·.c) = cs)
    (h : ∀ σ, T σ → (∀ i, Nonempty (Pre up w.drew σ i)) → wpPn P up l.toArray w.drew σ (fun L a' => Q .normal a' (stageW w.drew σ L)) 0 l (Array.replicate l.length false) a) : (Code.region id l.toArray true).wp P Q a w := by
  simp only [Region.lexB, Bool.and_eq_true] at hB
  refine wp_region_any hm (before_plan (cs := cs) (W0 := w.drew) (Q := fun σ L a' => Q .normal a' (stageW w.drew σ L)) (chained_of hC) hnd (fun i hi => List.all_eq_true.1 hU i (List.mem_range.2 hi)) (fun σ L a h => h) _ [] T _ _ _ rfl hp (fun σ hσ => hT σ hσ) (fun s hs => by simp at hs) (fun σ hσ s hs => ?_) ⟨fun s hs => by simp at hs, fun j i _ hj => by simp [Array.getD] at hj⟩ (fun σ hσ => ?_))
  · have := hlt s.c (by rw [← hT σ hσ]; exact List.mem_map.2 ⟨s, hs, rfl⟩)
    simp [this]
  · have hne : ∀ i, Nonempty (Pre up w.drew σ i) := fun i => by
      by_cases hl : look σ i = none
      · exact ⟨⟨w.drew, fun _ => (by cases σ.take (up i) with | nil => rfl | cons => exact .inl rfl), fun hx => absurd hl hx⟩⟩
      · exact ⟨⟨prevW w.drew σ i, fun hx => absurd hx hl, fun _ => rfl⟩⟩
    have := wpAnyPn_lex (P := P) (W0 := w.drew) (σ := σ) (md := .any) hB.1 l 0 (Array.replicate l.length false) a (by simp) (by simpa using hB.2) (h σ hσ hne)
    simpa using this
/-- The world that an effect meets is known. -/
theorem pn_at {i : Nat} {s : Step} (hl : look σ i = some s) (x : Pre up W0 σ i) : x.w = prevW W0 σ i := x.h (by rw [hl]; exact fun h => by cases h)
/-- An append among the effects. -/
theorem pn_append {o : Oper} {a : Act} {i j : Nat} {s : Step} {w1 : World} {v1 v2 : Value} (hj : i = j) (hl : look σ j = some s) (hn : s.call = none) (u y : Operand) (t ty : TypeId)
    (ho : o.op = .call { callee := .builtin .append, args := #[u, y], argTypes := #[t, t] }) (hty : o.type = ty) (h1 : a.eval u = v1) (h2 : a.eval y = v2) (hp : prevW W0 σ j = w1)
    (hr : (Builtin.append_ #[t, t] ty #[v1, v2]).run P w1 = .ok s.v s.w) (x : Pre up W0 σ i) : pnAt P up W0 σ o a i x s.v := by
  subst hj hp h1 h2 hty
  have h := pn_at hl x
  unfold pnAt pnUpon
  rw [hl]
  refine ⟨rfl, ?_⟩
  rw [h]
  unfold execOp
  simp only [ho, resolve, invoke, builtin, Sem.run_bind, Sem.run_pure, Result.andThen_ok, List.map_toArray, List.map_cons, List.map_nil, hr, stepUpon, hn]
  exact ⟨trivial, trivial⟩
end
attribute [go_sem] pnPh pnAt pnUpon look prevW stepUpon pureUpon
end Go.Proofs.YtclejidkahpemaaDoor
