/- Regions that draw their order and hold effects in a forced order, walked in the order of the text as any code: an operation that only reads is asked in each world that it may meet, those to come behind the effects that follow. Over any program. -/
import Derived.Test.YtclejidkahpemaaDoorPlan
namespace Go.Proofs.YtclejidkahpemaaDoor
open Go.RowKit
/-- The world behind the first m effects. -/
def nthW (W0 : World) (σ : List Step) (m : Nat) : World := lastW W0 (σ.take m)
/-- A world in which operation i may come up: lo i to up i effects are done. -/
structure Win (lo up : Nat → Nat) (W0 : World) (σ : List Step) (i : Nat) where
  w : World
  all : look σ i = none → ∃ m, lo i ≤ m ∧ m ≤ up i ∧ m ≤ σ.length ∧ w = nthW W0 σ m
  h : look σ i ≠ none → w = prevW W0 σ i
/-- At least lo i effects come ahead of operation i. -/
def loOK (md : Region.Mode) (ops : Array Oper) (cs : List Nat) (lo : Nat → Nat) (i : Nat) : Bool :=
  decide (lo i = 0) || (decide (lo i ≤ cs.length) && (List.range i).any fun x => waits md ops i x && ((cs[lo i - 1]? == some x && decide (lo i ≤ lo x + 1)) || decide (lo i ≤ lo x)))
theorem lo_len {md : Region.Mode} {ops : Array Oper} {cs : List Nat} {lo : Nat → Nat} {i : Nat} (h : loOK md ops cs lo i = true) : lo i ≤ cs.length := by
  unfold loOK at h
  rw [Bool.or_eq_true] at h
  rcases h with h | h
  · have := of_decide_eq_true h; omega
  · rw [Bool.and_eq_true] at h
    exact of_decide_eq_true h.1
theorem lo_listed {md : Region.Mode} {ops : Array Oper} {cs : List Nat} {lo : Nat → Nat} {L : Array Bool} (hcl : Closed md ops L) (hlo : ∀ i, i < ops.size → loOK md ops cs lo i = true) :
    ∀ k i, i ≤ k → i < ops.size → (∀ x, waits md ops i x = true → L.getD x false = true) → ∀ m c, m < lo i → cs[m]? = some c → L.getD c false = true := by
  intro k
  induction k with
  | zero =>
    intro i hk hi hw m c hm hc
    have h := hlo i hi
    unfold loOK at h
    obtain rfl : i = 0 := by omega
    have h0 : ¬ lo 0 = 0 := by omega
    simp [h0] at h
  | succ k ih =>
    intro i hk hi hw m c hm hc
    have h := hlo i hi
    unfold loOK at h
    have h0 : ¬ lo i = 0 := by omega
    simp only [h0, decide_false, Bool.false_or, Bool.and_eq_true, decide_eq_true_eq] at h
    obtain ⟨_, h⟩ := h
    obtain ⟨x, hx, h⟩ := List.any_eq_true.1 h
    have hxi := List.mem_range.1 hx
    simp only [Bool.and_eq_true, Bool.or_eq_true, decide_eq_true_eq, beq_iff_eq] at h
    obtain ⟨h1, h2⟩ := h
    have hL := hw x h1
    have hwx : ∀ y, waits md ops x y = true → L.getD y false = true := fun y hy => hcl x y hy hL
    rcases h2 with ⟨h2, h3⟩ | h2
    · rcases Nat.lt_or_ge m (lo i - 1) with hlt | hge
      · exact ih x (by omega) (by omega) hwx m c (by omega) hc
      · obtain rfl : m = lo i - 1 := by omega
        rw [h2] at hc
        injection hc with hc
        rw [← hc]; exact hL
    · exact ih x (by omega) (by omega) hwx m c (by omega) hc
theorem first_text {cs : List Nat} {lo : Nat → Nat} {dn : List Step} {s : Step} {τ : List Step} {i : Nat} (hcs : ∀ m c, cs[m]? = some c → m ≤ lo c) (hc : (dn ++ s :: τ).map (·.c) = cs)
    (hi : i ∈ (s :: τ).map (·.c)) (hm : lo i ≤ dn.length) : i = s.c := by
  obtain ⟨j, hj, he⟩ := List.mem_iff_getElem.1 hi
  have h1 : cs[dn.length + j]? = some i := by
    rw [← hc, List.map_append, List.getElem?_append_right (by simp)]
    simp only [List.length_map, Nat.add_sub_cancel_left]
    rw [List.getElem?_eq_getElem hj, he]
  have h2 := hcs _ _ h1
  obtain rfl : j = 0 := by omega
  simpa using he.symm
section
variable {P : Program} {ops : Array Oper} {md : Region.Mode} {lo up : Nat → Nat} {W0 : World} {σ : List Step}
def tnAt (P : Program) (lo up : Nat → Nat) (W0 : World) (σ : List Step) (o : Oper) (a : Act) (i : Nat) (x : Win lo up W0 σ i) (v : Value) : Prop := pnUpon σ i x.w v ((execOp a.eval o).run P x.w)
def tnPh (P : Program) (lo up : Nat → Nat) (W0 : World) (σ : List Step) (o : Oper) (a : Act) (i : Nat) (K : Act → Prop) : Prop := ∃ v, (∀ x : Win lo up W0 σ i, tnAt P lo up W0 σ o a i x v) ∧ K (a.put o.dst v)
/-- The operations in the order of the text, from number k on. -/
def wpTn (P : Program) (lo up : Nat → Nat) (ops : Array Oper) (W0 : World) (σ : List Step) (Q : Array Bool → Act → Prop) : Nat → List Oper → Array Bool → Act → Prop
  | _, [], L, a => Q L a
  | k, o :: rest, L, a => if Region.wanted o (yielded ops a.tmps) then tnPh P lo up W0 σ o a k (wpTn P lo up ops W0 σ Q (k + 1) rest (L.setIfInBounds k true)) else look σ k = none ∧ wpTn P lo up ops W0 σ Q (k + 1) rest (L.setIfInBounds k true) (a.put o.dst undef)
theorem wpTn_nil {Q : Array Bool → Act → Prop} {k : Nat} {L : Array Bool} {a : Act} (h : Q L a) : wpTn P lo up ops W0 σ Q k [] L a := h
theorem wpTn_step {Q : Array Bool → Act → Prop} {a : Act} {o : Oper} {rest : List Oper} {k : Nat} {L : Array Bool}
    (h : ∀ K : Act → Prop, (∀ a, wpTn P lo up ops W0 σ Q (k + 1) rest (L.setIfInBounds k true) a → K a) → if Region.wanted o (yielded ops a.tmps) then tnPh P lo up W0 σ o a k K else look σ k = none ∧ K (a.put o.dst undef)) : wpTn P lo up ops W0 σ Q k (o :: rest) L a :=
  h _ (fun _ h => h)
def tnOp (P : Program) (lo up : Nat → Nat) (ops : Array Oper) (W0 : World) (σ : List Step) (i : Nat) (K : Act → Prop) (a : Act) : Prop :=
  match ops[i]? with
  | none => K a
  | some o => if Region.wanted o (yielded ops a.tmps) then tnPh P lo up W0 σ o a i K else look σ i = none ∧ K (a.put o.dst undef)
theorem tn_mono {o : Oper} {a : Act} {i : Nat} {K K' : Act → Prop} (h : ∀ a, K a → K' a) (hh : tnPh P lo up W0 σ o a i K) : tnPh P lo up W0 σ o a i K' :=
  let ⟨v, h1, h2⟩ := hh
  ⟨v, h1, h _ h2⟩
theorem tnOp_mono {i : Nat} {a : Act} {K K' : Act → Prop} (h : ∀ a, K a → K' a) (hh : tnOp P lo up ops W0 σ i K a) : tnOp P lo up ops W0 σ i K' a := by
  unfold tnOp at *
  split
  · exact h _ (by simpa [*] using hh)
  · rename_i o ho
    simp only [ho] at hh
    split
    · rename_i hw; simp only [hw, if_true] at hh; exact tn_mono h hh
    · rename_i hw; simp only [hw] at hh; exact ⟨hh.1, h _ hh.2⟩
def wpAnyTn (P : Program) (md : Region.Mode) (lo up : Nat → Nat) (ops : Array Oper) (W0 : World) (σ : List Step) (Q : Array Bool → Act → Prop) : Nat → Array Bool → Act → Prop
  | 0, listed, a => Region.ready md ops listed = [] ∧ Q listed a
  | fuel + 1, listed, a =>
    (Region.ready md ops listed = [] → Q listed a) ∧
    ∀ i ∈ Region.ready md ops listed, tnOp P lo up ops W0 σ i (wpAnyTn P md lo up ops W0 σ Q fuel (listed.setIfInBounds i true)) a
def YieldsTn (P : Program) (lo up : Nat → Nat) (ops : Array Oper) (W0 : World) (σ : List Step) (i : Nat) (o : Oper) (v : Value) (a : Act) : Prop :=
  (Region.wanted o (yielded ops a.tmps) = true ∧ ∀ x : Win lo up W0 σ i, tnAt P lo up W0 σ o a i x v) ∨
  (Region.wanted o (yielded ops a.tmps) = false ∧ look σ i = none ∧ v = undef)
theorem YieldsTn.tnOp {i : Nat} {o : Oper} {v : Value} {a : Act} (hi : ops[i]? = some o) (hy : YieldsTn P lo up ops W0 σ i o v a) {K : Act → Prop} (h : K (a.put o.dst v)) : tnOp P lo up ops W0 σ i K a := by
  unfold Proofs.YtclejidkahpemaaDoor.tnOp
  simp only [hi]
  rcases hy with ⟨hw, hv⟩ | ⟨hw, hj, rfl⟩
  · simp only [hw, if_true]; exact ⟨v, hv, h⟩
  · simp only [hw, Bool.false_eq_true, if_false]; exact ⟨hj, h⟩
theorem YieldsTn.of_same {i : Nat} {o : Oper} {v : Value} {a a' : Act} (hy : YieldsTn P lo up ops W0 σ i o v a) (he : execOp a'.eval o = execOp a.eval o)
    (hw : Region.wanted o (yielded ops a'.tmps) = Region.wanted o (yielded ops a.tmps)) : YieldsTn P lo up ops W0 σ i o v a' := by
  unfold YieldsTn tnAt at *
  rw [he, hw]
  exact hy
theorem yieldsTn_of_tnOp {i : Nat} {o : Oper} {a : Act} {K : Act → Prop} (hi : ops[i]? = some o) (h : tnOp P lo up ops W0 σ i K a) : ∃ v, YieldsTn P lo up ops W0 σ i o v a ∧ K (a.put o.dst v) := by
  unfold tnOp at h
  simp only [hi] at h
  by_cases hw : Region.wanted o (yielded ops a.tmps) = true
  · simp only [hw, if_true] at h
    obtain ⟨v, h1, h2⟩ := h
    exact ⟨v, .inl ⟨hw, h1⟩, h2⟩
  · simp only [hw] at h
    exact ⟨undef, .inr ⟨by simpa using hw, h.1, rfl⟩, h.2⟩
theorem tnOp_put {i j : Nat} {oi oj : Oper} {v : Value} (hj : ops[j]? = some oj) (hap : oi.apart ops oj = true)
    (hsi : ∀ cs b, oi.op ≠ .select cs b) (hsj : ∀ cs b, oj.op ≠ .select cs b) {K : Act → Prop} {a : Act}
    (hy : YieldsTn P lo up ops W0 σ i oi v a) (h : tnOp P lo up ops W0 σ j K (a.put oi.dst v)) :
    tnOp P lo up ops W0 σ j (fun a' => YieldsTn P lo up ops W0 σ i oi v a' ∧ K (a'.put oi.dst v)) a := by
  obtain ⟨h1, h2, h3⟩ := Oper.apart_spec hap
  have keep : ∀ (a : Act), YieldsTn P lo up ops W0 σ i oi v a → ∀ u, YieldsTn P lo up ops W0 σ i oi v (a.put oj.dst u) := fun a hy u =>
    hy.of_same (execOp_put oi hsi a oj.dst u h3) (wanted_put oi a oj.dst u h3)
  unfold tnOp at *
  simp only [hj] at *
  rw [wanted_put oj a oi.dst v h1] at h
  split
  · rename_i hw
    simp only [hw, if_true] at h
    obtain ⟨u, hu, hn⟩ := h
    refine ⟨u, fun x => ?_, keep a hy u, by rw [← Act.put_comm a v u h2]; exact hn⟩
    have := hu x
    unfold tnAt at *
    rwa [execOp_put oj hsj a oi.dst v h1] at this
  · rename_i hw
    simp only [hw] at h
    exact ⟨h.1, keep a hy _, by rw [← Act.put_comm a v undef h2]; exact h.2⟩
theorem wpAnyTn_first {Q : Array Bool → Act → Prop} {i : Nat} {oi : Oper} {v : Value} (hi : ops[i]? = some oi) (hsel : ∀ (j : Nat) (o : Oper) cs b, ops[j]? = some o → o.op ≠ .select cs b) :
    ∀ (fuel : Nat) (listed : Array Bool) (a : Act),
      (∀ j oj, ops[j]? = some oj → j ≠ i → listed.getD j true = false → (∀ e ∈ oj.after, Region.binds md e = true → e.on ≠ i) → oi.apart ops oj = true) →
      i ∈ Region.ready md ops listed → YieldsTn P lo up ops W0 σ i oi v a →
      wpAnyTn P md lo up ops W0 σ Q fuel (listed.setIfInBounds i true) (a.put oi.dst v) → wpAnyTn P md lo up ops W0 σ Q (fuel + 1) listed a := by
  intro fuel
  induction fuel with
  | zero =>
    intro listed a _ hr hy H
    refine ⟨fun h => (by rw [h] at hr; cases hr), fun j hj => ?_⟩
    by_cases hji : j = i
    · subst hji; exact hy.tnOp hi H
    · have := ready_mono hj hji
      rw [H.1] at this
      cases this
  | succ fuel ih =>
    intro listed a hfree hr hy H
    refine ⟨fun h => (by rw [h] at hr; cases hr), fun j hj => ?_⟩
    by_cases hji : j = i
    · subst hji; exact hy.tnOp hi H
    · have h1 := H.2 j (ready_mono hj hji)
      obtain ⟨hjun, oj, hoj, hall⟩ := mem_ready.1 hj
      have hnot : ∀ e ∈ oj.after, Region.binds md e = true → e.on ≠ i := fun e he hb heq => by
        have h1 := hall e he hb
        have h0 := (mem_ready.1 hr).1
        rw [heq] at h1
        rcases Nat.lt_or_ge i listed.size with h' | h'
        · simp [h'] at h0 h1; rw [h0] at h1; cases h1
        · simp [Array.getElem?_eq_none h'] at h1
      have h2 := tnOp_put hoj (hfree j oj hoj hji hjun hnot) (fun cs b => hsel i oi cs b hi) (fun cs b => hsel j oj cs b hoj) hy h1
      have hfree' : ∀ k ok, ops[k]? = some ok → k ≠ i → (listed.setIfInBounds j true).getD k true = false →
          (∀ e ∈ ok.after, Region.binds md e = true → e.on ≠ i) → oi.apart ops ok = true := fun k ok hk hki hun hno => by
        refine hfree k ok hk hki ?_ hno
        by_cases hjk : j = k
        · subst hjk; exact hjun
        · rw [getD_set_ne true hjk] at hun; exact hun
      refine tnOp_mono (fun a' h3 => ih (listed.setIfInBounds j true) a' hfree' (ready_mono hr (Ne.symm hji)) h3.1 ?_) h2
      rw [Array.setIfInBounds_comm _ _ hji]
      exact h3.2
theorem wpAnyTn_lex {Q : Array Bool → Act → Prop} (hs : Region.noSelect ops = true) : ∀ (l : List Oper) (k : Nat) (listed : Array Bool) (a : Act), (∀ j, l[j]? = ops[k + j]?) →
    Region.lexFrom md ops l.length k listed = true → wpTn P lo up ops W0 σ Q k l listed a → wpAnyTn P md lo up ops W0 σ Q l.length listed a
  | [], _, _, _, _, hB, h => ⟨by simpa [Region.lexFrom] using hB, h⟩
  | o :: l, k, listed, a, hl, hB, h => by
    have h0 : ops[k]? = some o := by simpa using (hl 0).symm
    simp only [List.length_cons, Region.lexFrom, Bool.and_eq_true] at hB
    obtain ⟨⟨hr, hf⟩, hB'⟩ := hB
    have hst : tnOp P lo up ops W0 σ k (wpTn P lo up ops W0 σ Q (k + 1) l (listed.setIfInBounds k true)) a := by unfold tnOp; simp only [h0]; exact h
    obtain ⟨v, hy, hK⟩ := yieldsTn_of_tnOp h0 hst
    exact wpAnyTn_first h0 (Region.noSelect_spec hs) l.length listed a (Region.free_spec h0 hf) (by simpa using hr) hy
      (wpAnyTn_lex hs l (k + 1) _ _ (fun j => by have := hl (j + 1); simpa [Nat.add_assoc, Nat.add_comm 1 j] using this) hB' hK)


theorem before_text {cs : List Nat} {Q' : Exit → Act → World → Prop} {W0 : World} {Q : List Step → Array Bool → Act → Prop} (hcs : ∀ m c, cs[m]? = some c → m ≤ lo c) (hnd : cs.Nodup) (hlo : ∀ i, i < ops.size → loOK md ops cs lo i = true) (hup : ∀ i, i < ops.size → upOK md ops cs up i = true) (hQ : ∀ σ L a, Q σ L a → Q' .normal a (stageW W0 σ L)) :
    ∀ (fuel : Nat) (dn : List Step) (T : List Step → Prop) (w : World) (L : Array Bool) (a : Act), w = lastW W0 dn → Plan P w T → (∀ σ, T σ → (dn ++ σ).map (·.c) = cs) → (∀ s ∈ dn, L.getD s.c true = true) → (∀ σ, T σ → ∀ s ∈ σ, L.getD s.c true = false) → ((∀ s ∈ dn, L.getD s.c false = true) ∧ Closed md ops L) →
      (∀ σ, T σ → wpAnyTn P md lo up ops W0 (dn ++ σ) (Q (dn ++ σ)) fuel L a) → wpAny P md ops Q' fuel L a w
  | 0, dn, T, w, L, a, hw, hp, hc, hd, ht, _, h => by
    obtain ⟨σ, hσ⟩ := hp.some
    have := hQ _ _ _ (h σ hσ).2
    rw [stage_at hd (ht σ hσ), ← hw] at this
    exact ⟨(h σ hσ).1, this⟩
  | fuel + 1, dn, T, w, L, a, hw, hp, hc, hd, ht, hv, h => by
    obtain ⟨σ0, hσ0⟩ := hp.some
    refine ⟨fun h0 => ?_, fun i hi => ?_⟩
    · have := hQ _ _ _ ((h σ0 hσ0).1 h0)
      rw [stage_at hd (ht σ0 hσ0), ← hw] at this
      exact this
    obtain ⟨hn, o, ho, hall⟩ := mem_ready.1 hi
    have hmon : ∀ k j : Nat, L.getD j false = true → (L.setIfInBounds k true).getD j false = true := fun k j hj => by
      by_cases e : k = j
      · subst e
        rcases Nat.lt_or_ge k L.size with hs | hs
        · simp [hs]
        · simp [Nat.not_lt.2 hs] at hj
      · rw [getD_set_ne false e]; exact hj
    have hnw : ∀ j, waits md ops i j = true → L.getD j false = true := fun j hj => by
      unfold waits at hj
      rw [ho] at hj
      simp only [Array.any_eq_true'] at hj
      obtain ⟨e, he, hb⟩ := hj
      rw [Bool.and_eq_true, beq_iff_eq] at hb
      rw [← hb.2]
      exact hall e he hb.1
    have hclN : Closed md ops (L.setIfInBounds i true) := fun j k hw hj => by
      by_cases e : i = j
      · subst e; exact hmon _ _ (hnw k hw)
      · rw [getD_set_ne false e] at hj; exact hmon _ _ (hv.2 j k hw hj)
    have hiN : (L.setIfInBounds i true).getD i false = true := by
      rcases Nat.lt_or_ge i L.size with hz | hz
      · simp [hz]
      · simp [Nat.not_lt.2 hz] at hn
    have hfew : ∀ σ, T σ → dn.length ≤ up i := fun σ hσ => by
      rcases Nat.lt_or_ge (up i) dn.length with hlt | hge
      · have hle : dn.length ≤ cs.length := by rw [← hc σ hσ]; simp
        have h1 := up_listed hv.2 hup hle (fun m c hm hmc => by
          rw [← hc σ hσ, List.map_append, List.getElem?_append_left (by simpa using hm), List.getElem?_map] at hmc
          obtain ⟨s, hs, rfl⟩ := Option.map_eq_some_iff.1 hmc
          exact hv.1 s (List.mem_of_getElem? hs)) _ i (Nat.le_refl _) (Array.getElem?_eq_some_iff.1 ho).1 hlt
        rcases Nat.lt_or_ge i L.size with hz | hz
        · simp [hz] at h1 hn; rw [h1] at hn; cases hn
        · simp [Nat.not_lt.2 hz] at h1
      · exact hge
    have hidn : i ∉ dn.map (·.c) := fun hm => by
      obtain ⟨s, hs, rfl⟩ := List.mem_map.1 hm
      rw [hd s hs] at hn; cases hn
    have hh := fun σ hσ => (h σ hσ).2 i hi
    unfold tnOp at hh
    unfold wpOp
    simp only [ho] at hh ⊢
    have hmany : ∀ σ, T σ → lo i ≤ dn.length := fun σ hσ => by
      rcases Nat.lt_or_ge dn.length (lo i) with hlt | hge
      · have his := (Array.getElem?_eq_some_iff.1 ho).1
        have hlen : lo i ≤ cs.length := lo_len (hlo i his)
        have h1 := lo_listed hv.2 hlo _ i (Nat.le_refl _) his hnw
        cases σ with
        | nil =>
          have := congrArg List.length (hc _ hσ)
          simp at this
          omega
        | cons s τ =>
          have h2 : cs[dn.length]? = some s.c := by rw [← hc _ hσ]; simp
          have h3 := h1 _ _ hlt h2
          have h4 := ht _ hσ s (List.mem_cons_self ..)
          rcases Nat.lt_or_ge s.c L.size with hz | hz
          · simp [hz] at h3 h4; rw [h3] at h4; cases h4
          · simp [hz] at h4
      · exact hge
    by_cases hie : i ∈ σ0.map (·.c)
    · -- the first effect that is still to come
      cases σ0 with
      | nil => simp at hie
      | cons s0 τ0 =>
        have his : i = s0.c := first_text hcs (hc _ hσ0) hie (hmany _ hσ0)
        subst his
        have hlook : ∀ (s : Step) (τ : List Step), s.c = s0.c → look (dn ++ s :: τ) s0.c = some s := fun s τ e => by rw [look_app_none hidn, look, if_pos e]
        have vnext : ∀ s : Step, s.c = s0.c → (∀ x ∈ dn ++ [s], (L.setIfInBounds s0.c true).getD x.c false = true) ∧ Closed md ops (L.setIfInBounds s0.c true) := fun s e => ⟨fun x hx => by
          rcases List.mem_append.1 hx with hx | hx
          · exact hmon _ _ (hv.1 x hx)
          · simp only [List.mem_singleton] at hx
            subst hx
            rw [e]; exact hiN, hclN⟩
        have use : ∀ (s : Step) (τ : List Step) (u : Value), s.c = s0.c → (∀ x : Win lo up W0 (dn ++ s :: τ) s0.c, tnAt P lo up W0 (dn ++ s :: τ) o a s0.c x u) → u = s.v ∧ stepUpon s w ((execOp a.eval o).run P w) := fun s τ u e hx => by
          have h1 : pnUpon (dn ++ s :: τ) s0.c w u ((execOp a.eval o).run P w) := hx ⟨w, fun hn => (by rw [hlook _ _ e] at hn; cases hn), fun _ => by rw [← e, prevW_app (by rw [e]; exact hidn), hw]⟩
          unfold pnUpon at h1
          rw [hlook _ _ e] at h1
          exact h1
        split
        · rename_i hwant
          simp only [hwant, if_true] at hh
          refine .inl ?_
          cases hp with
          | done => cases hσ0
          | call c f args R T' hcall hT =>
            obtain ⟨v0, w0, τ1, hr0, ht0, he0⟩ := hσ0
            injection he0 with he0 _
            subst he0
            obtain ⟨u, h1, h2⟩ := hh _ ⟨v0, w0, τ1, hr0, ht0, rfl⟩
            have h3 := use _ _ _ rfl h1
            unfold Oper.wp
            generalize hrun : (execOp a.eval o).run P w = r at *
            cases r with
            | halt x w' => simp [stepUpon] at h3
            | ok n w' =>
              cases n with
              | enter g as =>
                simp only [stepUpon] at h3
                obtain ⟨_, e1, rfl, rfl⟩ := h3
                subst e1
                simp only [Oper.upon]
                refine hcall.mono fun e w2 ⟨v2, he, hr2⟩ => ?_
                subst he
                refine before_text hcs hnd hlo hup hQ fuel (dn ++ [⟨c, some (g, as), v2, w2⟩]) (T' v2 w2) w2 _ _ (lastW_snoc (dn := dn) (s := ⟨c, some (g, as), v2, w2⟩) W0).symm (hT v2 w2 hr2) (fun σ hσ => ?_) (fun s hs => ?_) (fun σ hσ s hs => ?_) (vnext _ rfl) (fun σ hσ => ?_)
                · have := hc _ ⟨v2, w2, σ, hr2, hσ, rfl⟩
                  simpa using this
                · rcases List.mem_append.1 hs with hs | hs
                  · by_cases e : s.c = c
                    · rw [e]; exact getD_set_self _ _
                    · rw [getD_set_ne true (fun e' => e e'.symm)]; exact hd s hs
                  · simp only [List.mem_singleton] at hs
                    subst hs
                    exact getD_set_self _ _
                · have hne : s.c ≠ c := fun e => by
                    have h1 := hc _ ⟨v2, w2, σ, hr2, hσ, rfl⟩
                    rw [← h1, List.map_append, List.map_cons] at hnd
                    have h2 := (List.nodup_append.1 hnd).2.1
                    rw [List.nodup_cons] at h2
                    exact h2.1 (List.mem_map.2 ⟨s, hs, e⟩)
                  rw [getD_set_ne true (fun e' => hne e'.symm)]
                  exact ht _ ⟨v2, w2, σ, hr2, hσ, rfl⟩ s (List.mem_cons_of_mem _ hs)
                · obtain ⟨u2, k1, k2⟩ := hh _ ⟨v2, w2, σ, hr2, hσ, rfl⟩
                  have k3 := use ⟨c, _, v2, w2⟩ _ _ rfl k1
                  rw [k3.1] at k2
                  rw [List.append_assoc]
                  exact k2
              | _ => simp [stepUpon] at h3
          | own c v w1 T' hT =>
            obtain ⟨τ1, ht0, he0⟩ := hσ0
            injection he0 with he0 _
            subst he0
            obtain ⟨u, h1, h2⟩ := hh _ ⟨τ1, ht0, rfl⟩
            have h3 := use _ _ _ rfl h1
            have go : ∀ K : Act → World → Prop, (∀ σ, T' σ → wpAnyTn P md lo up ops W0 (dn ++ ⟨c, none, v, w1⟩ :: σ) (Q (dn ++ ⟨c, none, v, w1⟩ :: σ)) fuel (L.setIfInBounds c true) (a.put o.dst v)) → wpAny P md ops Q' fuel (L.setIfInBounds c true) (a.put o.dst v) w1 := fun _ hk => by
              refine before_text hcs hnd hlo hup hQ fuel (dn ++ [⟨c, none, v, w1⟩]) T' w1 _ _ (lastW_snoc (dn := dn) (s := ⟨c, none, v, w1⟩) W0).symm hT (fun σ hσ => ?_) (fun s hs => ?_) (fun σ hσ s hs => ?_) (vnext _ rfl) (fun σ hσ => ?_)
              · have := hc _ ⟨σ, hσ, rfl⟩
                simpa using this
              · rcases List.mem_append.1 hs with hs | hs
                · by_cases e : s.c = c
                  · rw [e]; exact getD_set_self _ _
                  · rw [getD_set_ne true (fun e' => e e'.symm)]; exact hd s hs
                · simp only [List.mem_singleton] at hs
                  subst hs
                  exact getD_set_self _ _
              · have hne : s.c ≠ c := fun e => by
                  have h1 := hc _ ⟨σ, hσ, rfl⟩
                  rw [← h1, List.map_append, List.map_cons] at hnd
                  have h2 := (List.nodup_append.1 hnd).2.1
                  rw [List.nodup_cons] at h2
                  exact h2.1 (List.mem_map.2 ⟨s, hs, e⟩)
                rw [getD_set_ne true (fun e' => hne e'.symm)]
                exact ht _ ⟨σ, hσ, rfl⟩ s (List.mem_cons_of_mem _ hs)
              · rw [List.append_assoc]
                exact hk σ hσ
            have next : ∀ σ, T' σ → wpAnyTn P md lo up ops W0 (dn ++ ⟨c, none, v, w1⟩ :: σ) (Q (dn ++ ⟨c, none, v, w1⟩ :: σ)) fuel (L.setIfInBounds c true) (a.put o.dst v) := fun σ hσ => by
              obtain ⟨u2, k1, k2⟩ := hh _ ⟨σ, hσ, rfl⟩
              have k3 := use _ _ _ rfl k1
              rw [k3.1] at k2
              exact k2
            unfold Oper.wp
            generalize hrun : (execOp a.eval o).run P w = r at *
            cases r with
            | halt x w' => simp [stepUpon] at h3
            | ok n w' =>
              cases n with
              | value z =>
                simp only [stepUpon] at h3
                obtain ⟨_, e1, e2⟩ := h3
                simp only [Oper.upon]
                rw [e1, e2]
                exact go (fun _ _ => True) next
              | skip =>
                simp only [stepUpon] at h3
                obtain ⟨_, e1, e2⟩ := h3
                simp only [Oper.upon]
                rw [e1, ← e2]
                exact go (fun _ _ => True) next
              | _ => simp [stepUpon] at h3
        · rename_i hwant
          simp only [hwant] at hh
          have := (hh _ hσ0).1
          rw [hlook _ _ rfl] at this
          cases this
    · -- an operation that only reads
      have hall : ∀ σ, T σ → i ∉ σ.map (·.c) := fun σ hσ hm => hie (by
        have h1 := hc σ hσ
        have h2 := hc σ0 hσ0
        rw [List.map_append] at h1 h2
        have h3 : σ.map (·.c) = σ0.map (·.c) := List.append_cancel_left (h1.trans h2.symm)
        rw [← h3]; exact hm)
      have hlook : ∀ σ, T σ → look (dn ++ σ) i = none := fun σ hσ => by rw [look_app_none hidn, look_none (hall σ hσ)]
      have hset : ∀ s, (s ∈ dn ∨ ∃ σ, T σ ∧ s ∈ σ) → (L.setIfInBounds i true).getD s.c true = L.getD s.c true := fun s hs => by
        refine getD_set_ne true (fun e => ?_)
        rcases hs with hs | ⟨σ, hσ, hs⟩
        · exact hidn (List.mem_map.2 ⟨s, hs, e.symm⟩)
        · exact hall σ hσ (List.mem_map.2 ⟨s, hs, e.symm⟩)
      have next : ∀ v, (∀ σ, T σ → wpAnyTn P md lo up ops W0 (dn ++ σ) (Q (dn ++ σ)) fuel (L.setIfInBounds i true) (a.put o.dst v)) → wpAny P md ops Q' fuel (L.setIfInBounds i true) (a.put o.dst v) w := fun v hk =>
        before_text hcs hnd hlo hup hQ fuel dn T w _ _ hw hp hc (fun s hs => (hset s (.inl hs)).trans (hd s hs)) (fun σ hσ s hs => (hset s (.inr ⟨σ, hσ, hs⟩)).trans (ht σ hσ s hs)) ⟨fun s hs => hmon _ _ (hv.1 s hs), hclN⟩ hk
      split
      · rename_i hwant
        simp only [hwant, if_true] at hh
        refine .inl ?_
        have hamong : ∀ σ, T σ → ∃ m, lo i ≤ m ∧ m ≤ up i ∧ m ≤ (dn ++ σ).length ∧ lastW W0 dn = nthW W0 (dn ++ σ) m := fun σ hσ =>
          ⟨dn.length, hmany σ hσ, hfew σ hσ, by simp, by unfold nthW; rw [List.take_left]⟩
        have key : ∀ σ (hσ : T σ), ∃ u, pureUpon w u ((execOp a.eval o).run P w) ∧ wpAnyTn P md lo up ops W0 (dn ++ σ) (Q (dn ++ σ)) fuel (L.setIfInBounds i true) (a.put o.dst u) := fun σ hσ => by
          obtain ⟨u, h1, h2⟩ := hh σ hσ
          have h3 : pnUpon (dn ++ σ) i w u ((execOp a.eval o).run P w) := h1 ⟨w, fun _ => (by rw [hw]; exact hamong σ hσ), fun hx => absurd (hlook σ hσ) hx⟩
          unfold pnUpon at h3
          rw [hlook σ hσ] at h3
          exact ⟨u, h3, h2⟩
        unfold Oper.wp
        generalize (execOp a.eval o).run P w = r at *
        obtain ⟨u0, q0, _⟩ := key σ0 hσ0
        cases r with
        | halt x w' => simp [pureUpon] at q0
        | ok n w' =>
          cases n with
          | value z =>
            simp only [pureUpon] at q0
            obtain ⟨e1, e2⟩ := q0
            simp only [Oper.upon]
            subst e1
            refine next z (fun σ hσ => ?_)
            obtain ⟨u, q, k⟩ := key σ hσ
            simp only [pureUpon] at q
            rw [q.2]; exact k
          | skip =>
            simp only [pureUpon] at q0
            obtain ⟨e1, e2⟩ := q0
            simp only [Oper.upon]
            subst e1
            refine next undef (fun σ hσ => ?_)
            obtain ⟨u, q, k⟩ := key σ hσ
            simp only [pureUpon] at q
            rw [← q.2]; exact k
          | _ => simp [pureUpon] at q0
      · rename_i hwant
        simp only [hwant] at hh
        exact next undef (fun σ hσ => (hh σ hσ).2)

def loB (md : Region.Mode) (ops : Array Oper) (cs : List Nat) (lo : Nat → Nat) : Bool := ((List.range ops.size).all (loOK md ops cs lo)) && (List.range cs.length).all fun m => decide (m ≤ lo (cs.getD m 0))
theorem lo_of {cs : List Nat} (h : loB md ops cs lo = true) : (∀ i, i < ops.size → loOK md ops cs lo i = true) ∧ ∀ m c, cs[m]? = some c → m ≤ lo c := by
  rw [loB, Bool.and_eq_true] at h
  refine ⟨fun i hi => List.all_eq_true.1 h.1 i (List.mem_range.2 hi), fun m c hm => ?_⟩
  have hlt := (List.getElem?_eq_some_iff.1 hm).1
  have := of_decide_eq_true (List.all_eq_true.1 h.2 m (List.mem_range.2 hlt))
  rwa [List.getD_eq_getElem?_getD, hm] at this
end
/-- A read that may come up behind effects that follow. -/
structure Late where
  i : Nat
  o : Oper
  a : Act
  v : Value
def readOK (P : Program) (o : Oper) (a : Act) (v : Value) (w : World) : Prop := pureUpon w v ((execOp a.eval o).run P w)
def lateOK (P : Program) (up : Nat → Nat) (n : Nat) (pend : List Late) (w : World) : Prop := ∀ p ∈ pend, n ≤ up p.i → readOK P p.o p.a p.v w
/-- What an effect comes to. -/
def effUpon (P : Program) (w : World) (K : Value → World → Prop) (r : Result Next) : Prop :=
  match r with
  | .ok (.value v) w' => K v w'
  | .ok .skip w' => K undef w'
  | .ok (.enter f as) w' => w' = w ∧ Calls P f as w fun e w'' => ∃ v, e = .returned v ∧ K v w''
  | _ => False
def effAt (P : Program) (o : Oper) (a : Act) (w : World) (K : Value → World → Prop) : Prop := effUpon P w K ((execOp a.eval o).run P w)
/-- The operations in the order of the text, from number k on; past: the worlds ahead of the effects that are done. -/
def wpTx (P : Program) (lo up : Nat → Nat) (cs : List Nat) (ops : Array Oper) (Q : Act → World → Prop) : Nat → List Oper → List World → List Late → Act → World → Prop
  | _, [], _, _, a, w => Q a w
  | k, o :: rest, past, pend, a, w =>
    if Region.wanted o (yielded ops a.tmps) then
      if cs.contains k then effAt P o a w fun v w' => lateOK P up (past.length + 1) pend w' ∧ wpTx P lo up cs ops Q (k + 1) rest (past ++ [w]) pend (a.put o.dst v) w'
      else ∃ v, (readOK P o a v w ∧ ∀ w' ∈ past.drop (lo k), readOK P o a v w') ∧ wpTx P lo up cs ops Q (k + 1) rest past (if up k ≤ past.length then pend else ⟨k, o, a, v⟩ :: pend) (a.put o.dst v) w
    else cs.contains k = false ∧ wpTx P lo up cs ops Q (k + 1) rest past pend (a.put o.dst undef) w
section
variable {P : Program} {lo up : Nat → Nat} {cs : List Nat} {ops : Array Oper} {Q : Act → World → Prop} {k : Nat} {o : Oper} {rest : List Oper} {past : List World} {pend : List Late} {a : Act} {w : World}
theorem lateOK_nil {n : Nat} : lateOK P up n [] w := fun _ h => by cases h
theorem lateOK_cons {n : Nat} {p : Late} (h : readOK P p.o p.a p.v w) (ht : lateOK P up n pend w) : lateOK P up n (p :: pend) w := fun q hq hn => by
  rcases List.mem_cons.1 hq with e | hq
  · rw [e]; exact h
  · exact ht q hq hn
theorem lateOK_skip {n : Nat} {p : Late} (h : Nat.ble n (up p.i) = false) (ht : lateOK P up n pend w) : lateOK P up n (p :: pend) w := fun q hq hn => by
  rcases List.mem_cons.1 hq with e | hq
  · rw [e] at hn; rw [Nat.ble_eq_true_of_le hn] at h; cases h
  · exact ht q hq hn
theorem wpTx_nil (h : Q a w) : wpTx P lo up cs ops Q k [] past pend a w := h
/-- An operation that only reads, behind just the effects that are done. -/
theorem wpTx_now (hk : cs.contains k = false) (hu : Nat.ble (up k) past.length = true) (hp : Nat.ble past.length (lo k) = true)
    (h : ∀ K : Act → Prop, (∀ a', wpTx P lo up cs ops Q (k + 1) rest past pend a' w → K a') → if Region.wanted o (yielded ops a.tmps) then ∃ v, readOK P o a v w ∧ K (a.put o.dst v) else K (a.put o.dst undef)) :
    wpTx P lo up cs ops Q k (o :: rest) past pend a w := by
  have h1 := h _ (fun _ h => h)
  unfold wpTx
  by_cases hw : Region.wanted o (yielded ops a.tmps) = true
  · rw [if_pos hw] at h1 ⊢
    rw [if_neg (by rw [hk]; exact Bool.false_ne_true)]
    obtain ⟨v, h2, h3⟩ := h1
    refine ⟨v, ⟨h2, fun w' hw' => ?_⟩, by rw [if_pos (Nat.le_of_ble_eq_true hu)]; exact h3⟩
    rw [List.drop_eq_nil_of_le (Nat.le_of_ble_eq_true hp)] at hw'
    cases hw'
  · rw [if_neg hw] at h1 ⊢
    exact ⟨hk, h1⟩
/-- The same, ahead of some of them too: ws are the worlds there. -/
theorem wpTx_ws (ws : List World) (hk : cs.contains k = false) (hu : Nat.ble (up k) past.length = true) (hp : past.drop (lo k) = ws)
    (h : ∀ K : Act → Prop, (∀ a', wpTx P lo up cs ops Q (k + 1) rest past pend a' w → K a') → if Region.wanted o (yielded ops a.tmps) then ∃ v, (readOK P o a v w ∧ ∀ w' ∈ ws, readOK P o a v w') ∧ K (a.put o.dst v) else K (a.put o.dst undef)) :
    wpTx P lo up cs ops Q k (o :: rest) past pend a w := by
  have h1 := h _ (fun _ h => h)
  subst hp
  unfold wpTx
  by_cases hw : Region.wanted o (yielded ops a.tmps) = true
  · rw [if_pos hw] at h1 ⊢
    rw [if_neg (by rw [hk]; exact Bool.false_ne_true)]
    obtain ⟨v, h2, h3⟩ := h1
    exact ⟨v, h2, by rw [if_pos (Nat.le_of_ble_eq_true hu)]; exact h3⟩
  · rw [if_neg hw] at h1 ⊢
    exact ⟨hk, h1⟩
/-- The same, if effects behind it may come ahead of it. -/
theorem wpTx_late (ws : List World) (hk : cs.contains k = false) (hu : Nat.ble (up k) past.length = false) (hp : past.drop (lo k) = ws)
    (h : ∀ K : List Late → Act → Prop, (∀ pd a', wpTx P lo up cs ops Q (k + 1) rest past pd a' w → K pd a') → if Region.wanted o (yielded ops a.tmps) then ∃ v, (readOK P o a v w ∧ ∀ w' ∈ ws, readOK P o a v w') ∧ K (⟨k, o, a, v⟩ :: pend) (a.put o.dst v) else K pend (a.put o.dst undef)) :
    wpTx P lo up cs ops Q k (o :: rest) past pend a w := by
  have h1 := h _ (fun _ _ h => h)
  subst hp
  unfold wpTx
  by_cases hw : Region.wanted o (yielded ops a.tmps) = true
  · rw [if_pos hw] at h1 ⊢
    rw [if_neg (by rw [hk]; exact Bool.false_ne_true)]
    obtain ⟨v, h2, h3⟩ := h1
    exact ⟨v, h2, by rw [if_neg (fun e => by rw [Nat.ble_eq_true_of_le e] at hu; cases hu)]; exact h3⟩
  · rw [if_neg hw] at h1 ⊢
    exact ⟨hk, h1⟩
/-- An effect. -/
theorem wpTx_eff (hk : cs.contains k = true)
    (h : ∀ K : Value → World → Prop, (∀ v w', lateOK P up (past.length + 1) pend w' → wpTx P lo up cs ops Q (k + 1) rest (past ++ [w]) pend (a.put o.dst v) w' → K v w') → if Region.wanted o (yielded ops a.tmps) then effAt P o a w K else False) :
    wpTx P lo up cs ops Q k (o :: rest) past pend a w := by
  have h1 := h (fun v w' => lateOK P up (past.length + 1) pend w' ∧ wpTx P lo up cs ops Q (k + 1) rest (past ++ [w]) pend (a.put o.dst v) w') (fun _ _ h h' => ⟨h, h'⟩)
  unfold wpTx
  by_cases hw : Region.wanted o (yielded ops a.tmps) = true
  · rw [if_pos hw] at h1 ⊢
    rw [if_pos hk]
    exact h1
  · rw [if_neg hw] at h1
    exact h1.elim
theorem nthW_app {W0 : World} {dn τ : List Step} {m : Nat} (h : m ≤ dn.length) : nthW W0 (dn ++ τ) m = nthW W0 dn m := by
  unfold nthW
  rw [List.take_append_of_le_length h]
theorem nthW_all {W0 : World} {dn : List Step} : nthW W0 dn dn.length = lastW W0 dn := by unfold nthW; rw [List.take_length]
theorem getD_set_true {L : Array Bool} {k i : Nat} (h : i < k → L.getD i true = true) (hi : i < k + 1) : (L.setIfInBounds k true).getD i true = true := by
  by_cases e : k = i
  · subst e; exact getD_set_self _ _
  · rw [getD_set_ne true e]; exact h (by omega)
theorem past_snoc {W0 w : World} {dn : List Step} {past : List World} {s : Step} (hw : w = lastW W0 dn) (hp : past = (List.range dn.length).map (nthW W0 dn)) : past ++ [w] = (List.range (dn ++ [s]).length).map (nthW W0 (dn ++ [s])) := by
  rw [List.length_append, List.length_singleton, List.range_succ, List.map_append, List.map_singleton, nthW_app (Nat.le_refl _), nthW_all, ← hw, hp]
  congr 1
  exact List.map_congr_left fun m hm => (nthW_app (Nat.le_of_lt (List.mem_range.1 hm))).symm
theorem tx_sound {W0 : World} : ∀ (l : List Oper) (k : Nat) (past : List World) (pend : List Late) (a : Act) (w : World) (dn : List Step), w = lastW W0 dn → past = (List.range dn.length).map (nthW W0 dn) → (∀ c ∈ dn.map (·.c), c < k) →
    wpTx P lo up cs ops Q k l past pend a w →
    ∃ T, Plan P w T ∧ ∀ σ, T σ → σ.map (·.c) = (List.range' k l.length).filter cs.contains ∧
      (∀ p ∈ pend, ∀ m, dn.length < m → m ≤ (dn ++ σ).length → m ≤ up p.i → readOK P p.o p.a p.v (nthW W0 (dn ++ σ) m)) ∧
      ∀ L : Array Bool, (∀ i, i < k → L.getD i true = true) → wpTn P lo up ops W0 (dn ++ σ) (fun L a' => (∀ c ∈ (dn ++ σ).map (·.c), L.getD c true = true) ∧ Q a' (lastW W0 (dn ++ σ))) k l L a
  | [], k, past, pend, a, w, dn, hw, hp, hd, h => by
    refine ⟨(· = []), .done w, ?_⟩
    rintro σ rfl
    refine ⟨rfl, fun p _ m h1 h2 _ => ?_, fun L hL => ?_⟩
    · simp at h2; omega
    · refine wpTn_nil ⟨fun c hc => hL c (hd c (by simpa using hc)), ?_⟩
      rw [List.append_nil, ← hw]; exact h
  | o :: rest, k, past, pend, a, w, dn, hw, hp, hd, h => by
    have hlen : past.length = dn.length := by rw [hp]; simp
    have hkd : k ∉ dn.map (·.c) := fun hm => absurd (hd k hm) (Nat.lt_irrefl k)
    have hfil : (List.range' k (o :: rest).length).filter cs.contains = if cs.contains k then k :: (List.range' (k + 1) rest.length).filter cs.contains else (List.range' (k + 1) rest.length).filter cs.contains := by
      rw [List.length_cons, List.range'_succ, List.filter_cons]
    unfold wpTx at h
    by_cases hwant : Region.wanted o (yielded ops a.tmps) = true
    · rw [if_pos hwant] at h
      by_cases hk : cs.contains k = true
      · rw [if_pos hk] at h
        rw [if_pos hk] at hfil
        -- what follows an effect
        have next : ∀ (call : Option (FuncId × Array Value)) (v : Value) (w' : World), stepUpon ⟨k, call, v, w'⟩ w ((execOp a.eval o).run P w) → lateOK P up (past.length + 1) pend w' → wpTx P lo up cs ops Q (k + 1) rest (past ++ [w]) pend (a.put o.dst v) w' →
            ∃ T', Plan P w' T' ∧ ∀ τ, T' τ → ((⟨k, call, v, w'⟩ : Step) :: τ).map (·.c) = (List.range' k (o :: rest).length).filter cs.contains ∧
              (∀ p ∈ pend, ∀ m, dn.length < m → m ≤ (dn ++ (⟨k, call, v, w'⟩ : Step) :: τ).length → m ≤ up p.i → readOK P p.o p.a p.v (nthW W0 (dn ++ (⟨k, call, v, w'⟩ : Step) :: τ) m)) ∧
              ∀ L : Array Bool, (∀ i, i < k → L.getD i true = true) → wpTn P lo up ops W0 (dn ++ (⟨k, call, v, w'⟩ : Step) :: τ) (fun L a' => (∀ c ∈ (dn ++ (⟨k, call, v, w'⟩ : Step) :: τ).map (·.c), L.getD c true = true) ∧ Q a' (lastW W0 (dn ++ (⟨k, call, v, w'⟩ : Step) :: τ))) k (o :: rest) L a := by
          intro call v w' hst hlate htx
          obtain ⟨T', hp', hT'⟩ := tx_sound rest (k + 1) (past ++ [w]) pend (a.put o.dst v) w' (dn ++ [⟨k, call, v, w'⟩]) (lastW_snoc (dn := dn) (s := ⟨k, call, v, w'⟩) W0).symm (past_snoc hw hp) (fun c hc => by
            rw [List.map_append, List.mem_append] at hc
            rcases hc with hc | hc
            · exact Nat.lt_succ_of_lt (hd c hc)
            · simp at hc; omega) htx
          refine ⟨T', hp', fun τ hτ => ?_⟩
          obtain ⟨h1, h2, h3⟩ := hT' τ hτ
          rw [List.append_assoc] at h2 h3
          simp only [List.singleton_append] at h2 h3
          refine ⟨by rw [hfil, List.map_cons, h1], fun p hpp m hm1 hm2 hm3 => ?_, fun L hL => ?_⟩
          · rcases Nat.lt_or_ge (dn.length + 1) m with hlt | hge
            · exact h2 p hpp m (by simpa using hlt) hm2 hm3
            · obtain rfl : m = dn.length + 1 := by omega
              have he : nthW W0 (dn ++ (⟨k, call, v, w'⟩ : Step) :: τ) (dn.length + 1) = w' := by
                unfold nthW
                rw [show dn.length + 1 = (dn ++ [(⟨k, call, v, w'⟩ : Step)]).length by simp, show dn ++ (⟨k, call, v, w'⟩ : Step) :: τ = (dn ++ [⟨k, call, v, w'⟩]) ++ τ by simp, List.take_left, lastW_snoc]
              rw [he]
              exact hlate p hpp (by rw [hlen]; exact hm3)
          · refine wpTn_step fun K hK => ?_
            rw [if_pos hwant]
            have hlook : look (dn ++ (⟨k, call, v, w'⟩ : Step) :: τ) k = some ⟨k, call, v, w'⟩ := by rw [look_app_none hkd, look, if_pos rfl]
            refine ⟨v, fun x => ?_, hK _ (h3 _ fun i hi => getD_set_true (fun h => hL i h) hi)⟩
            unfold tnAt pnUpon
            rw [hlook]
            have hx : x.w = w := by
              rw [x.h (by rw [hlook]; exact fun h => by cases h), hw]
              exact prevW_app (s := ⟨k, call, v, w'⟩) hkd W0
            rw [hx]
            exact ⟨rfl, hst⟩
        unfold effAt at h
        generalize hrun : (execOp a.eval o).run P w = r at *
        cases r with
        | halt x w' => simp [effUpon] at h
        | ok n w1 =>
          cases n with
          | value v =>
            obtain ⟨h1, h2⟩ := h
            obtain ⟨T', hp', hT'⟩ := next none v w1 ⟨rfl, rfl⟩ h1 h2
            exact ⟨_, .own k v w1 T' hp', fun σ ⟨τ, hτ, e⟩ => by rw [e]; exact hT' τ hτ⟩
          | skip =>
            obtain ⟨h1, h2⟩ := h
            obtain ⟨T', hp', hT'⟩ := next none undef w1 ⟨rfl, rfl⟩ h1 h2
            exact ⟨_, .own k undef w1 T' hp', fun σ ⟨τ, hτ, e⟩ => by rw [e]; exact hT' τ hτ⟩
          | enter g as =>
            obtain ⟨e1, hc⟩ := h
            have nx := fun v w' (hR : lateOK P up (past.length + 1) pend w' ∧ wpTx P lo up cs ops Q (k + 1) rest (past ++ [w]) pend (a.put o.dst v) w') => next (some (g, as)) v w' ⟨e1, rfl, rfl⟩ hR.1 hR.2
            refine ⟨_, .call k g as (fun v w' => lateOK P up (past.length + 1) pend w' ∧ wpTx P lo up cs ops Q (k + 1) rest (past ++ [w]) pend (a.put o.dst v) w') (fun v w' τ => ∃ hR, Classical.choose (nx v w' hR) τ) hc (fun v w' hR => ?_), ?_⟩
            · have := (Classical.choose_spec (nx v w' hR)).1
              have e : (fun τ => ∃ hR, Classical.choose (nx v w' hR) τ) = Classical.choose (nx v w' hR) := by
                funext τ
                exact propext ⟨fun ⟨_, h⟩ => h, fun h => ⟨hR, h⟩⟩
              rw [e]; exact this
            · rintro σ ⟨v, w', τ, _, ⟨hR, hτ⟩, rfl⟩
              exact (Classical.choose_spec (nx v w' hR)).2 τ hτ
          | _ => simp [effUpon] at h
      · rw [if_neg hk] at h
        rw [if_neg hk] at hfil
        obtain ⟨v, ⟨h1, h2⟩, h3⟩ := h
        obtain ⟨T, hT, hh⟩ := tx_sound rest (k + 1) past _ (a.put o.dst v) w dn hw hp (fun c hc => Nat.lt_succ_of_lt (hd c hc)) h3
        refine ⟨T, hT, fun σ hσ => ?_⟩
        obtain ⟨k1, k2, k3⟩ := hh σ hσ
        refine ⟨by rw [hfil, k1], fun p hpp m hm1 hm2 hm3 => k2 p (by split; exact hpp; exact List.mem_cons_of_mem _ hpp) m hm1 hm2 hm3, fun L hL => ?_⟩
        refine wpTn_step fun K hK => ?_
        rw [if_pos hwant]
        have hks : k ∉ σ.map (·.c) := fun hm => by
          rw [k1] at hm
          have := (List.mem_range'_1.1 (List.mem_filter.1 hm).1).1
          omega
        have hlook : look (dn ++ σ) k = none := by rw [look_app_none hkd, look_none hks]
        refine ⟨v, fun x => ?_, hK _ (k3 _ fun i hi => getD_set_true (fun h => hL i h) hi)⟩
        unfold tnAt pnUpon
        rw [hlook]
        obtain ⟨m, hm1, hm2, hm3, hxw⟩ := x.all hlook
        rw [hxw]
        rcases Nat.lt_trichotomy m dn.length with hlt | heq | hgt
        · refine h2 _ ?_
          rw [nthW_app (Nat.le_of_lt hlt)]
          refine List.mem_iff_getElem?.2 ⟨m - lo k, ?_⟩
          rw [List.getElem?_drop, show lo k + (m - lo k) = m by omega, hp]
          simp [hlt]
        · subst heq
          rw [nthW_app (Nat.le_refl _), nthW_all, ← hw]
          exact h1
        · have := k2 ⟨k, o, a, v⟩ (by rw [if_neg (by omega)]; exact List.mem_cons_self ..) m hgt hm3 hm2
          exact this
    · rw [if_neg hwant] at h
      obtain ⟨hk, h3⟩ := h
      rw [if_neg (by rw [hk]; exact Bool.false_ne_true)] at hfil
      obtain ⟨T, hT, hh⟩ := tx_sound rest (k + 1) past pend (a.put o.dst undef) w dn hw hp (fun c hc => Nat.lt_succ_of_lt (hd c hc)) h3
      refine ⟨T, hT, fun σ hσ => ?_⟩
      obtain ⟨k1, k2, k3⟩ := hh σ hσ
      refine ⟨by rw [hfil, k1], k2, fun L hL => ?_⟩
      refine wpTn_step fun K hK => ?_
      rw [if_neg hwant]
      have hks : k ∉ σ.map (·.c) := fun hm => by
        rw [k1] at hm
        have := (List.mem_range'_1.1 (List.mem_filter.1 hm).1).1
        omega
      exact ⟨by rw [look_app_none hkd, look_none hks], hK _ (k3 _ fun i hi => getD_set_true (fun h => hL i h) hi)⟩
/-- A region that draws its order, walked in the order of the text. cs: the effects' numbers, which must come in this order; lo, up: how many of them are done at least, and at most, when an operation comes up. -/
theorem wp_region_text {id : Nat} {Q : Exit → Act → World → Prop} {a : Act} {w : World} {l : List Oper} (cs : List Nat) (lo up : Nat → Nat) (hm : P.follows .mixedOrders = true) (hB : Region.lexB .any l.toArray = true) (hC : ((List.range l.length).filter cs.contains == cs) = true) (hU : upB .any l.toArray cs up = true) (hL : loB .any l.toArray cs lo = true)
    (h : wpTx P lo up cs l.toArray (fun a' w' => Q .normal a' w') 0 l [] [] a w.drew) : (Code.region id l.toArray true).wp P Q a w := by
  simp only [Region.lexB, Bool.and_eq_true] at hB
  obtain ⟨hlo, hcs⟩ := lo_of hL
  have hC' : (List.range l.length).filter cs.contains = cs := by simpa using hC
  have hnd : cs.Nodup := by rw [← hC']; exact List.nodup_range.filter _
  obtain ⟨T, hT, hh⟩ := tx_sound (W0 := w.drew) l 0 [] [] a w.drew [] rfl (by simp) (fun c hc => by simp at hc) h
  have hTc : ∀ σ, T σ → σ.map (·.c) = cs := fun σ hσ => by rw [(hh σ hσ).1, ← List.range_eq_range', hC']
  refine wp_region_any hm (before_text (cs := cs) (W0 := w.drew) (Q := fun σ L a' => (∀ c ∈ σ.map (·.c), L.getD c true = true) ∧ Q .normal a' (lastW w.drew σ)) hcs hnd hlo (fun i hi => List.all_eq_true.1 hU i (List.mem_range.2 hi)) (fun σ L a h => by rw [stage_full h.1]; exact h.2) _ [] T _ _ _ rfl hT (fun σ hσ => hTc σ hσ) (fun s hs => by simp at hs) (fun σ hσ s hs => ?_) ⟨fun s hs => by simp at hs, fun j i _ hj => by simp [Array.getD] at hj⟩ (fun σ hσ => ?_))
  · have : s.c ∈ cs := by rw [← hTc σ hσ]; exact List.mem_map.2 ⟨s, hs, rfl⟩
    rw [← hC'] at this
    have := List.mem_range.1 (List.mem_filter.1 this).1
    simp [this]
  · have := wpAnyTn_lex (P := P) (lo := lo) (up := up) (W0 := w.drew) (σ := σ) (md := .any) hB.1 l 0 (Array.replicate l.length false) a (by simp) (by simpa using hB.2) ((hh σ hσ).2.2 (Array.replicate l.length false) fun i hi => absurd hi (Nat.not_lt_zero i))
    simpa using this
end
/-- The tightest bounds, for the author's eye. -/
def upsOf (md : Region.Mode) (ops : Array Oper) (cs : List Nat) : List Nat :=
  (List.range ops.size).foldr (fun i acc => 
    (((List.range ops.size).filter fun j => decide (i < j) && waits md ops j i).foldl (fun b j => min b (match cs.findIdx? (· == j) with | some m => m | none => acc.getD (j - i - 1) cs.length)) cs.length) :: acc) []
def losOf (md : Region.Mode) (ops : Array Oper) (cs : List Nat) : List Nat :=
  (List.range ops.size).foldl (fun acc i =>
    acc ++ [((List.range i).filter fun j => waits md ops i j).foldl (fun b j => max b (match cs.findIdx? (· == j) with | some m => m + 1 | none => acc.getD j 0)) 0]) []
attribute [go_sem] readOK lateOK effUpon effAt
end Go.Proofs.YtclejidkahpemaaDoor
