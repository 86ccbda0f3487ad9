/- A region that draws, inside a round of a range over a function: walked in the order of the text. Over any program. -/
import Derived.Test.YtclejidkahpemaaDoorEither
import Derived.Test.YtclejidkahpemaaDoorRange
import Derived.RangeFuncCalls
namespace Go.Proofs.YtclejidkahpemaaDoor
open Go.RowKit
set_option linter.unusedVariables false
section
variable {P : Program} {Q : Exit → Act → World → Prop} {ops : Array Oper} {r n : Nat}
theorem rowsIn_round {row : String} {args : Array Value} {w : World} {R : Value → World → Prop} (h : Rows P row args w R) : RowsIn (Fence.wide.inRound r) n P row args w R :=
  fun c cs _ => let ⟨v, w', hr, s⟩ := h c cs; ⟨v, w', hr, stepsIn_wide.2 s⟩
theorem wpOpsIn_round (hQ : ¬ LetsOut Q) (hd : ∀ (i : Nat) (o : Oper), ops[i]? = some o → ∀ c, o.op ≠ Op.defer c) : ∀ (l : List Nat) (a : Act) (w : World), wpOps P ops Q l a w → wpOpsIn (Fence.wide.inRound r) n P ops Q l a w
  | [], _, _, h => h
  | i :: rest, a, w, h => by
    unfold wpOps at h
    unfold wpOpsIn
    cases ho : ops[i]? with
    | none =>
      rw [ho] at h
      exact wpOpsIn_round hQ hd rest a w h
    | some o =>
      rw [ho] at h
      simp only at h ⊢
      by_cases hw : Region.wanted o (yielded ops a.tmps) = true
      · rw [if_pos hw] at h ⊢
        rcases h with h | ⟨_, h⟩
        · refine ⟨fun _ _ => trivial, ?_⟩
          rw [show (Fence.wide.inRound r).round = some r from rfl, Oper.semAt_some r _ _ (hd i o ho)]
          unfold Oper.wp at h
          generalize (execOp a.eval o).run P w = res at h ⊢
          cases res with
          | ok nx w' =>
            cases nx with
            | value v => exact wpOpsIn_round hQ hd rest _ _ h
            | skip => exact wpOpsIn_round hQ hd rest _ _ h
            | defer d => exact wpOpsIn_round hQ hd rest _ _ h
            | enter f args =>
              refine ⟨(fun h => nomatch h), CallsIn.inRound r (callsIn_wide.2 ?_)⟩
              refine Calls.mono (show Calls P f args w' _ from h) ?_
              intro e w'' he
              cases e with
              | returned v => exact wpOpsIn_round hQ hd rest _ _ he
              | panicked ch => exact he
              | outgrown => exact he
            | row row args =>
              refine ⟨(fun h => nomatch h), rowsIn_round (Rows.mono (show Rows P row args w' _ from h) ?_)⟩
              exact fun v w'' he => wpOpsIn_round hQ hd rest _ _ he
            | _ => exact (show False from h).elim
          | halt hh w' =>
            cases hh with
            | panic v => exact h
            | _ => exact (show False from h).elim
        · exact absurd h hQ
      · rw [if_neg hw] at h ⊢
        exact ⟨fun _ _ => trivial, wpOpsIn_round hQ hd rest _ _ h⟩
theorem wpIn_region_text {id : Nat} {x : Act} {w : World} {l : List Oper} (cs : List Nat) (lo up : Nat → Nat) (hm : P.follows .mixedOrders = true) (hB : Region.lexB .any l.toArray = true) (hC : ((List.range l.length).filter cs.contains == cs) = true) (hU : upB .any l.toArray cs up = true) (hL : loB .any l.toArray cs lo = true)
    (hd : (l.all fun (o : Oper) => match o.op with | .defer _ => false | _ => true) = true) (hQ : ¬ LetsOut Q)
    (h : wpTx P lo up cs l.toArray (fun a' w' => Q .normal a' w') 0 l [] [] x w.drew) : (Code.region id l.toArray true).wpIn (Fence.wide.inRound r) n P Q x w := by
  refine wpIn_region_draw fun t => wpOpsIn_round hQ ?_ _ _ _ ?_
  · intro i o ho c hc
    have h1 : o ∈ l := by
      have : l[i]? = some o := by simpa using ho
      exact List.mem_of_getElem? this
    have := List.all_eq_true.1 hd o h1
    rw [hc] at this
    cases this
  · simp only [Region.schedule, hm, Bool.true_or, if_true]
    have hlin : LinF .any l.toArray l.length (Array.replicate l.length false) (Region.linearise .any l.toArray t) := by
      have := linF_go (md := .any) l.toArray l.length t (Array.replicate l.length false)
      simpa [Region.linearise] using this
    have ha := text_any (P := P) (Q := Q) (lo := lo) (up := up) cs hB hC hU hL h
    simp only [List.size_toArray] at ha
    exact linF_wp ha hlin
end
end Go.Proofs.YtclejidkahpemaaDoor
