/- The iterator strings.FieldsSeq over the words of lines.forms. Printed by mkfields.py. -/
import Derived.Test.YtclejidkahpemaaDoorProg
import Derived.Test.YtclejidkahpemaaDoorRange
import Derived.Test.YtclejidkahpemaaDoorInText
namespace Go.Proofs.YtclejidkahpemaaDoor
open Go.RowKit
attribute [local irreducible] ByteArray.extract ByteArray.toList
attribute [local go_sem] Oper.semAt_some run_store_func run_store_nilFunc
def allB : List UInt8 := [99, 108, 101, 97, 114, 32, 112, 97, 114, 115, 101, 32, 101, 108, 97, 98, 32, 99, 111, 100, 101, 32, 118, 101, 114, 105, 102, 121, 32, 115, 105, 116, 101, 115, 32, 115, 97, 118, 101, 32, 111, 117, 116]
def allS : ByteArray := ⟨allB.toArray⟩
def spaceV (c : Nat) : Int := if (9 ≤ c ∧ c ≤ 13) ∨ c = 32 then 1 else 0
/-- Where the field at a place begins (-1: none), and how many fields are behind. -/
def fieldAt : Nat → Int × Nat
  | 0 => (-1, 0)
  | i + 1 => let (s, n) := fieldAt i
    if spaceV (allS.data.getD i 0).toNat = 1 then (if 0 ≤ s then (-1, n + 1) else (-1, n)) else (if s < 0 then (i, n) else (s, n))
def stA (i : Nat) : Int := (fieldAt i).1
def ctA (i : Nat) : Nat := (fieldAt i).2
/-- The words themselves. -/
def resW : List ByteArray := [⟨#[99, 108, 101, 97, 114]⟩, ⟨#[112, 97, 114, 115, 101]⟩, ⟨#[101, 108, 97, 98]⟩, ⟨#[99, 111, 100, 101]⟩, ⟨#[118, 101, 114, 105, 102, 121]⟩, ⟨#[115, 105, 116, 101, 115]⟩, ⟨#[115, 97, 118, 101]⟩, ⟨#[111, 117, 116]⟩]

/-- One place's share of what the walk asks. -/
def stepB (i : Nat) : Bool :=
  let c := (allS.data.getD i 0).toNat
  decide (c < 128) && decide (-1 ≤ stA i) && decide (stA i ≤ i) && decide (ctA i ≤ 8) &&
  (if spaceV c = 1 then (if 0 ≤ stA i then decide (ctA i < 8) && ((resW.getD (ctA i) ⟨#[]⟩).data == (allS.extract (stA i).toNat i).data) && decide (stA (i + 1) = -1) && decide (ctA (i + 1) = ctA i + 1) else decide (stA (i + 1) = -1) && decide (ctA (i + 1) = ctA i))
   else decide (spaceV c = 0) && (if stA i < 0 then decide (stA (i + 1) = i) && decide (ctA (i + 1) = ctA i) else decide (stA (i + 1) = stA i) && decide (ctA (i + 1) = ctA i)))
theorem steps_ok : (List.range 43).all stepB = true := by decide +kernel
theorem all_size : allS.size = 43 := by decide +kernel
theorem end_ok : 0 ≤ stA 43 ∧ stA 43 ≤ 43 ∧ ctA 43 = 7 ∧ (resW.getD 7 ⟨#[]⟩).data = (allS.extract (stA 43).toNat 43).data := by decide +kernel
theorem resW_len : resW.length = 8 := rfl
theorem fields_any (s : ByteArray) (w : World) : Calls Tryd.prog 39 #[.string s] w fun e w' => e = .returned (.func (.func 46) #[] #[.pointer (some ⟨w.heap.size, 0, none⟩)]) ∧ w.alloc (.cells #[.string s] 9) = w' := by
  have hmf : ∀ (fn : Fn) (first cap : Array Value) (w : World), (Instr.makeFunc fn first cap).run Tryd.prog w = .ok (.func fn first cap) w := fun _ _ _ _ => rfl
  go_enter Tryd.func39, Tryd.ntmps39
  go_wp2
  go_ret
  exact ⟨rfl, rfl⟩

/-- asciiSpace reads as it is laid. -/
def Spaces (w : World) : Prop := ∀ c : Nat, c < 256 → w.cell? ⟨0, c, none⟩ = some (.int .u8 (spaceV c))

theorem step_at {i : Nat} (h : i < 43) : stepB i = true := List.all_eq_true.1 steps_ok i (List.mem_range.2 h)
/-- The byte at a place. -/
def byteA (i : Nat) : Nat := (allS.data.getD i 0).toNat
theorem byteA_at {i : Nat} (h : i < allS.size) : byteA i = (allS[i]'h).toNat := by
  unfold byteA
  have h' : i < allS.data.size := h
  rw [Array.getD, dif_pos h']; rfl
theorem st_zero : stA 0 = -1 := rfl
theorem ct_zero : ctA 0 = 0 := rfl
theorem step_low {i : Nat} (h : i < 43) : byteA i < 128 ∧ -1 ≤ stA i ∧ stA i ≤ i ∧ ctA i ≤ 8 ∧ (spaceV (byteA i) = 1 ∨ spaceV (byteA i) = 0) := by
  have := step_at h
  unfold stepB at this
  simp only [Bool.and_eq_true, decide_eq_true_eq] at this
  obtain ⟨⟨⟨⟨h1, h2⟩, h3⟩, h4⟩, h5⟩ := this
  refine ⟨h1, h2, h3, h4, ?_⟩
  unfold spaceV; split <;> simp
theorem step_word {i : Nat} (h : i < 43) (hs : spaceV (byteA i) = 1) (h0 : 0 ≤ stA i) : ctA i < 8 ∧ resW.getD (ctA i) ⟨#[]⟩ = allS.extract (stA i).toNat i ∧ stA (i + 1) = -1 ∧ ctA (i + 1) = ctA i + 1 := by
  have := step_at h
  unfold stepB at this
  rw [show (allS.data.getD i 0).toNat = byteA i from rfl] at this
  simp only [hs, h0, if_true, Bool.and_eq_true, decide_eq_true_eq, beq_iff_eq] at this
  obtain ⟨_, ⟨⟨h1, h2⟩, h3⟩, h4⟩ := this
  exact ⟨h1, ByteArray.ext h2, h3, h4⟩
theorem step_blank {i : Nat} (h : i < 43) (hs : spaceV (byteA i) = 1) (h0 : ¬ 0 ≤ stA i) : stA (i + 1) = -1 ∧ ctA (i + 1) = ctA i := by
  have := step_at h
  unfold stepB at this
  rw [show (allS.data.getD i 0).toNat = byteA i from rfl] at this
  simp only [hs, h0, if_true, if_false, Bool.and_eq_true, decide_eq_true_eq] at this
  exact this.2
theorem step_first {i : Nat} (h : i < 43) (hs : spaceV (byteA i) = 0) (h0 : stA i < 0) : stA (i + 1) = i ∧ ctA (i + 1) = ctA i := by
  have := step_at h
  unfold stepB at this
  rw [show (allS.data.getD i 0).toNat = byteA i from rfl] at this
  simp only [hs, h0, show ¬ ((0 : Int) = 1) by decide, if_true, if_false, Bool.and_eq_true, decide_eq_true_eq] at this
  exact this.2.2
theorem step_on {i : Nat} (h : i < 43) (hs : spaceV (byteA i) = 0) (h0 : ¬ stA i < 0) : stA (i + 1) = stA i ∧ ctA (i + 1) = ctA i := by
  have := step_at h
  unfold stepB at this
  rw [show (allS.data.getD i 0).toNat = byteA i from rfl] at this
  simp only [hs, h0, show ¬ ((0 : Int) = 1) by decide, if_false, Bool.and_eq_true, decide_eq_true_eq] at this
  exact this.2.2

attribute [local irreducible] allS stA ctA byteA
set_option maxRecDepth 10000 in
set_option maxHeartbeats 1600000 in
theorem fields_iter (B : Nat) (w0 : World) (hc : w0.cell? ⟨B, 0, none⟩ = some (.string allS)) (hsp : Spaces w0) :
    IterC Tryd.prog 46 #[.pointer (some ⟨B, 0, none⟩)] resW (fun s => #[.string s]) (fun _ => False) (fun b => b = B ∨ b = 0) w0 := by
  intro k l J Jx W hW hkeep hJ hJx hY h0
  have keep : ∀ (A : World), (∀ b, False ∨ (b = B ∨ b = 0) → A.heap[b]? = w0.heap[b]?) → A.cell? ⟨B, 0, none⟩ = some (.string allS) ∧ Spaces A := fun A h =>
    ⟨(World.cell?_of_block (w := w0) (h B (.inr (.inl rfl)))).trans hc, fun c hlt => (World.cell?_of_block (w := w0) (h 0 (.inr (.inr rfl)))).trans (hsp c hlt)⟩
  have Kp := Lib.hid keep
  have Hkeep := Lib.hid hkeep
  have hsz := all_size
  have hAS := hsz
  clear hc hsp hkeep keep
  refine callsIn_of_wp Tryd.func46 rfl trivial ?_
  simp only [Tryd.ntmps46, List.size_toArray, List.length_cons, List.length_nil, Nat.reduceAdd, Nat.reduceSub, Array.replicate_succ, Array.replicate_zero, List.push_toArray, List.append_toArray, List.nil_append, List.cons_append]
  gi_wp2
  gi_loopw [3, 4] (fun st at_ wr => ∃ i : Nat, i ≤ 43 ∧ at_ = .int .i64 i ∧ st = .int .i64 (stA i) ∧ J (ctA i) wr ∧ (∀ b, False ∨ (b = B ∨ b = 0) → wr.heap[b]? = w0.heap[b]?))
    (fun st at_ wr => match at_ with | .int _ q => 43 - q.toNat | _ => 0)
  case atStart => exact ⟨0, by omega, rfl, by rw [st_zero], by rw [ct_zero]; exact h0, Hkeep.out⟩
  case round =>
    obtain ⟨i, hi, rfl, rfl, hj, hk⟩ := hrel
    obtain ⟨hcell, hspc⟩ := Kp.out _ hk
    rcases Nat.lt_or_ge i 43 with hi' | hi'
    · have hlt : (i : Int) < (allS.size : Int) := by omega
      obtain ⟨l1, l2, l3, l4, l5⟩ := step_low hi'
      have hbA : byteA i = (allS[i]'(by omega)).toNat := byteA_at (by omega)
      have w1 : wrap32 ((allS[i]'(by omega)).toNat : Int) = ((allS[i]'(by omega)).toNat : Int) := by unfold wrap32; omega
      have w2 : decide ((128 : Int) ≤ ((allS[i]'(by omega)).toNat : Int)) = false := decide_eq_false (by omega)
      have w3 : ((allS[i]'(by omega)).toNat : Int) < 256 := by omega
      have c1 := hspc (allS[i]'(by omega)).toNat (by omega)
      rw [← hbA] at c1
      have Hspc := Lib.hid hspc
      clear hspc
      rcases l5 with l5 | l5
      · rw [l5] at c1
        by_cases hp : 0 ≤ stA i
        · have SW := Lib.hid (step_word hi' l5 hp)
          obtain ⟨st, hst⟩ : ∃ st : Nat, stA i = st := ⟨(stA i).toNat, by omega⟩
          have hn := SW.out.1
          have hw : resW[ctA i]'(by rw [resW_len]; exact hn) = allS.extract st i := by
            have := SW.out.2.1
            rw [List.getD_eq_getElem?_getD, List.getElem?_eq_getElem (by rw [resW_len]; exact hn), hst] at this
            exact this
          obtain ⟨fn, tmps, assign, body, hy, hR⟩ := hY (ctA i) (by rw [resW_len]; exact hn) wr hj
          rw [hw] at hy
          rw [hst] at l2 l3 ⊢
          rw [hbA] at c1
          have d1 : decide ((0 : Int) ≤ (st : Int)) = true := decide_eq_true (by omega)
          clear hw hp hst l5 hbA
          gi_wp2
          refine ⟨(fun h => nomatch h), hR.mono ?_⟩
          clear hR hy
          intro e W3 hpost
          obtain ⟨hs3, hk3, hpost⟩ := hpost
          rcases hpost with ⟨rfl, hJ3⟩ | ⟨rfl, hJx3⟩
          · gi_wp2
            refine ⟨⟨i + 1, by omega, by rw [Int.natCast_add]; rfl, by rw [SW.out.2.2.1], by rw [SW.out.2.2.2]; exact hJ3, fun b hb => (hk3 b hb).trans (hk b hb)⟩, ?_⟩
            show 43 - (((i : Int) + 1).toNat) < 43 - ((i : Int).toNat)
            omega
          · gi_wp2
            refine bodyPost_ret (results_none rfl _ _ _) rfl ?_
            exact ⟨⟨_, rfl⟩, .inr ⟨ctA i + 1, by rw [resW_len]; omega, hJx3⟩⟩
        · have SB := Lib.hid (step_blank hi' l5 hp)
          have hst : stA i = -1 := by omega
          rw [hst]
          rw [hbA] at c1
          clear hp hst l5 hbA
          gi_wp2
          refine ⟨⟨i + 1, by omega, by rw [Int.natCast_add]; rfl, by rw [SB.out.1], by rw [SB.out.2]; exact hj, hk⟩, ?_⟩
          show 43 - (((i : Int) + 1).toNat) < 43 - ((i : Int).toNat)
          omega
      · rw [l5] at c1
        by_cases hp : stA i < 0
        · have SF := Lib.hid (step_first hi' l5 hp)
          have hst : stA i = -1 := by omega
          rw [hst]
          rw [hbA] at c1
          clear hp hst l5 hbA
          gi_wp2
          refine ⟨⟨i + 1, by omega, by rw [Int.natCast_add]; rfl, by rw [SF.out.1], by rw [SF.out.2]; exact hj, hk⟩, ?_⟩
          show 43 - (((i : Int) + 1).toNat) < 43 - ((i : Int).toNat)
          omega
        · have SO := Lib.hid (step_on hi' l5 hp)
          have d1 : decide (stA i < 0) = false := decide_eq_false hp
          rw [hbA] at c1
          clear l5 hbA
          gi_wp2
          refine ⟨⟨i + 1, by omega, by rw [Int.natCast_add]; rfl, by rw [SO.out.1], by rw [SO.out.2]; exact hj, hk⟩, ?_⟩
          show 43 - (((i : Int) + 1).toNat) < 43 - ((i : Int).toNat)
          omega
    · obtain rfl : i = 43 := by omega
      obtain ⟨e1, e2, e3, e4⟩ := end_ok
      obtain ⟨st, hst⟩ : ∃ st : Nat, stA 43 = st := ⟨(stA 43).toNat, by omega⟩
      have hw : resW[7]'(by decide) = allS.extract st 43 := by
        have : resW.getD 7 ⟨#[]⟩ = allS.extract st 43 := ByteArray.ext (by rw [e4, hst]; rfl)
        exact this
      rw [e3] at hj
      obtain ⟨fn, tmps, assign, body, hy, hR⟩ := hY 7 (by decide) wr hj
      rw [hw] at hy
      rw [hst] at e1 e2 ⊢
      have d1 : decide ((0 : Int) ≤ (st : Int)) = true := decide_eq_true (by omega)
      have hlt : (allS.size : Int) = 43 := by omega
      have hnl : ¬ ((43 : Int) < (allS.size : Int)) := by omega
      clear hw hst e3 e4
      gi_wp2
      refine ⟨(fun h => nomatch h), hR.mono ?_⟩
      clear hR hy
      intro e W3 hpost
      obtain ⟨hs3, hk3, hpost⟩ := hpost
      rcases hpost with ⟨rfl, hJ3⟩ | ⟨rfl, hJx3⟩
      · gi_wp2
        go_end0
        exact ⟨⟨_, rfl⟩, .inl hJ3⟩
      · gi_wp2
        go_end0
        exact ⟨⟨_, rfl⟩, .inr ⟨8, Nat.le_refl _, hJx3⟩⟩
end Go.Proofs.YtclejidkahpemaaDoor
