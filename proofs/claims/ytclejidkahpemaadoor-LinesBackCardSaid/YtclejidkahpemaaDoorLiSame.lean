/- Two rows of commands, held side by side. -/
import Derived.Test.YtclejidkahpemaaDoorLiAll
namespace Go.Proofs.YtclejidkahpemaaDoor
open Go.RowKit
set_option linter.unusedVariables false
set_option linter.unusedSimpArgs false
attribute [local irreducible] ByteArray.extract ByteArray.toList
attribute [local go_sem] Oper.semAt_some run_store_func run_store_nilFunc
/-- A row of commands, from a place on. -/
def RowAt (w : World) (A : Option Addr) (l : List Cm) : Prop := l = [] ∨ ∃ b o, A = some ⟨b, o, none⟩ ∧ ∀ j u, (cmsV l)[j]? = some u → w.cell? ⟨b, o + j, none⟩ = some u
theorem cmsV_at (l : List Cm) (i : Nat) (hi : i < l.length) : (cmsV l)[i * 3]? = some (.string (sOf l[i].word)) ∧ (cmsV l)[i * 3 + 1]? = some (.string (sOf l[i].text)) ∧ (cmsV l)[i * 3 + 2]? = some (.int .i64 l[i].n) := by
  induction l generalizing i with
  | nil => simp at hi
  | cons c l ih =>
    have hc : cmsV (c :: l) = .string (sOf c.word) :: .string (sOf c.text) :: .int .i64 c.n :: cmsV l := rfl
    rw [hc]
    cases i with
    | zero => exact ⟨rfl, rfl, rfl⟩
    | succ i =>
      have := ih i (by simpa using hi)
      rw [show (i + 1) * 3 = i * 3 + 3 by omega]
      simpa using this
/-- The command at a place of a row. -/
theorem row_at {w : World} {b o : Nat} {l : List Cm} (h : ∀ j u, (cmsV l)[j]? = some u → w.cell? ⟨b, o + j, none⟩ = some u) (i : Nat) (hi : i < l.length) :
    w.cell? ⟨b, o + i * 3, none⟩ = some (.string (sOf l[i].word)) ∧ w.cell? ⟨b, o + i * 3 + 1, none⟩ = some (.string (sOf l[i].text)) ∧ w.cell? ⟨b, o + i * 3 + 2, none⟩ = some (.int .i64 l[i].n) := by
  obtain ⟨h0, h1, h2⟩ := cmsV_at l i hi
  exact ⟨h _ _ h0, by have := h _ _ h1; rwa [← Nat.add_assoc] at this, by have := h _ _ h2; rwa [← Nat.add_assoc] at this⟩
theorem same_cm (x y : Cm) : x = y ↔ (sOf x.word).toList = (sOf y.word).toList ∧ (sOf x.text).toList = (sOf y.text).toList ∧ x.n = y.n := by
  obtain ⟨a, b, c⟩ := x
  obtain ⟨a', b', c'⟩ := y
  simp only [sOf_toList, Cm.mk.injEq]
def loSm (i : Nat) : Nat := 0
set_option maxRecDepth 100000 in
set_option maxHeartbeats 1600000 in
theorem same_any (l m : List Cm) (A B : Option Addr) (c d : Nat) (w : World) (hl : l.length ≤ 140737488351232) (hA : RowAt w A l) (hB : RowAt w B m) :
    Calls Tryd.prog 18 #[.slice A l.length c, .slice B m.length d] w fun e w' => e = .returned (.bool (decide (l = m))) ∧ ∃ n, w' = w.drewN n := by
  go_enter Tryd.func18, Tryd.ntmps18
  go_wp2_with fail
  go_loopw [5, 6] (fun is ix wr => ∃ (i n : Nat) (b : Bool), is = .bool b ∧ ix = .int .i64 i ∧ i ≤ l.length ∧ wr = w.drewN n ∧ (b = true → l.length = m.length ∧ l.take i = m.take i) ∧ (b = false → l ≠ m)) (fun _ ix _ => l.length - (intOf ix).toNat)
  case atStart =>
    refine ⟨0, 0, _, rfl, rfl, Nat.zero_le _, rfl, ?_, ?_⟩
    · intro h
      have : (l.length : Int) = (m.length : Int) := by simpa using h
      exact ⟨by omega, by simp⟩
    · rintro h rfl
      simp at h
  case round =>
    obtain ⟨i, n, b, rfl, rfl, hi, rfl, h1, h2⟩ := hrel
    cases b with
    | false =>
      have hd : decide (l = m) = false := decide_eq_false (h2 rfl)
      clear h1 h2
      go_wp2_with fail
      go_ret
      exact ⟨by first | rfl | (rw [hd]; rfl), n, rfl⟩
    | true =>
      obtain ⟨hlm, htk⟩ := h1 rfl
      clear h1 h2
      by_cases hlt : i < l.length
      · have hlt' : (i : Int) < (l.length : Int) := by omega
        have hlt2 : (i : Int) < (m.length : Int) := by omega
        obtain ⟨ga, oa, rfl, ha⟩ : ∃ b o, A = some ⟨b, o, none⟩ ∧ ∀ j u, (cmsV l)[j]? = some u → w.cell? ⟨b, o + j, none⟩ = some u := by
          rcases hA with rfl | h
          · simp at hlt
          · exact h
        obtain ⟨gb, ob, rfl, hb⟩ : ∃ b o, B = some ⟨b, o, none⟩ ∧ ∀ j u, (cmsV m)[j]? = some u → w.cell? ⟨b, o + j, none⟩ = some u := by
          rcases hB with h | h
          · have : l.length = 0 := by rw [hlm, h]; rfl
            omega
          · exact h
        obtain ⟨a0, a1, a2⟩ := row_at ha i hlt
        have him : i < m.length := by omega
        obtain ⟨b0, b1, b2⟩ := row_at hb i him
        obtain ⟨x, hx⟩ : ∃ x, x = l[i] := ⟨_, rfl⟩
        obtain ⟨y, hy⟩ : ∃ y, y = m[i] := ⟨_, rfl⟩
        rw [← hx] at a0 a1 a2
        rw [← hy] at b0 b1 b2
        have HM := Lib.hid (And.intro hlm (And.intro htk (And.intro hx hy)))
        clear hlm htk ha hb hA hB hx hy
        by_cases w1 : (sOf x.word).toList = (sOf y.word).toList <;> by_cases w2 : (sOf x.text).toList = (sOf y.text).toList <;> by_cases w3 : x.n = y.n
        all_goals
          have hxy := same_cm x y
          simp only [w1, w2, w3, and_true, and_false, iff_true, iff_false, true_and, false_and] at hxy
          have HXY := Lib.hid hxy
          clear hxy
          go_wp2_with fail
          refine wp_region_text [] loSm loSm (by kernel_rfl) (by kernel_rfl) (by kernel_rfl) (by kernel_rfl) (by kernel_rfl) ?_
          repeat (refine wpTx_now (by rfl) (by rfl) (by rfl) (fun K hK => ?_); go_simp; refine hK _ ?_; clear hK K)
          try (refine wpTx_now (by rfl) (by rfl) (by rfl) (fun K hK => ?_); simp only [w1, w2, w3, if_true, if_false]; go_simp; refine hK _ ?_; clear hK K)
          repeat (refine wpTx_now (by rfl) (by rfl) (by rfl) (fun K hK => ?_); go_simp; refine hK _ ?_; clear hK K)
          refine wpTx_nil ?_
          go_wp2_with fail
          refine ⟨⟨i + 1, n + 1, _, rfl, by simp, by omega, rfl, ?_, ?_⟩, by simp [intOf]; omega⟩
          · intro hb
            first
            | exact absurd hb (by decide)
            | exact ⟨HM.out.1, by rw [List.take_succ_eq_append_getElem hlt, List.take_succ_eq_append_getElem him, HM.out.2.1, ← HM.out.2.2.1, ← HM.out.2.2.2, HXY.out]⟩
          · intro hb
            first
            | exact absurd hb (by decide)
            | (intro hlm; apply HXY.out; rw [HM.out.2.2.1, HM.out.2.2.2]; subst hlm; rfl)
      · have hd : decide (l = m) = true := decide_eq_true (by
          have e : i = l.length := by omega
          rw [e, List.take_length, hlm, List.take_length] at htk
          exact htk)
        have hlt' : ¬ (i : Int) < (l.length : Int) := by omega
        clear htk hlm
        go_wp2_with fail
        go_ret
        exact ⟨by first | rfl | (rw [hd]; rfl), n, rfl⟩
end Go.Proofs.YtclejidkahpemaaDoor
