/- lines: the bytes' classes; the iterator letters. -/
import Derived.Test.YtclejidkahpemaaDoorLiForms
import Derived.Test.YtclejidkahpemaaDoorInReadP
namespace Go.Proofs.YtclejidkahpemaaDoor
open Go.RowKit
set_option linter.unusedVariables false
set_option linter.unusedSimpArgs false
attribute [local irreducible] ByteArray.extract ByteArray.toList
attribute [local go_sem] Oper.semAt_some run_store_func run_store_nilFunc
def RetQ (v : Value) (w : World) (e : Ending) (w' : World) : Prop := e = .returned v ∧ w = w'
theorem u8_lt (c : UInt8) : c.toNat < 256 := UInt8.toNat_lt c
theorem dgt_any (c : UInt8) (w : World) : Calls Tryd.prog 37 #[.int .u8 c.toNat] w (RetQ (.bool (isDig c)) w) := by
  have hr := u8_lt c
  unfold isDig
  generalize c.toNat = n at *
  by_cases h1 : 48 ≤ n
  · by_cases h2 : n ≤ 57
    · have h1' : (48 : Int) ≤ (n : Int) := by omega
      have h2' : (n : Int) ≤ 57 := by omega
      go_enter Tryd.func37, Tryd.ntmps37
      go_wp2
      go_ret
      exact ⟨by simp [h1, h2], rfl⟩
    · have h1' : (48 : Int) ≤ (n : Int) := by omega
      have h2' : ¬ (n : Int) ≤ 57 := by omega
      go_enter Tryd.func37, Tryd.ntmps37
      go_wp2
      go_ret
      exact ⟨by simp [h1, h2], rfl⟩
  · have h1' : ¬ (48 : Int) ≤ (n : Int) := by omega
    go_enter Tryd.func37, Tryd.ntmps37
    go_wp2
    go_ret
    exact ⟨by simp [h1], rfl⟩
theorem clr_any (c : UInt8) (w : World) : Calls Tryd.prog 33 #[.int .u8 c.toNat] w (RetQ (.bool (mayL 1 c)) w) := by
  have hr := u8_lt c
  unfold mayL
  rw [if_pos rfl]
  generalize c.toNat = n at *
  by_cases h1 : 32 ≤ n
  · have h1' : (32 : Int) ≤ (n : Int) := by omega
    by_cases h2 : n ≤ 126
    · have h2' : (n : Int) ≤ 126 := by omega
      go_enter Tryd.func33, Tryd.ntmps33
      go_wp2
      go_ret
      exact ⟨by simp [h1, h2], rfl⟩
    · have h2' : ¬ (n : Int) ≤ 126 := by omega
      go_enter Tryd.func33, Tryd.ntmps33
      go_wp2
      go_ret
      exact ⟨by simp [h1, h2], rfl⟩
  · have h1' : ¬ (32 : Int) ≤ (n : Int) := by omega
    go_enter Tryd.func33, Tryd.ntmps33
    go_wp2
    go_ret
    exact ⟨by simp [h1], rfl⟩
theorem fhx_any (c : UInt8) (w : World) : Calls Tryd.prog 35 #[.int .u8 c.toNat] w (RetQ (.bool (mayL 2 c)) w) := by
  have hr := u8_lt c
  have HD := Lib.hid (dgt_any c)
  unfold mayL
  rw [if_neg (by decide), if_pos rfl]
  generalize isDig c = d at *
  generalize c.toNat = n at *
  cases d with
  | true =>
    go_enter Tryd.func35, Tryd.ntmps35
    go_wp2_with fail
    refine (HD.out _).mono ?_
    rintro e w' ⟨rfl, rfl⟩
    go_wp2
    go_ret
    exact ⟨rfl, rfl⟩
  | false =>
    by_cases h1 : 97 ≤ n
    · have h1' : (97 : Int) ≤ (n : Int) := by omega
      by_cases h2 : n ≤ 102
      · have h2' : (n : Int) ≤ 102 := by omega
        go_enter Tryd.func35, Tryd.ntmps35
        go_wp2_with fail
        refine (HD.out _).mono ?_
        rintro e w' ⟨rfl, rfl⟩
        go_wp2
        go_ret
        exact ⟨by simp [h1, h2] <;> omega, rfl⟩
      · have h2' : ¬ (n : Int) ≤ 102 := by omega
        go_enter Tryd.func35, Tryd.ntmps35
        go_wp2_with fail
        refine (HD.out _).mono ?_
        rintro e w' ⟨rfl, rfl⟩
        go_wp2
        go_ret
        exact ⟨by simp [h1, h2] <;> omega, rfl⟩
    · have h1' : ¬ (97 : Int) ≤ (n : Int) := by omega
      go_enter Tryd.func35, Tryd.ntmps35
      go_wp2_with fail
      refine (HD.out _).mono ?_
      rintro e w' ⟨rfl, rfl⟩
      go_wp2
      go_ret
      exact ⟨by simp [h1], rfl⟩
theorem letters_any (s : ByteArray) (w : World) : Calls Tryd.prog 42 #[.string s] w fun e w' => e = .returned (.func (.func 52) #[] #[.pointer (some ⟨w.heap.size, 0, none⟩)]) ∧ w.alloc (.cells #[.string s] 9) = w' := by
  have hmf : ∀ (fn : Fn) (first cap : Array Value) (w : World), (Instr.makeFunc fn first cap).run Tryd.prog w = .ok (.func fn first cap) w := fun _ _ _ _ => rfl
  go_enter Tryd.func42, Tryd.ntmps42
  go_wp2
  go_ret
  exact ⟨rfl, rfl⟩
def letE (s : ByteArray) (i : Nat) : Array Value := #[.int .i64 i, .int .u8 ((s.data.toList.getD i 0).toNat : Int)]
theorem byte_at (s : ByteArray) (i : Nat) (h : i < s.size) : s.data.toList.getD i 0 = s[i] := by
  rw [List.getD_eq_getElem?_getD, get_list s i h]; rfl
set_option maxRecDepth 10000 in
set_option maxHeartbeats 1600000 in
theorem letters_iter (s : ByteArray) (hs : s.size ≤ 140737488351232) (B : Nat) (w0 : World) (hc : w0.cell? ⟨B, 0, none⟩ = some (.string s)) :
    IterC Tryd.prog 52 #[.pointer (some ⟨B, 0, none⟩)] (List.range s.size) (letE s) (fun _ => False) (fun b => b = B) w0 := by
  intro k l J Jx W hW hkeep hJ hJx hY h0
  have keep : ∀ (A : World), (∀ b, False ∨ b = B → A.heap[b]? = w0.heap[b]?) → A.cell? ⟨B, 0, none⟩ = some (.string s) := fun A h => (World.cell?_of_block (w := w0) (h B (.inr rfl))).trans hc
  have Kp := Lib.hid keep
  have Hkeep := Lib.hid hkeep
  have hcW := keep W hkeep
  clear hc hkeep keep
  refine callsIn_of_wp Tryd.func52 rfl trivial ?_
  simp only [Tryd.ntmps52, List.size_toArray, List.length_cons, List.length_nil, Nat.reduceAdd, Nat.reduceSub, Array.replicate_succ, Array.replicate_zero, List.push_toArray, List.append_toArray, List.nil_append, List.cons_append]
  gi_wp2
  gi_loopw [6] (fun at_ wr => ∃ i : Nat, i ≤ s.size ∧ at_ = .int .i64 i ∧ J i wr ∧ (∀ b, False ∨ b = B → wr.heap[b]? = w0.heap[b]?)) (fun at_ wr => s.size - (intOf at_).toNat)
  case atStart => exact ⟨0, Nat.zero_le _, rfl, h0, Hkeep.out⟩
  case round =>
    clear hcW
    obtain ⟨i, hi, rfl, hj, hk⟩ := hrel
    have hcell := Kp.out _ hk
    by_cases hlt : i < s.size
    · have hlt' : (i : Int) < (s.size : Int) := by omega
      have hir : i < (List.range s.size).length := by rw [List.length_range]; exact hlt
      obtain ⟨fn, tmps, assign, body, hy, hR⟩ := hY i hir wr hj
      have e1 : letE s (List.range s.size)[i] = #[.int .i64 i, .int .u8 (s[i].toNat : Int)] := by
        rw [List.getElem_range]; unfold letE; rw [byte_at s i hlt]
      rw [e1] at hy
      clear e1
      gi_wp2
      refine ⟨(fun h => nomatch h), hR.mono ?_⟩
      clear hR hy
      intro e W3 hpost
      obtain ⟨hs3, hk3, hpost⟩ := hpost
      rcases hpost with ⟨rfl, hJ3⟩ | ⟨rfl, hJx3⟩
      · gi_wp2
        exact ⟨⟨i + 1, by omega, by go_num, hJ3, fun b hb => (hk3 b hb).trans (hk b hb)⟩, by simp [intOf]; omega⟩
      · gi_wp2
        refine bodyPost_ret (results_none rfl _ _ _) rfl ?_
        exact ⟨⟨_, rfl⟩, .inr ⟨i + 1, by rw [List.length_range]; omega, hJx3⟩⟩
    · obtain rfl : i = s.size := by omega
      have hlt' : ¬ (s.size : Int) < (s.size : Int) := by omega
      gi_wp2
      go_end0
      exact ⟨⟨_, rfl⟩, .inl (by simpa using hj)⟩
end Go.Proofs.YtclejidkahpemaaDoor
