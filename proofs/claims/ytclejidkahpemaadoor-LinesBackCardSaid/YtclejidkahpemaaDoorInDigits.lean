/- The iterator ints.digits, and ints.Text. -/
import Derived.Test.YtclejidkahpemaaDoorProg
import Derived.Test.YtclejidkahpemaaDoorRange
import Derived.Test.YtclejidkahpemaaDoorInPure
namespace Go.Proofs.YtclejidkahpemaaDoor
open Go.RowKit
attribute [local irreducible] ByteArray.extract ByteArray.toList
attribute [local go_sem] Oper.semAt_some run_store_func run_store_nilFunc

/-- The decimal digits, the least first. -/
def revd (n : Nat) : List UInt8 := if n < 10 then [UInt8.ofNat (48 + n)] else UInt8.ofNat (48 + n % 10) :: revd (n / 10)
termination_by n
theorem revd_lt {n : Nat} (h : n < 10) : revd n = [UInt8.ofNat (48 + n)] := by rw [revd, if_pos h]
theorem revd_ge {n : Nat} (h : ¬ n < 10) : revd n = UInt8.ofNat (48 + n % 10) :: revd (n / 10) := by rw [revd, if_neg h]
theorem revd_decs (n : Nat) : (revd n).reverse = decs n := by
  induction n using Nat.strongRecOn with
  | _ n ih =>
    by_cases h : n < 10
    · rw [revd_lt h, decs_lt h]; rfl
    · rw [revd_ge h, decs_ge h, List.reverse_cons, ih _ (by omega)]
theorem revd_head (n : Nat) : ∃ t, revd n = UInt8.ofNat (48 + n % 10) :: t ∧ (n < 10 → t = []) ∧ (¬ n < 10 → t = revd (n / 10)) := by
  by_cases h : n < 10
  · exact ⟨[], by rw [revd_lt h, Nat.mod_eq_of_lt h], fun _ => rfl, fun k => absurd h k⟩
  · exact ⟨revd (n / 10), revd_ge h, fun k => absurd k h, fun _ => rfl⟩

theorem digits_any (n : Int) (w : World) : Calls Tryd.prog 49 #[.int .u64 n] w fun e w' => e = .returned (.func (.func 58) #[] #[.pointer (some ⟨w.heap.size, 0, none⟩)]) ∧ w.alloc (.cells #[.int .u64 n] 71) = w' := by
  have hmf : ∀ (fn : Fn) (first cap : Array Value) (w : World), (Instr.makeFunc fn first cap).run Tryd.prog w = .ok (.func fn first cap) w := fun _ _ _ _ => rfl
  go_enter Tryd.func49, Tryd.ntmps49
  go_wp2
  go_ret
  exact ⟨rfl, rfl⟩

/-- What is left of the loop: read off the captured variable. -/
def mea (B : Nat) (more : Value) (wr : World) : Nat := match more, wr.cell? ⟨B, 0, none⟩ with | .bool true, some (.int _ q) => q.toNat + 1 | _, _ => 0
theorem mea_true {B : Nat} {wr : World} {m : Nat} (h : wr.cell? ⟨B, 0, none⟩ = some (.int .u64 m)) : mea B (.bool true) wr = m + 1 := by unfold mea; rw [h]; simp
theorem mea_false {B : Nat} {wr : World} : mea B (.bool false) wr = 0 := by unfold mea; split <;> simp_all
theorem drop_at {α : Type} {l : List α} {i : Nat} {x : α} {t : List α} (h : l.drop i = x :: t) : ∃ hi : i < l.length, l[i] = x ∧ l.drop (i + 1) = t := by
  have hi : i < l.length := by
    rcases Nat.lt_or_ge i l.length with k | k
    · exact k
    · rw [List.drop_eq_nil_of_le k] at h; cases h
  rw [List.drop_eq_getElem_cons hi] at h
  injection h with h1 h2
  exact ⟨hi, h1, h2⟩

set_option maxHeartbeats 800000 in
theorem digits_iter (n : Nat) (hn : n < 18446744073709551616) (B : Nat) (w0 : World) (_hB : B < w0.heap.size) (hc : w0.cell? ⟨B, 0, none⟩ = some (.int .u64 n)) (hf : w0.frozen? ⟨B, 0, none⟩ = false) :
    IterC Tryd.prog 58 #[.pointer (some ⟨B, 0, none⟩)] (revd n) (fun c => #[.int .u8 c.toNat]) (· = B) (fun _ => False) w0 := by
  intro k l J Jx W hW hkeep hJ hJx hY h0
  have hWB : W.heap[B]? = w0.heap[B]? := hkeep B (.inl rfl)
  have hcW : W.cell? ⟨B, 0, none⟩ = some (.int .u64 n) := (World.cell?_of_block (w := w0) hWB).trans hc
  have hfW : W.frozen? ⟨B, 0, none⟩ = false := (World.frozen?_of_block (w := w0) hWB).trans hf
  clear hc hf hWB hkeep
  refine callsIn_of_wp Tryd.func58 rfl trivial ?_
  simp only [Tryd.ntmps58, List.size_toArray, List.length_cons, List.length_nil, Nat.reduceAdd, Nat.reduceSub, Array.replicate_succ, Array.replicate_zero, List.push_toArray, List.append_toArray, List.nil_append, List.cons_append]
  gi_wp2
  gi_loopw [3] (fun more wr => ∃ (i : Nat) (m : Nat) (b : Bool), more = .bool b ∧ J i wr ∧ (b = true → (revd n).drop i = revd m ∧ m < 18446744073709551616 ∧ wr.cell? ⟨B, 0, none⟩ = some (.int .u64 m) ∧ wr.frozen? ⟨B, 0, none⟩ = false) ∧ (b = false → i = (revd n).length))
    (fun more wr => mea B more wr)
  case atStart => exact ⟨0, n, true, rfl, h0, fun _ => ⟨by rw [List.drop_zero], hn, hcW, hfW⟩, fun h => by cases h⟩
  case round =>
    obtain ⟨i, m, b, rfl, hj, ht, hff⟩ := hrel
    cases b
    · obtain rfl := hff rfl
      clear ht hff
      gi_wp2
      go_end0
      exact ⟨⟨_, rfl⟩, .inl hj⟩
    · clear hff
      obtain ⟨hd, hm, hcell, hfr⟩ := ht rfl
      have hB2 : wr.cell? ⟨B, 0, none⟩ = some (.int .u64 m) := hcell
      obtain ⟨t, hrv, ht1, ht2⟩ := revd_head m
      rw [hrv] at hd
      obtain ⟨hi, hxi, hdi⟩ := drop_at hd
      obtain ⟨fn, tmps, assign, body, hy, hR⟩ := hY i hi wr hj
      have ex : (((revd n)[i]).toNat : Int) = 48 + (m : Int) % 10 := by rw [hxi, ofNat_toNat (by omega)]; omega
      rw [ex] at hy
      have HX := Lib.hid hxi
      have HD := Lib.hid hdi
      have HE := Lib.hid hd
      clear hxi hdi hd ex hrv ht
      gi_wp2
      refine ⟨(fun h => nomatch h), hR.mono ?_⟩
      intro e W3 hpost

      obtain ⟨hs3, hk3, hpost⟩ := hpost
      rcases hpost with ⟨rfl, hJ3⟩ | ⟨rfl, hJx3⟩
      · have hb3 : W3.heap[B]? = wr.heap[B]? := hk3 B (.inl rfl)
        have hc3 : W3.cell? ⟨B, 0, none⟩ = some (.int .u64 m) := (World.cell?_of_block (w := wr) hb3).trans hcell
        have hf3 : W3.frozen? ⟨B, 0, none⟩ = false := (World.frozen?_of_block (w := wr) hb3).trans hfr
        have hsetc : (W3.setCell ⟨B, 0, none⟩ (.int .u64 ((m : Int) / 10))).cell? ⟨B, 0, none⟩ = some (.int .u64 ((m : Int) / 10)) := World.cell?_setCell_same' _ _ _ (by rw [hc3]; rfl)
        have hsetf : (W3.setCell ⟨B, 0, none⟩ (.int .u64 ((m : Int) / 10))).frozen? ⟨B, 0, none⟩ = false := by rw [World.frozen?_setCell]; exact hf3
        have hJ4 := hJ _ _ _ hJ3 (Only.setCell (S := (· = B)) W3 ⟨B, 0, none⟩ (.int .u64 ((m : Int) / 10)) rfl)
        clear hb3 hcell hfr
        gi_wp2
        have ecast : ((m : Int) / 10) = ((m / 10 : Nat) : Int) := rfl
        have eb : decide (0 < (m : Int) / 10) = decide (10 ≤ m) := by rw [Bool.eq_iff_iff, decide_eq_true_iff, decide_eq_true_iff]; omega
        refine ⟨⟨i + 1, m / 10, decide (10 ≤ m), congrArg Value.bool eb, hJ4, fun h => ⟨?_, by omega, ?_, hsetf⟩, fun h => ?_⟩, ?_⟩
        · have h10 : ¬ m < 10 := by simpa using h
          rw [HD.out, ht2 h10]
        · rw [hsetc, ecast]
        · have h10 : m < 10 := by simpa using h
          have := HD.out
          rw [ht1 h10, List.drop_eq_nil_iff] at this
          omega
        · rw [mea_true hB2, eb]
          by_cases h10 : 10 ≤ m
          · rw [decide_eq_true h10, mea_true (m := m / 10) (by rw [hsetc, ecast])]; omega
          · rw [decide_eq_false h10, mea_false]; omega
      · gi_wp2
        refine bodyPost_ret (results_none rfl _ _ _) rfl ?_
        exact ⟨⟨_, rfl⟩, .inr ⟨i + 1, by omega, hJx3⟩⟩
end Go.Proofs.YtclejidkahpemaaDoor
