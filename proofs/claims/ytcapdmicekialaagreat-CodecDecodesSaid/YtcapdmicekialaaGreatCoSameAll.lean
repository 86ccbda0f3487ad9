/- Merged by merge.py: CoSame, CoSame2, CoSame3. -/
import Derived.Test.YtcapdmicekialaaGreatCoTypes
import Derived.Test.YtcapdmicekialaaGreatProg
import Derived.IntWalk
import Derived.WalkKit
import Derived.Laws.StructEq
import Derived.Laws.ResultCell
import Derived.BigQuiet
import Derived.Test.YtcapdmicekialaaGreatCoMnAll
import Derived.Test.YtcapdmicekialaaGreatEither
/- chaperonkit: lists of flat elements compared. Printed by gen_same.py. -/
namespace Go.Proofs.YtcapdmicekialaaGreat
open Go.RowKit
set_option linter.unusedVariables false
set_option linter.unusedSimpArgs false
attribute [local go_sem] Oper.semAt_some run_store_func run_store_nilFunc
theorem toList_inj {s t : ByteArray} : s.toList = t.toList ↔ s = t := by
  refine ⟨fun h => ?_, fun h => by rw [h]⟩
  rw [ByteArray.toList_eq, ByteArray.toList_eq] at h
  obtain ⟨⟨x⟩⟩ := s
  obtain ⟨⟨y⟩⟩ := t
  simpa using h
theorem take_ne {α : Type} {l m : List α} {i : Nat} (hl : i < l.length) (hm : i < m.length) (h : ¬ l[i] = m[i]) : ¬ l = m := fun e => by subst e; exact h rfl
set_option maxRecDepth 100000 in
set_option maxHeartbeats 1600000 in
theorem sameTx_any {W : World} {v u : Value} {l m : List ByteArray} (hA : txK.sl W v l) (hB : txK.sl W u m) : Calls Tryz.prog 44 #[v, u] W (RetD (.bool (decide (l = m))) W) := by
  obtain ⟨A, c, rfl, hll⟩ := Kind.sl_form hA
  obtain ⟨B, d, rfl, hml⟩ := Kind.sl_form hB
  by_cases hlm : l.length = m.length
  · have HA := Lib.hid hA
    have HB := Lib.hid hB
    obtain ⟨n, hn⟩ : ∃ n, n = l.length := ⟨_, rfl⟩
    have hm : m.length = n := by omega
    have HN := Lib.hid (And.intro hn hm)
    rw [← hn] at hll
    rw [← hn, hm]
    clear hA hB hml hlm hn hm
    go_enter Tryz.func44, Tryz.ntmps44
    go_wp2
    go_loopw [5, 6] (fun sx ix wr => ∃ (i : Nat) (b : Bool), sx = .bool b ∧ ix = .int .i64 i ∧ i ≤ n ∧ (b = true → l.take i = m.take i) ∧ (b = false → ¬ l = m) ∧ ∃ q, wr = W.drewN q) (fun _ ix _ => n - (intOf ix).toNat)
    case atStart => exact ⟨0, true, by simp, rfl, Nat.zero_le _, fun _ => rfl, fun h => (by cases h), 0, rfl⟩
    case round =>
      obtain ⟨i, b, rfl, rfl, hi, h1, h2, q, rfl⟩ := hrel
      have H1 := Lib.hid (And.intro h1 h2)
      clear h1 h2
      cases b with
      | false =>
        go_wp2
        go_ret
        refine ⟨?_, _, rfl⟩
        rw [decide_eq_false (H1.out.2 (by simp))]
        rfl
      | true =>
        by_cases hlt : i < n
        · have hlt' : (i : Int) < (n : Int) := by omega
          have hl1 : i < l.length := by have := HN.out; omega
          have hm1 : i < m.length := by have := HN.out; omega
          obtain ⟨b1, o1, c1, cs1, hv1, ht1, hat1⟩ := Kind.sl_at HA.out (by decide) i hl1
          obtain rfl : A = some ⟨b1, o1, none⟩ := by injection hv1
          obtain ⟨b2, o2, c2, cs2, hv2, ht2, hat2⟩ := Kind.sl_at HB.out (by decide) i hm1
          obtain rfl : B = some ⟨b2, o2, none⟩ := by injection hv2
          have HE : Hid (∀ b', b' = (l[i].toList == m[i].toList) → (b' = true → l.take (i + 1) = m.take (i + 1)) ∧ (b' = false → ¬ l = m)) := Lib.hid fun b' hb' => by
            by_cases heq : l[i] = m[i]
            · have : b' = true := by rw [hb']; rw [heq]; simp
              subst this
              exact ⟨fun _ => by rw [List.take_succ_eq_append_getElem hl1, List.take_succ_eq_append_getElem hm1, H1.out.1 rfl, heq], fun h => by cases h⟩
            · have : b' = false := by rw [hb']; rw [beq_eq_false_iff_ne]; exact fun h => heq (toList_inj.1 h)
              subst this
              exact ⟨fun h => (by cases h), fun _ => take_ne hl1 hm1 heq⟩
          obtain ⟨rfl, _⟩ := ht1
          obtain ⟨rfl, _⟩ := ht2
          have p0 := hat1 0 _ rfl
          have q0 := hat2 0 _ rfl
          rw [show txK.size = 1 from rfl, Nat.mul_one, Nat.add_zero] at p0 q0
          clear hat1 hat2 hv1 hv2
          generalize l[i] = x at *
          generalize m[i] = y at *
          go_wp2
          go_quiet (fail)
          go_wp2
          go_roundw
          case rel => exact ⟨i + 1, _, rfl, by go_num, by omega, (HE.out _ rfl).1, (HE.out _ rfl).2, _, rfl⟩
          case measure => simp [intOf]; omega
        · have hlt' : ¬ (i : Int) < (n : Int) := by omega
          obtain rfl : i = n := by omega
          go_wp2
          go_ret
          refine ⟨?_, _, rfl⟩
          have h1 := H1.out.1 (by simp)
          rw [List.take_of_length_le (by have := HN.out; omega), List.take_of_length_le (by have := HN.out; omega)] at h1
          rw [decide_eq_true h1]
          rfl
  · have h2 : decide (l = m) = false := decide_eq_false fun e => hlm (by rw [e])
    rw [h2]
    have h3 : ¬ (l.length : Int) = (m.length : Int) := by omega
    have h4 : ((l.length : Int) == (m.length : Int)) = false := by simpa using h3
    clear hA hB hlm
    go_enter Tryz.func44, Tryz.ntmps44
    go_wp2
    go_loopw [5, 6] (fun sx ix wr => sx = .bool false ∧ ix = .int .i64 0 ∧ wr = W) (fun _ _ _ => 0)
    case atStart => exact ⟨by simp [h3], rfl, rfl⟩
    case round =>
      obtain ⟨rfl, rfl, rfl⟩ := hrel
      go_wp2
      go_ret
      exact ⟨rfl, 0, rfl⟩

def eqVr (x y : Vr) : Bool := decide (x = y)
theorem eqVr_iff (x y : Vr) : x = y ↔ x.1 = y.1 ∧ x.2 = y.2 := by
  cases x; cases y; simp
theorem neq_Vr (x y : Vr) (w : World) : (Op.equalIn 10000 140 (.agg #[.string x.1, .string x.2]) (.agg #[.string y.1, .string y.2])).run Tryz.prog w = .ok (eqVr x y) w := by
  have u2 := Tryz.underlying9
  have u3 := Tryz.underlying3
  have a2 := Tryz.isAgg9
  have a3 := Tryz.isAgg3
  have z2 := Tryz.sizeOf9
  have z3 := Tryz.sizeOf3
  have hS : Tryz.prog.underlying 140 = some (.struct (Tryz.prog.fieldsOf 140)) := by kernel_rfl
  have hp : Tryz.prog.stoodInHeld 140 = false := by kernel_rfl
  rw [show (10000 : Nat) = 9999 + 1 from rfl, run_equalIn_agg w 9999 140 _ _ hS hp]
  simp only [Program.fieldsOf, Tryz.underlying140]
  go_simp
  unfold eqVr
  rw [show decide (x = y) = decide (x.1 = y.1 ∧ x.2 = y.2) from decide_eq_decide.2 (eqVr_iff x y)]
  by_cases h0 : x.1 = y.1 <;> by_cases h1 : x.2 = y.2 <;> simp [h0, h1, toList_inj]
set_option maxRecDepth 100000 in
set_option maxHeartbeats 1600000 in
theorem sameVr_any {W : World} {v u : Value} {l m : List Vr} (hA : vrK.sl W v l) (hB : vrK.sl W u m) : Calls Tryz.prog 127 #[v, u] W (RetD (.bool (decide (l = m))) W) := by
  obtain ⟨A, c, rfl, hll⟩ := Kind.sl_form hA
  obtain ⟨B, d, rfl, hml⟩ := Kind.sl_form hB
  by_cases hlm : l.length = m.length
  · have HA := Lib.hid hA
    have HB := Lib.hid hB
    obtain ⟨n, hn⟩ : ∃ n, n = l.length := ⟨_, rfl⟩
    have hm : m.length = n := by omega
    have HN := Lib.hid (And.intro hn hm)
    rw [← hn] at hll
    rw [← hn, hm]
    clear hA hB hml hlm hn hm
    have hg : Tryz.prog.eqGuardType Tryz.prog.depth 140 = false := by kernel_rfl
    have hq := neq_Vr
    go_enter Tryz.func127, Tryz.ntmps127
    go_wp2
    go_loopw [5, 6] (fun sx ix wr => ∃ (i : Nat) (b : Bool), sx = .bool b ∧ ix = .int .i64 i ∧ i ≤ n ∧ (b = true → l.take i = m.take i) ∧ (b = false → ¬ l = m) ∧ ∃ q, wr = W.drewN q) (fun _ ix _ => n - (intOf ix).toNat)
    case atStart => exact ⟨0, true, by simp, rfl, Nat.zero_le _, fun _ => rfl, fun h => (by cases h), 0, rfl⟩
    case round =>
      obtain ⟨i, b, rfl, rfl, hi, h1, h2, q, rfl⟩ := hrel
      have H1 := Lib.hid (And.intro h1 h2)
      clear h1 h2
      cases b with
      | false =>
        go_wp2
        go_ret
        refine ⟨?_, _, rfl⟩
        rw [decide_eq_false (H1.out.2 (by simp))]
        rfl
      | true =>
        by_cases hlt : i < n
        · have hlt' : (i : Int) < (n : Int) := by omega
          have hl1 : i < l.length := by have := HN.out; omega
          have hm1 : i < m.length := by have := HN.out; omega
          obtain ⟨b1, o1, c1, cs1, hv1, ht1, hat1⟩ := Kind.sl_at HA.out (by decide) i hl1
          obtain rfl : A = some ⟨b1, o1, none⟩ := by injection hv1
          obtain ⟨b2, o2, c2, cs2, hv2, ht2, hat2⟩ := Kind.sl_at HB.out (by decide) i hm1
          obtain rfl : B = some ⟨b2, o2, none⟩ := by injection hv2
          have HE : Hid (∀ b', b' = eqVr l[i] m[i] → (b' = true → l.take (i + 1) = m.take (i + 1)) ∧ (b' = false → ¬ l = m)) := Lib.hid fun b' hb' => by
            by_cases heq : l[i] = m[i]
            · have : b' = true := by rw [hb']; exact decide_eq_true heq
              subst this
              exact ⟨fun _ => by rw [List.take_succ_eq_append_getElem hl1, List.take_succ_eq_append_getElem hm1, H1.out.1 rfl, heq], fun h => by cases h⟩
            · have : b' = false := by rw [hb']; exact decide_eq_false heq
              subst this
              exact ⟨fun h => (by cases h), fun _ => take_ne hl1 hm1 heq⟩
          obtain ⟨rfl, _⟩ := ht1
          obtain ⟨rfl, _⟩ := ht2
          have p0 := hat1 0 _ rfl
          have q0 := hat2 0 _ rfl
          have p1 := hat1 1 _ rfl
          have q1 := hat2 1 _ rfl
          rw [show vrK.size = 2 from rfl] at p0 q0 p1 q1
          rw [Nat.add_zero] at p0 q0
          clear hat1 hat2 hv1 hv2
          generalize l[i] = x at *
          generalize m[i] = y at *
          go_wp2
          go_quiet (fail)
          go_wp2
          go_roundw
          case rel => exact ⟨i + 1, _, rfl, by go_num, by omega, (HE.out _ rfl).1, (HE.out _ rfl).2, _, rfl⟩
          case measure => simp [intOf]; omega
        · have hlt' : ¬ (i : Int) < (n : Int) := by omega
          obtain rfl : i = n := by omega
          go_wp2
          go_ret
          refine ⟨?_, _, rfl⟩
          have h1 := H1.out.1 (by simp)
          rw [List.take_of_length_le (by have := HN.out; omega), List.take_of_length_le (by have := HN.out; omega)] at h1
          rw [decide_eq_true h1]
          rfl
  · have h2 : decide (l = m) = false := decide_eq_false fun e => hlm (by rw [e])
    rw [h2]
    have h3 : ¬ (l.length : Int) = (m.length : Int) := by omega
    have h4 : ((l.length : Int) == (m.length : Int)) = false := by simpa using h3
    clear hA hB hlm
    go_enter Tryz.func127, Tryz.ntmps127
    go_wp2
    go_loopw [5, 6] (fun sx ix wr => sx = .bool false ∧ ix = .int .i64 0 ∧ wr = W) (fun _ _ _ => 0)
    case atStart => exact ⟨by simp [h3], rfl, rfl⟩
    case round =>
      obtain ⟨rfl, rfl, rfl⟩ := hrel
      go_wp2
      go_ret
      exact ⟨rfl, 0, rfl⟩

def eqSt (x y : St) : Bool := decide (x = y)
theorem eqSt_iff (x y : St) : x = y ↔ x.what = y.what ∧ x.src = y.src ∧ x.dst = y.dst := by
  cases x; cases y; simp
theorem neq_St (x y : St) (w : World) : (Op.equalIn 10000 70 (.agg #[.int .i64 x.what, .string x.src, .string x.dst]) (.agg #[.int .i64 y.what, .string y.src, .string y.dst])).run Tryz.prog w = .ok (eqSt x y) w := by
  have u2 := Tryz.underlying9
  have u3 := Tryz.underlying3
  have a2 := Tryz.isAgg9
  have a3 := Tryz.isAgg3
  have z2 := Tryz.sizeOf9
  have z3 := Tryz.sizeOf3
  have hS : Tryz.prog.underlying 70 = some (.struct (Tryz.prog.fieldsOf 70)) := by kernel_rfl
  have hp : Tryz.prog.stoodInHeld 70 = false := by kernel_rfl
  rw [show (10000 : Nat) = 9999 + 1 from rfl, run_equalIn_agg w 9999 70 _ _ hS hp]
  simp only [Program.fieldsOf, Tryz.underlying70]
  go_simp
  unfold eqSt
  rw [show decide (x = y) = decide (x.what = y.what ∧ x.src = y.src ∧ x.dst = y.dst) from decide_eq_decide.2 (eqSt_iff x y)]
  by_cases h0 : x.what = y.what <;> by_cases h1 : x.src = y.src <;> by_cases h2 : x.dst = y.dst <;> simp [h0, h1, h2, toList_inj]
set_option maxRecDepth 100000 in
set_option maxHeartbeats 1600000 in
theorem sameSt_any {W : World} {v u : Value} {l m : List St} (hA : stK.sl W v l) (hB : stK.sl W u m) : Calls Tryz.prog 43 #[v, u] W (RetD (.bool (decide (l = m))) W) := by
  obtain ⟨A, c, rfl, hll⟩ := Kind.sl_form hA
  obtain ⟨B, d, rfl, hml⟩ := Kind.sl_form hB
  by_cases hlm : l.length = m.length
  · have HA := Lib.hid hA
    have HB := Lib.hid hB
    obtain ⟨n, hn⟩ : ∃ n, n = l.length := ⟨_, rfl⟩
    have hm : m.length = n := by omega
    have HN := Lib.hid (And.intro hn hm)
    rw [← hn] at hll
    rw [← hn, hm]
    clear hA hB hml hlm hn hm
    have hg : Tryz.prog.eqGuardType Tryz.prog.depth 70 = false := by kernel_rfl
    have hq := neq_St
    go_enter Tryz.func43, Tryz.ntmps43
    go_wp2
    go_loopw [5, 6] (fun sx ix wr => ∃ (i : Nat) (b : Bool), sx = .bool b ∧ ix = .int .i64 i ∧ i ≤ n ∧ (b = true → l.take i = m.take i) ∧ (b = false → ¬ l = m) ∧ ∃ q, wr = W.drewN q) (fun _ ix _ => n - (intOf ix).toNat)
    case atStart => exact ⟨0, true, by simp, rfl, Nat.zero_le _, fun _ => rfl, fun h => (by cases h), 0, rfl⟩
    case round =>
      obtain ⟨i, b, rfl, rfl, hi, h1, h2, q, rfl⟩ := hrel
      have H1 := Lib.hid (And.intro h1 h2)
      clear h1 h2
      cases b with
      | false =>
        go_wp2
        go_ret
        refine ⟨?_, _, rfl⟩
        rw [decide_eq_false (H1.out.2 (by simp))]
        rfl
      | true =>
        by_cases hlt : i < n
        · have hlt' : (i : Int) < (n : Int) := by omega
          have hl1 : i < l.length := by have := HN.out; omega
          have hm1 : i < m.length := by have := HN.out; omega
          obtain ⟨b1, o1, c1, cs1, hv1, ht1, hat1⟩ := Kind.sl_at HA.out (by decide) i hl1
          obtain rfl : A = some ⟨b1, o1, none⟩ := by injection hv1
          obtain ⟨b2, o2, c2, cs2, hv2, ht2, hat2⟩ := Kind.sl_at HB.out (by decide) i hm1
          obtain rfl : B = some ⟨b2, o2, none⟩ := by injection hv2
          have HE : Hid (∀ b', b' = eqSt l[i] m[i] → (b' = true → l.take (i + 1) = m.take (i + 1)) ∧ (b' = false → ¬ l = m)) := Lib.hid fun b' hb' => by
            by_cases heq : l[i] = m[i]
            · have : b' = true := by rw [hb']; exact decide_eq_true heq
              subst this
              exact ⟨fun _ => by rw [List.take_succ_eq_append_getElem hl1, List.take_succ_eq_append_getElem hm1, H1.out.1 rfl, heq], fun h => by cases h⟩
            · have : b' = false := by rw [hb']; exact decide_eq_false heq
              subst this
              exact ⟨fun h => (by cases h), fun _ => take_ne hl1 hm1 heq⟩
          obtain ⟨rfl, _⟩ := ht1
          obtain ⟨rfl, _⟩ := ht2
          have p0 := hat1 0 _ rfl
          have q0 := hat2 0 _ rfl
          have p1 := hat1 1 _ rfl
          have q1 := hat2 1 _ rfl
          have p2 := hat1 2 _ rfl
          have q2 := hat2 2 _ rfl
          rw [show stK.size = 3 from rfl] at p0 q0 p1 q1 p2 q2
          rw [Nat.add_zero] at p0 q0
          clear hat1 hat2 hv1 hv2
          generalize l[i] = x at *
          generalize m[i] = y at *
          go_wp2
          go_quiet (fail)
          go_wp2
          go_roundw
          case rel => exact ⟨i + 1, _, rfl, by go_num, by omega, (HE.out _ rfl).1, (HE.out _ rfl).2, _, rfl⟩
          case measure => simp [intOf]; omega
        · have hlt' : ¬ (i : Int) < (n : Int) := by omega
          obtain rfl : i = n := by omega
          go_wp2
          go_ret
          refine ⟨?_, _, rfl⟩
          have h1 := H1.out.1 (by simp)
          rw [List.take_of_length_le (by have := HN.out; omega), List.take_of_length_le (by have := HN.out; omega)] at h1
          rw [decide_eq_true h1]
          rfl
  · have h2 : decide (l = m) = false := decide_eq_false fun e => hlm (by rw [e])
    rw [h2]
    have h3 : ¬ (l.length : Int) = (m.length : Int) := by omega
    have h4 : ((l.length : Int) == (m.length : Int)) = false := by simpa using h3
    clear hA hB hlm
    go_enter Tryz.func43, Tryz.ntmps43
    go_wp2
    go_loopw [5, 6] (fun sx ix wr => sx = .bool false ∧ ix = .int .i64 0 ∧ wr = W) (fun _ _ _ => 0)
    case atStart => exact ⟨by simp [h3], rfl, rfl⟩
    case round =>
      obtain ⟨rfl, rfl, rfl⟩ := hrel
      go_wp2
      go_ret
      exact ⟨rfl, 0, rfl⟩

def eqIn (x y : In) : Bool := decide (x = y)
theorem eqIn_iff (x y : In) : x = y ↔ x.op = y.op ∧ x.a = y.a ∧ x.b = y.b ∧ x.c = y.c := by
  cases x; cases y; simp
theorem neq_In (x y : In) (w : World) : (Op.equalIn 10000 117 (.agg #[.int .i64 x.op, .int .i64 x.a, .int .i64 x.b, .int .i64 x.c]) (.agg #[.int .i64 y.op, .int .i64 y.a, .int .i64 y.b, .int .i64 y.c])).run Tryz.prog w = .ok (eqIn x y) w := by
  have u2 := Tryz.underlying9
  have u3 := Tryz.underlying3
  have a2 := Tryz.isAgg9
  have a3 := Tryz.isAgg3
  have z2 := Tryz.sizeOf9
  have z3 := Tryz.sizeOf3
  have hS : Tryz.prog.underlying 117 = some (.struct (Tryz.prog.fieldsOf 117)) := by kernel_rfl
  have hp : Tryz.prog.stoodInHeld 117 = false := by kernel_rfl
  rw [show (10000 : Nat) = 9999 + 1 from rfl, run_equalIn_agg w 9999 117 _ _ hS hp]
  simp only [Program.fieldsOf, Tryz.underlying117]
  go_simp
  unfold eqIn
  rw [show decide (x = y) = decide (x.op = y.op ∧ x.a = y.a ∧ x.b = y.b ∧ x.c = y.c) from decide_eq_decide.2 (eqIn_iff x y)]
  by_cases h0 : x.op = y.op <;> by_cases h1 : x.a = y.a <;> by_cases h2 : x.b = y.b <;> by_cases h3 : x.c = y.c <;> simp [h0, h1, h2, h3, toList_inj]
set_option maxRecDepth 100000 in
set_option maxHeartbeats 1600000 in
theorem sameIn_any {W : World} {v u : Value} {l m : List In} (hA : inK.sl W v l) (hB : inK.sl W u m) : Calls Tryz.prog 45 #[v, u] W (RetD (.bool (decide (l = m))) W) := by
  obtain ⟨A, c, rfl, hll⟩ := Kind.sl_form hA
  obtain ⟨B, d, rfl, hml⟩ := Kind.sl_form hB
  by_cases hlm : l.length = m.length
  · have HA := Lib.hid hA
    have HB := Lib.hid hB
    obtain ⟨n, hn⟩ : ∃ n, n = l.length := ⟨_, rfl⟩
    have hm : m.length = n := by omega
    have HN := Lib.hid (And.intro hn hm)
    rw [← hn] at hll
    rw [← hn, hm]
    clear hA hB hml hlm hn hm
    have hg : Tryz.prog.eqGuardType Tryz.prog.depth 117 = false := by kernel_rfl
    have hq := neq_In
    go_enter Tryz.func45, Tryz.ntmps45
    go_wp2
    go_loopw [5, 6] (fun sx ix wr => ∃ (i : Nat) (b : Bool), sx = .bool b ∧ ix = .int .i64 i ∧ i ≤ n ∧ (b = true → l.take i = m.take i) ∧ (b = false → ¬ l = m) ∧ ∃ q, wr = W.drewN q) (fun _ ix _ => n - (intOf ix).toNat)
    case atStart => exact ⟨0, true, by simp, rfl, Nat.zero_le _, fun _ => rfl, fun h => (by cases h), 0, rfl⟩
    case round =>
      obtain ⟨i, b, rfl, rfl, hi, h1, h2, q, rfl⟩ := hrel
      have H1 := Lib.hid (And.intro h1 h2)
      clear h1 h2
      cases b with
      | false =>
        go_wp2
        go_ret
        refine ⟨?_, _, rfl⟩
        rw [decide_eq_false (H1.out.2 (by simp))]
        rfl
      | true =>
        by_cases hlt : i < n
        · have hlt' : (i : Int) < (n : Int) := by omega
          have hl1 : i < l.length := by have := HN.out; omega
          have hm1 : i < m.length := by have := HN.out; omega
          obtain ⟨b1, o1, c1, cs1, hv1, ht1, hat1⟩ := Kind.sl_at HA.out (by decide) i hl1
          obtain rfl : A = some ⟨b1, o1, none⟩ := by injection hv1
          obtain ⟨b2, o2, c2, cs2, hv2, ht2, hat2⟩ := Kind.sl_at HB.out (by decide) i hm1
          obtain rfl : B = some ⟨b2, o2, none⟩ := by injection hv2
          have HE : Hid (∀ b', b' = eqIn l[i] m[i] → (b' = true → l.take (i + 1) = m.take (i + 1)) ∧ (b' = false → ¬ l = m)) := Lib.hid fun b' hb' => by
            by_cases heq : l[i] = m[i]
            · have : b' = true := by rw [hb']; exact decide_eq_true heq
              subst this
              exact ⟨fun _ => by rw [List.take_succ_eq_append_getElem hl1, List.take_succ_eq_append_getElem hm1, H1.out.1 rfl, heq], fun h => by cases h⟩
            · have : b' = false := by rw [hb']; exact decide_eq_false heq
              subst this
              exact ⟨fun h => (by cases h), fun _ => take_ne hl1 hm1 heq⟩
          obtain ⟨rfl, _⟩ := ht1
          obtain ⟨rfl, _⟩ := ht2
          have p0 := hat1 0 _ rfl
          have q0 := hat2 0 _ rfl
          have p1 := hat1 1 _ rfl
          have q1 := hat2 1 _ rfl
          have p2 := hat1 2 _ rfl
          have q2 := hat2 2 _ rfl
          have p3 := hat1 3 _ rfl
          have q3 := hat2 3 _ rfl
          rw [show inK.size = 4 from rfl] at p0 q0 p1 q1 p2 q2 p3 q3
          rw [Nat.add_zero] at p0 q0
          clear hat1 hat2 hv1 hv2
          generalize l[i] = x at *
          generalize m[i] = y at *
          go_wp2
          go_quiet (fail)
          go_wp2
          go_roundw
          case rel => exact ⟨i + 1, _, rfl, by go_num, by omega, (HE.out _ rfl).1, (HE.out _ rfl).2, _, rfl⟩
          case measure => simp [intOf]; omega
        · have hlt' : ¬ (i : Int) < (n : Int) := by omega
          obtain rfl : i = n := by omega
          go_wp2
          go_ret
          refine ⟨?_, _, rfl⟩
          have h1 := H1.out.1 (by simp)
          rw [List.take_of_length_le (by have := HN.out; omega), List.take_of_length_le (by have := HN.out; omega)] at h1
          rw [decide_eq_true h1]
          rfl
  · have h2 : decide (l = m) = false := decide_eq_false fun e => hlm (by rw [e])
    rw [h2]
    have h3 : ¬ (l.length : Int) = (m.length : Int) := by omega
    have h4 : ((l.length : Int) == (m.length : Int)) = false := by simpa using h3
    clear hA hB hlm
    go_enter Tryz.func45, Tryz.ntmps45
    go_wp2
    go_loopw [5, 6] (fun sx ix wr => sx = .bool false ∧ ix = .int .i64 0 ∧ wr = W) (fun _ _ _ => 0)
    case atStart => exact ⟨by simp [h3], rfl, rfl⟩
    case round =>
      obtain ⟨rfl, rfl, rfl⟩ := hrel
      go_wp2
      go_ret
      exact ⟨rfl, 0, rfl⟩

end Go.Proofs.YtcapdmicekialaaGreat
/- chaperonkit: SameSig, SameClass, SameTable. -/
namespace Go.Proofs.YtcapdmicekialaaGreat
open Go.RowKit
set_option linter.unusedVariables false
set_option linter.unusedSimpArgs false
attribute [local go_sem] Oper.semAt_some run_store_func run_store_nilFunc
theorem tl_same {s t : ByteArray} (h : s = t) : (s.toList == t.toList) = true := by rw [h]; simp
theorem tl_not {s t : ByteArray} (h : ¬ s = t) : (s.toList == t.toList) = false := by rw [beq_eq_false_iff_ne]; exact fun e => h (toList_inj.1 e)
theorem retd_below {v : Value} {W : World} {e : Ending} {w' : World} (h : RetD v W e w') : e = .returned v ∧ Below W.heap.size W w' := by
  obtain ⟨he, n, rfl⟩ := h
  exact ⟨he, below_drewN W n⟩
set_option maxRecDepth 100000 in
set_option maxHeartbeats 800000 in
theorem sameSg_any {W : World} {cs cu : List Value} {x y : Sg} (hx : sgK.tells W cs x) (hy : sgK.tells W cu y) : Calls Tryz.prog 128 #[.agg cs.toArray, .agg cu.toArray] W (RetB (decide (x = y)) W) := by
  obtain ⟨ps, rfl, _, _, h1⟩ := hx
  obtain ⟨qs, rfl, _, _, h2⟩ := hy
  obtain ⟨A, c, rfl, _⟩ := Kind.sl_form h1
  obtain ⟨B, d, rfl, _⟩ := Kind.sl_form h2
  have hb := ((Below.refl W.heap.size W).alloc (Nat.le_refl _) (.cells #[.string x.name, .slice A x.params.length c, .string x.result] 120)).alloc (by simp) (.cells #[.string y.name, .slice B y.params.length d, .string y.result] 120)
  have HB := Lib.hid hb
  have HC := Lib.hid (sameVr_any (Kind.sl_below h1 hb) (Kind.sl_below h2 hb))
  have HE : Hid (decide (x = y) = (decide (x.name = y.name) && (decide (x.result = y.result) && decide (x.params = y.params)))) := Lib.hid (by
    cases x; cases y
    simp only [Sg.mk.injEq]
    rw [Bool.eq_iff_iff]
    simp [and_comm])
  rw [HE.out]
  clear h1 h2 hb
  show Calls Tryz.prog 128 #[.agg #[.string x.name, .slice A x.params.length c, .string x.result], .agg #[.string y.name, .slice B y.params.length d, .string y.result]] W _
  by_cases g1 : x.name = y.name
  · have e1 := tl_same g1
    rw [decide_eq_true g1, Bool.true_and]
    by_cases g2 : x.result = y.result
    · have e2 := tl_same g2
      rw [decide_eq_true g2, Bool.true_and]
      clear g1 g2
      go_enter Tryz.func128, Tryz.ntmps128
      go_wp2_with fail
      refine HC.out.mono ?_
      intro e w1 hr
      obtain ⟨rfl, hb1⟩ := retd_below hr
      have HF := Lib.hid (HB.out.trans (hb1.mono HB.out.size))
      clear hr hb1 HC HB
      go_wp2_with fail
      go_ret
      exact ⟨rfl, HF.out⟩
    · have e2 := tl_not g2
      rw [decide_eq_false g2, Bool.false_and]
      clear g1 g2 HC
      go_enter Tryz.func128, Tryz.ntmps128
      go_wp2
      go_ret
      exact ⟨rfl, HB.out⟩
  · have e1 := tl_not g1
    rw [decide_eq_false g1, Bool.false_and]
    clear g1 HC
    go_enter Tryz.func128, Tryz.ntmps128
    go_wp2
    go_ret
    exact ⟨rfl, HB.out⟩
/-- An element's cells, in a world where they stand. -/
def loT (i : Nat) : Nat := [0, 0, 0, 0, 0, 0, 0, 0, 0, 1].getD i 0
def upT (i : Nat) : Nat := [0, 0, 0, 0, 0, 0, 0, 0, 1, 1].getD i 0
def loCl (i : Nat) : Nat := [0, 0, 0, 0, 0, 0, 0, 0, 0, 0, 0, 1].getD i 0
def upCl (i : Nat) : Nat := [0, 0, 0, 0, 0, 0, 0, 0, 0, 0, 1, 1].getD i 0
theorem take_same {α : Type} [DecidableEq α] {l m : List α} {i : Nat} (hl : i < l.length) (hm : i < m.length) (ht : l.take i = m.take i) : ∀ b', b' = decide (l[i] = m[i]) → (b' = true → l.take (i + 1) = m.take (i + 1)) ∧ (b' = false → ¬ l = m) := by
  rintro b' rfl
  refine ⟨fun h => ?_, fun h => take_ne hl hm (by simpa using h)⟩
  rw [List.take_succ_eq_append_getElem hl, List.take_succ_eq_append_getElem hm, ht, of_decide_eq_true h]
set_option maxRecDepth 100000 in
set_option maxHeartbeats 3200000 in
theorem sameCl_any {W : World} {cs cu : List Value} {x y : Cl} (hx : clK.tells W cs x) (hy : clK.tells W cu y) : Calls Tryz.prog 99 #[.agg cs.toArray, .agg cu.toArray] W (RetB (decide (x = y)) W) := by
  obtain ⟨ps, ms, rfl, _, _, h1, h3⟩ := hx
  obtain ⟨qs, ns, rfl, _, _, h2, h4⟩ := hy
  obtain ⟨A, c, rfl, _⟩ := Kind.sl_form h1
  obtain ⟨B, d, rfl, _⟩ := Kind.sl_form h2
  obtain ⟨A2, c2, rfl, hlx⟩ := Kind.sl_form h3
  obtain ⟨B2, d2, rfl, hly⟩ := Kind.sl_form h4
  have hb := ((Below.refl W.heap.size W).alloc (Nat.le_refl _) (.cells #[.string x.name, .string x.super, .slice A x.fields.length c, .slice A2 x.methods.length c2] 66)).alloc (by simp) (.cells #[.string y.name, .string y.super, .slice B y.fields.length d, .slice B2 y.methods.length d2] 66)
  have HB := Lib.hid hb
  have HC := Lib.hid (sameVr_any (Kind.sl_below h1 hb) (Kind.sl_below h2 hb))
  have HM := Lib.hid (And.intro h3 h4)
  have HE : Hid (decide (x = y) = (decide (x.name = y.name) && (decide (x.super = y.super) && (decide (x.fields = y.fields) && decide (x.methods = y.methods))))) := Lib.hid (by
    cases x; cases y
    simp only [Cl.mk.injEq]
    rw [Bool.eq_iff_iff]
    simp)
  rw [HE.out]
  have a3 : ∀ w', Below ((W.alloc (.cells #[.string x.name, .string x.super, .slice A x.fields.length c, .slice A2 x.methods.length c2] 66)).alloc (.cells #[.string y.name, .string y.super, .slice B y.fields.length d, .slice B2 y.methods.length d2] 66)).heap.size ((W.alloc (.cells #[.string x.name, .string x.super, .slice A x.fields.length c, .slice A2 x.methods.length c2] 66)).alloc (.cells #[.string y.name, .string y.super, .slice B y.fields.length d, .slice B2 y.methods.length d2] 66)) w' → w'.cell? ⟨W.heap.size, 3, none⟩ = some (.slice A2 x.methods.length c2) ∧ w'.cell? ⟨W.heap.size + 1, 3, none⟩ = some (.slice B2 y.methods.length d2) := fun w' h => by
    refine ⟨cell_below (cell_alloc ((Blk.new W 66 #[.string x.name, .string x.super, .slice A x.fields.length c, .slice A2 x.methods.length c2]).cell 3) _) h, ?_⟩
    have h5 := (Blk.new (W.alloc (.cells #[.string x.name, .string x.super, .slice A x.fields.length c, .slice A2 x.methods.length c2] 66)) 66 #[.string y.name, .string y.super, .slice B y.fields.length d, .slice B2 y.methods.length d2]).cell 3
    rw [show (W.alloc (.cells #[.string x.name, .string x.super, .slice A x.fields.length c, .slice A2 x.methods.length c2] 66)).heap.size = W.heap.size + 1 by simp] at h5
    exact cell_below h5 h
  have HA3 := Lib.hid a3
  clear h1 h2 h3 h4 hb a3
  show Calls Tryz.prog 99 #[.agg #[.string x.name, .string x.super, .slice A x.fields.length c, .slice A2 x.methods.length c2], .agg #[.string y.name, .string y.super, .slice B y.fields.length d, .slice B2 y.methods.length d2]] W _
  by_cases g1 : x.name = y.name
  · have e1 := tl_same g1
    rw [decide_eq_true g1, Bool.true_and]
    by_cases g2 : x.super = y.super
    · have e2 := tl_same g2
      rw [decide_eq_true g2, Bool.true_and]
      clear g1 g2
      by_cases g3 : x.fields = y.fields
      · rw [decide_eq_true g3] at HC
        rw [decide_eq_true g3, Bool.true_and]
        clear g3
        by_cases hlm : x.methods.length = y.methods.length
        · obtain ⟨n, hn⟩ : ∃ n, n = x.methods.length := ⟨_, rfl⟩
          have hm : y.methods.length = n := by omega
          have HN := Lib.hid (And.intro hn hm)
          have hln : n ≤ 140737488351232 := by omega
          rw [← hn, hm] at HA3 HC HB
          rw [← hn, hm]
          clear hlx hly hlm hn hm
          go_enter Tryz.func99, Tryz.ntmps99
          go_wp2_with fail
          refine HC.out.mono ?_
          intro e w1 hr
          obtain ⟨rfl, hb1⟩ := retd_below hr
          have HB1 := Lib.hid hb1
          have HBW := Lib.hid (HB.out.trans (hb1.mono HB.out.size))
          obtain ⟨k0, k1⟩ := HA3.out _ hb1
          clear hr hb1 HC
          go_wp2_with fail
          clear k0 k1
          go_loopw [5, 6] (fun sx ix wr => ∃ (i : Nat) (b : Bool), sx = .bool b ∧ ix = .int .i64 i ∧ i ≤ n ∧ (b = true → x.methods.take i = y.methods.take i) ∧ (b = false → ¬ x.methods = y.methods) ∧ Below w1.heap.size w1 wr) (fun _ ix _ => n - (intOf ix).toNat)
          case atStart => exact ⟨0, true, by simp, rfl, Nat.zero_le _, fun _ => rfl, fun h => (by cases h), Below.refl _ _⟩
          case round =>
            obtain ⟨i, b, rfl, rfl, hi, h1, h2, hbr⟩ := hrel
            have H1 := Lib.hid (And.intro h1 h2)
            have HR := Lib.hid hbr
            have HW := Lib.hid (HBW.out.trans (hbr.mono HBW.out.size))
            obtain ⟨k0, k1⟩ := HA3.out wr (HB1.out.trans (hbr.mono HB1.out.size))
            clear h1 h2 hbr
            cases b with
            | false =>
              go_wp2
              go_ret
              refine ⟨?_, HW.out⟩
              rw [decide_eq_false (H1.out.2 (by simp))]
              rfl
            | true =>
              by_cases hlt : i < n
              · have hlt' : (i : Int) < (n : Int) := by omega
                have hl1 : i < x.methods.length := by have := HN.out; omega
                have hm1 : i < y.methods.length := by have := HN.out; omega
                obtain ⟨b1, o1, c1, cs1, hv1, ht1, hat1⟩ := Kind.sl_at (Kind.sl_below HM.out.1 HW.out) (by decide) i hl1
                obtain rfl : A2 = some ⟨b1, o1, none⟩ := by injection hv1
                obtain ⟨b2, o2, c3, cs2, hv2, ht2, hat2⟩ := Kind.sl_at (Kind.sl_below HM.out.2 HW.out) (by decide) i hm1
                obtain rfl : B2 = some ⟨b2, o2, none⟩ := by injection hv2
                have HT := Lib.hid (take_same hl1 hm1 (H1.out.1 rfl))
                have hS := sameSg_any (Kind.below ht1 (below_drewN wr 1)) (Kind.below ht2 (below_drewN wr 1))
                generalize x.methods[i] = xm at *
                generalize y.methods[i] = ym at *
                obtain ⟨ps1, rfl, _, _, f1⟩ := ht1
                obtain ⟨ps2, rfl, _, _, f2⟩ := ht2
                obtain ⟨A5, c5, rfl, _⟩ := Kind.sl_form f1
                obtain ⟨A6, c6, rfl, _⟩ := Kind.sl_form f2
                have p0 := hat1 0 _ rfl
                have p1 := hat1 1 _ rfl
                have p2 := hat1 2 _ rfl
                have q0 := hat2 0 _ rfl
                have q1 := hat2 1 _ rfl
                have q2 := hat2 2 _ rfl
                rw [show sgK.size = 3 from rfl] at p0 p1 p2 q0 q1 q2
                rw [Nat.add_zero] at p0 q0
                have HS : Hid (Calls Tryz.prog 128 #[.agg #[.string xm.name, .slice A5 xm.params.length c5, .string xm.result], .agg #[.string ym.name, .slice A6 ym.params.length c6, .string ym.result]] (wr.drewN 1) (RetB (decide (xm = ym)) (wr.drewN 1))) := Lib.hid hS
                clear hat1 hat2 hv1 hv2 f1 f2 hS
                go_wp2_with fail
                refine wp_region_text [10] loCl upCl (by kernel_rfl) (by kernel_rfl) (by kernel_rfl) (by kernel_rfl) (by kernel_rfl) ?_
                repeat (refine wpTx_now (by rfl) (by rfl) (by rfl) (fun K hK => ?_); go_simp; refine hK _ ?_; clear hK K)
                refine wpTx_eff (by rfl) (fun K hK => ?_)
                go_simp
                refine HS.out.mono ?_
                rintro e w2 ⟨rfl, hb2⟩
                have HF := Lib.hid (HR.out.trans (((below_drewN wr 1).trans (hb2.mono (by simp))).mono HR.out.size))
                refine ⟨_, rfl, hK _ _ (by simp [lateOK]) ?_⟩
                clear hK K hb2 HS p0 p1 p2 q0 q1 q2 k0 k1
                repeat (refine wpTx_now (by rfl) (by rfl) (by rfl) (fun K hK => ?_); go_simp; refine hK _ ?_; clear hK K)
                refine wpTx_nil ?_
                go_wp2
                go_roundw
                case rel => exact ⟨i + 1, _, rfl, by go_num, by omega, (HT.out _ rfl).1, (HT.out _ rfl).2, HF.out⟩
                case measure => simp [intOf]; omega
              · have hlt' : ¬ (i : Int) < (n : Int) := by omega
                obtain rfl : i = n := by omega
                go_wp2
                go_ret
                refine ⟨?_, HW.out⟩
                have h1 := H1.out.1 (by simp)
                rw [List.take_of_length_le (by have := HN.out; omega), List.take_of_length_le (by have := HN.out; omega)] at h1
                rw [decide_eq_true h1]
                rfl
        · have g4 : ¬ x.methods = y.methods := fun e => hlm (by rw [e])
          have h3 : ¬ (x.methods.length : Int) = (y.methods.length : Int) := by omega
          rw [decide_eq_false g4]
          clear g4 hlm
          go_enter Tryz.func99, Tryz.ntmps99
          go_wp2_with fail
          refine HC.out.mono ?_
          intro e w1 hr
          obtain ⟨rfl, hb1⟩ := retd_below hr
          have HF := Lib.hid (HB.out.trans (hb1.mono HB.out.size))
          obtain ⟨k0, k1⟩ := HA3.out _ hb1
          clear hr hb1 HC HB HA3
          go_wp2_with fail
          clear k0 k1
          go_loopw [5, 6] (fun sx ix wr => sx = .bool false ∧ ix = .int .i64 0 ∧ wr = w1) (fun _ _ _ => 0)
          case atStart => exact ⟨by simp [h3], rfl, rfl⟩
          case round =>
            obtain ⟨rfl, rfl, rfl⟩ := hrel
            go_wp2
            go_ret
            exact ⟨rfl, HF.out⟩
      · rw [decide_eq_false g3] at HC
        rw [decide_eq_false g3, Bool.false_and]
        clear g3
        go_enter Tryz.func99, Tryz.ntmps99
        go_wp2_with fail
        refine HC.out.mono ?_
        intro e w1 hr
        obtain ⟨rfl, hb1⟩ := retd_below hr
        have HF := Lib.hid (HB.out.trans (hb1.mono HB.out.size))
        clear hr hb1 HC HB
        go_wp2_with fail
        go_loopw [5, 6] (fun sx ix wr => sx = .bool false ∧ ix = .int .i64 0 ∧ wr = w1) (fun _ _ _ => 0)
        case atStart => exact ⟨rfl, rfl, rfl⟩
        case round =>
          obtain ⟨rfl, rfl, rfl⟩ := hrel
          go_wp2
          go_ret
          exact ⟨rfl, HF.out⟩
    · have e2 := tl_not g2
      rw [decide_eq_false g2, Bool.false_and]
      clear g1 g2 HC
      go_enter Tryz.func99, Tryz.ntmps99
      go_wp2
      go_loopw [5, 6] (fun sx ix wr => sx = .bool false ∧ ix = .int .i64 0 ∧ Below W.heap.size W wr) (fun _ _ _ => 0)
      case atStart => exact ⟨rfl, rfl, HB.out⟩
      case round =>
        obtain ⟨rfl, rfl, hb⟩ := hrel
        go_wp2
        go_ret
        exact ⟨rfl, hb⟩
  · have e1 := tl_not g1
    rw [decide_eq_false g1, Bool.false_and]
    clear g1 HC
    go_enter Tryz.func99, Tryz.ntmps99
    go_wp2
    go_loopw [5, 6] (fun sx ix wr => sx = .bool false ∧ ix = .int .i64 0 ∧ Below W.heap.size W wr) (fun _ _ _ => 0)
    case atStart => exact ⟨rfl, rfl, HB.out⟩
    case round =>
      obtain ⟨rfl, rfl, hb⟩ := hrel
      go_wp2
      go_ret
      exact ⟨rfl, hb⟩
set_option maxRecDepth 100000 in
set_option maxHeartbeats 3200000 in
theorem sameTb_any {W : World} {v u : Value} {l m : List Cl} (hA : clK.sl W v l) (hB : clK.sl W u m) : Calls Tryz.prog 42 #[v, u] W (RetB (decide (l = m)) W) := by
  obtain ⟨A, c, rfl, hll⟩ := Kind.sl_form hA
  obtain ⟨B, d, rfl, hml⟩ := Kind.sl_form hB
  by_cases hlm : l.length = m.length
  · have HA := Lib.hid hA
    have HB := Lib.hid hB
    obtain ⟨n, hn⟩ : ∃ n, n = l.length := ⟨_, rfl⟩
    have hm : m.length = n := by omega
    have HN := Lib.hid (And.intro hn hm)
    rw [← hn] at hll
    rw [← hn, hm]
    clear hA hB hml hlm hn hm
    go_enter Tryz.func42, Tryz.ntmps42
    go_wp2
    go_loopw [5, 6] (fun sx ix wr => ∃ (i : Nat) (b : Bool), sx = .bool b ∧ ix = .int .i64 i ∧ i ≤ n ∧ (b = true → l.take i = m.take i) ∧ (b = false → ¬ l = m) ∧ Below W.heap.size W wr) (fun _ ix _ => n - (intOf ix).toNat)
    case atStart => exact ⟨0, true, by simp, rfl, Nat.zero_le _, fun _ => rfl, fun h => (by cases h), Below.refl _ _⟩
    case round =>
      obtain ⟨i, b, rfl, rfl, hi, h1, h2, hbr⟩ := hrel
      have H1 := Lib.hid (And.intro h1 h2)
      have HW := Lib.hid hbr
      clear h1 h2 hbr
      cases b with
      | false =>
        go_wp2
        go_ret
        refine ⟨?_, HW.out⟩
        rw [decide_eq_false (H1.out.2 (by simp))]
        rfl
      | true =>
        by_cases hlt : i < n
        · have hlt' : (i : Int) < (n : Int) := by omega
          have hl1 : i < l.length := by have := HN.out; omega
          have hm1 : i < m.length := by have := HN.out; omega
          obtain ⟨b1, o1, c1, cs1, hv1, ht1, hat1⟩ := Kind.sl_at (Kind.sl_below HA.out HW.out) (by decide) i hl1
          obtain rfl : A = some ⟨b1, o1, none⟩ := by injection hv1
          obtain ⟨b2, o2, c3, cs2, hv2, ht2, hat2⟩ := Kind.sl_at (Kind.sl_below HB.out HW.out) (by decide) i hm1
          obtain rfl : B = some ⟨b2, o2, none⟩ := by injection hv2
          have HT := Lib.hid (take_same hl1 hm1 (H1.out.1 rfl))
          have hS := sameCl_any (Kind.below ht1 (below_drewN wr 1)) (Kind.below ht2 (below_drewN wr 1))
          generalize l[i] = xm at *
          generalize m[i] = ym at *
          obtain ⟨ps1, ms1, rfl, _, _, f1, f3⟩ := ht1
          obtain ⟨ps2, ms2, rfl, _, _, f2, f4⟩ := ht2
          obtain ⟨A5, c5, rfl, _⟩ := Kind.sl_form f1
          obtain ⟨A6, c6, rfl, _⟩ := Kind.sl_form f2
          obtain ⟨A7, c7, rfl, _⟩ := Kind.sl_form f3
          obtain ⟨A8, c8, rfl, _⟩ := Kind.sl_form f4
          have p0 := hat1 0 _ rfl
          have p1 := hat1 1 _ rfl
          have p2 := hat1 2 _ rfl
          have p3 := hat1 3 _ rfl
          have q0 := hat2 0 _ rfl
          have q1 := hat2 1 _ rfl
          have q2 := hat2 2 _ rfl
          have q3 := hat2 3 _ rfl
          rw [show clK.size = 4 from rfl] at p0 p1 p2 p3 q0 q1 q2 q3
          rw [Nat.add_zero] at p0 q0
          have HS : Hid (Calls Tryz.prog 99 #[.agg #[.string xm.name, .string xm.super, .slice A5 xm.fields.length c5, .slice A7 xm.methods.length c7], .agg #[.string ym.name, .string ym.super, .slice A6 ym.fields.length c6, .slice A8 ym.methods.length c8]] (wr.drewN 1) (RetB (decide (xm = ym)) (wr.drewN 1))) := Lib.hid hS
          clear hat1 hat2 hv1 hv2 f1 f2 f3 f4 hS
          go_wp2_with fail
          refine wp_region_text [8] loT upT (by kernel_rfl) (by kernel_rfl) (by kernel_rfl) (by kernel_rfl) (by kernel_rfl) ?_
          repeat (refine wpTx_now (by rfl) (by rfl) (by rfl) (fun K hK => ?_); go_simp; refine hK _ ?_; clear hK K)
          refine wpTx_eff (by rfl) (fun K hK => ?_)
          go_simp
          refine HS.out.mono ?_
          rintro e w2 ⟨rfl, hb2⟩
          have HF := Lib.hid (HW.out.trans (((below_drewN wr 1).trans (hb2.mono (by simp))).mono HW.out.size))
          refine ⟨_, rfl, hK _ _ (by simp [lateOK]) ?_⟩
          clear hK K hb2 HS p0 p1 p2 p3 q0 q1 q2 q3
          repeat (refine wpTx_now (by rfl) (by rfl) (by rfl) (fun K hK => ?_); go_simp; refine hK _ ?_; clear hK K)
          refine wpTx_nil ?_
          go_wp2
          go_roundw
          case rel => exact ⟨i + 1, _, rfl, by go_num, by omega, (HT.out _ rfl).1, (HT.out _ rfl).2, HF.out⟩
          case measure => simp [intOf]; omega
        · have hlt' : ¬ (i : Int) < (n : Int) := by omega
          obtain rfl : i = n := by omega
          go_wp2
          go_ret
          refine ⟨?_, HW.out⟩
          have h1 := H1.out.1 (by simp)
          rw [List.take_of_length_le (by have := HN.out; omega), List.take_of_length_le (by have := HN.out; omega)] at h1
          rw [decide_eq_true h1]
          rfl
  · have h2 : decide (l = m) = false := decide_eq_false fun e => hlm (by rw [e])
    rw [h2]
    have h3 : ¬ (l.length : Int) = (m.length : Int) := by omega
    have h4 : ((l.length : Int) == (m.length : Int)) = false := by simpa using h3
    clear hA hB hlm
    go_enter Tryz.func42, Tryz.ntmps42
    go_wp2
    go_loopw [5, 6] (fun sx ix wr => sx = .bool false ∧ ix = .int .i64 0 ∧ wr = W) (fun _ _ _ => 0)
    case atStart => exact ⟨by simp [h3], rfl, rfl⟩
    case round =>
      obtain ⟨rfl, rfl, rfl⟩ := hrel
      go_wp2
      go_ret
      exact ⟨rfl, Below.refl _ _⟩
end Go.Proofs.YtcapdmicekialaaGreat
/- SameModule. Printed by gen_same3.py. -/
namespace Go.Proofs.YtcapdmicekialaaGreat
open Go.RowKit
set_option linter.unusedVariables false
set_option linter.unusedSimpArgs false
attribute [local go_sem] Oper.semAt_some run_store_func run_store_nilFunc
theorem retd_b {b : Bool} {W : World} {e : Ending} {w' : World} (h : RetD (.bool b) W e w') : RetB b W e w' := by
  obtain ⟨he, n, rfl⟩ := h
  exact ⟨he, below_drewN _ _⟩
def loMd (i : Nat) : Nat := [0, 0, 0, 0, 0, 0, 0, 0, 0, 0, 0, 1, 2, 3].getD i 0
def upMd (i : Nat) : Nat := [2, 2, 2, 2, 2, 3, 3, 3, 3, 3, 1, 2, 3, 4].getD i 0
set_option maxRecDepth 100000 in
set_option maxHeartbeats 6400000 in
theorem sameMd_any {W : World} {cs cu : List Value} {m n : Md} (hx : mdK.tells W cs m) (hy : mdK.tells W cu n) : Calls Tryz.prog 12 #[.agg cs.toArray, .agg cu.toArray] W (RetB (decide (m = n)) W) := by
  obtain ⟨t1, s1, p1, f1, rfl, ht1, hs1, hp1, hf1⟩ := hx
  obtain ⟨t2, s2, p2, f2, rfl, ht2, hs2, hp2, hf2⟩ := hy
  obtain ⟨A1, c1, rfl, hl1⟩ := Kind.sl_form hf1
  obtain ⟨A2, c2, rfl, hl2⟩ := Kind.sl_form hf2
  have hb := ((Below.refl W.heap.size W).alloc (Nat.le_refl _) (.cells #[t1, s1, p1, .slice A1 m.funcs.length c1] 27)).alloc (by simp) (.cells #[t2, s2, p2, .slice A2 n.funcs.length c2] 27)
  have HB := Lib.hid hb
  have HT := Lib.hid (fun W' (hb : Below W.heap.size W W') => sameTb_any (Kind.sl_below ht1 hb) (Kind.sl_below ht2 hb))
  have HS := Lib.hid (fun W' (hb : Below W.heap.size W W') => (sameSt_any (Kind.sl_below hs1 hb) (Kind.sl_below hs2 hb)).mono fun _ _ => retd_b)
  have HP := Lib.hid (fun W' (hb : Below W.heap.size W W') => (sameTx_any (Kind.sl_below hp1 hb) (Kind.sl_below hp2 hb)).mono fun _ _ => retd_b)
  have HF1 := Lib.hid hf1
  have HF2 := Lib.hid hf2
  have a3 : ∀ w', Below ((W.alloc (.cells #[t1, s1, p1, .slice A1 m.funcs.length c1] 27)).alloc (.cells #[t2, s2, p2, .slice A2 n.funcs.length c2] 27)).heap.size ((W.alloc (.cells #[t1, s1, p1, .slice A1 m.funcs.length c1] 27)).alloc (.cells #[t2, s2, p2, .slice A2 n.funcs.length c2] 27)) w' →
      (w'.cell? ⟨W.heap.size, 1, none⟩ = some s1 ∧ w'.cell? ⟨W.heap.size, 2, none⟩ = some p1 ∧ w'.cell? ⟨W.heap.size, 3, none⟩ = some (.slice A1 m.funcs.length c1)) ∧ (w'.cell? ⟨W.heap.size + 1, 1, none⟩ = some s2 ∧ w'.cell? ⟨W.heap.size + 1, 2, none⟩ = some p2 ∧ w'.cell? ⟨W.heap.size + 1, 3, none⟩ = some (.slice A2 n.funcs.length c2)) := fun w' h => by
    have hn1 := Blk.new W 27 #[t1, s1, p1, .slice A1 m.funcs.length c1]
    have hn2 := Blk.new (W.alloc (.cells #[t1, s1, p1, .slice A1 m.funcs.length c1] 27)) 27 #[t2, s2, p2, .slice A2 n.funcs.length c2]
    rw [show (W.alloc (.cells #[t1, s1, p1, .slice A1 m.funcs.length c1] 27)).heap.size = W.heap.size + 1 by simp] at hn2
    exact ⟨⟨cell_below (cell_alloc (hn1.cell 1) _) h, cell_below (cell_alloc (hn1.cell 2) _) h, cell_below (cell_alloc (hn1.cell 3) _) h⟩, cell_below (hn2.cell 1) h, cell_below (hn2.cell 2) h, cell_below (hn2.cell 3) h⟩
  have HA := Lib.hid a3
  have HFi : Hid (m.table = n.table → m.sites = n.sites → m.pool = n.pool → m.funcs = n.funcs → m = n) := Lib.hid (by cases m; cases n; rintro rfl rfl rfl rfl; rfl)
  have HNo : Hid ((¬ m.table = n.table ∨ ¬ m.sites = n.sites ∨ ¬ m.pool = n.pool ∨ ¬ m.funcs = n.funcs) → ¬ m = n) := Lib.hid (by rintro h rfl; simp at h)
  show Calls Tryz.prog 12 #[.agg #[t1, s1, p1, .slice A1 m.funcs.length c1], .agg #[t2, s2, p2, .slice A2 n.funcs.length c2]] W _
  clear ht1 hs1 hp1 hf1 ht2 hs2 hp2 hf2 hb a3
  have HC := Lib.hid (HT.out _ HB.out)
  go_enter Tryz.func12, Tryz.ntmps12
  go_wp2_with fail
  refine HC.out.mono ?_
  intro e w1 hr
  clear HC
  obtain ⟨rfl, hb1⟩ := hr
  have HW1 : Hid (Below W.heap.size W w1) := Lib.hid (HB.out.trans (hb1.mono HB.out.size))
  have HX1 := Lib.hid hb1
  clear hb1
  obtain ⟨⟨x1, x2, x3⟩, y1, y2, y3⟩ := HA.out w1 HX1.out
  by_cases g1 : m.table = n.table
  · rw [decide_eq_true g1]
    have HC := Lib.hid (HS.out _ HW1.out)
    go_wp2_with fail
    refine HC.out.mono ?_
    intro e w2 hr
    clear HC x1 x2 x3 y1 y2 y3
    obtain ⟨rfl, hb1⟩ := hr
    have HW2 : Hid (Below W.heap.size W w2) := Lib.hid (HW1.out.trans (hb1.mono HW1.out.size))
    have HX2 := Lib.hid (HX1.out.trans (hb1.mono HX1.out.size))
    clear hb1
    obtain ⟨⟨x1, x2, x3⟩, y1, y2, y3⟩ := HA.out w2 HX2.out
    by_cases g2 : m.sites = n.sites
    · rw [decide_eq_true g2]
      have HC := Lib.hid (HP.out _ HW2.out)
      go_wp2_with fail
      refine HC.out.mono ?_
      intro e w3 hr
      clear HC x1 x2 x3 y1 y2 y3
      obtain ⟨rfl, hb1⟩ := hr
      have HW3 : Hid (Below W.heap.size W w3) := Lib.hid (HW2.out.trans (hb1.mono HW2.out.size))
      have HX3 := Lib.hid (HX2.out.trans (hb1.mono HX2.out.size))
      clear hb1
      obtain ⟨⟨x1, x2, x3⟩, y1, y2, y3⟩ := HA.out w3 HX3.out
      by_cases g3 : m.pool = n.pool
      · rw [decide_eq_true g3]
        by_cases hlm : m.funcs.length = n.funcs.length
        · obtain ⟨k, hk⟩ : ∃ k, k = m.funcs.length := ⟨_, rfl⟩
          have hm : n.funcs.length = k := by omega
          have HN := Lib.hid (And.intro hk hm)
          have hln : k ≤ 140737488351232 := by omega
          have HG := Lib.hid (And.intro g1 (And.intro g2 g3))
          rw [← hk] at x3
          rw [hm] at y3
          have HA3 : Hid (∀ w', Below w3.heap.size w3 w' → w'.cell? ⟨W.heap.size, 3, none⟩ = some (.slice A1 k c1) ∧ w'.cell? ⟨W.heap.size + 1, 3, none⟩ = some (.slice A2 k c2)) := Lib.hid fun w' hb' => ⟨cell_below x3 hb', cell_below y3 hb'⟩
          have HF1' : Hid (fuK.slS (Eq W) (.slice A1 k c1) m.funcs) := Lib.hid (by rw [hk]; exact HF1.out)
          have HF2' : Hid (fuK.slS (Eq W) (.slice A2 k c2) n.funcs) := Lib.hid (by rw [← hm]; exact HF2.out)
          clear hlm hk hm hl1 hl2 x1 x2 y1 y2 g1 g2 g3 HF1 HF2 HA HT HS HP
          go_wp2_with fail
          clear x3 y3
          go_loopw [5, 6] (fun sx ix wr => ∃ (i : Nat) (b : Bool), sx = .bool b ∧ ix = .int .i64 i ∧ i ≤ k ∧ (b = true → m.funcs.take i = n.funcs.take i) ∧ (b = false → ¬ m.funcs = n.funcs) ∧ Below w3.heap.size w3 wr) (fun _ ix _ => k - (intOf ix).toNat)
          case atStart => exact ⟨0, true, by simp, rfl, Nat.zero_le _, fun _ => rfl, fun h => (by cases h), Below.refl _ _⟩
          case round =>
            obtain ⟨i, b, rfl, rfl, hi, h1, h2, hbr⟩ := hrel
            have H1 := Lib.hid (And.intro h1 h2)
            have HR := Lib.hid hbr
            have HW := Lib.hid (HW3.out.trans (hbr.mono HW3.out.size))
            obtain ⟨k0, k1⟩ := HA3.out wr hbr
            clear h1 h2 hbr
            cases b with
            | false =>
              go_wp2
              go_ret
              refine ⟨?_, HW.out⟩
              rw [decide_eq_false (HNo.out (.inr (.inr (.inr (H1.out.2 (by simp))))))]
              rfl
            | true =>
              by_cases hlt : i < k
              · have hlt' : (i : Int) < (k : Int) := by omega
                have hl1 : i < m.funcs.length := by have := HN.out; omega
                have hm1 : i < n.funcs.length := by have := HN.out; omega
                obtain ⟨b1, o1, d1, cs1, hv1, ht1, hat1⟩ := Kind.sl_at (Kind.sl_below HF1'.out HW.out) (by decide) i hl1
                obtain rfl : A1 = some ⟨b1, o1, none⟩ := by injection hv1
                obtain ⟨b2, o2, d2, cs2, hv2, ht2, hat2⟩ := Kind.sl_at (Kind.sl_below HF2'.out HW.out) (by decide) i hm1
                obtain rfl : A2 = some ⟨b2, o2, none⟩ := by injection hv2
                have HT := Lib.hid (take_same hl1 hm1 (H1.out.1 rfl))
                generalize m.funcs[i] = x at *
                generalize n.funcs[i] = y at *
                obtain ⟨ls1, cd1, rfl, _, _, hls1, hcd1⟩ := ht1
                obtain ⟨ls2, cd2, rfl, _, _, hls2, hcd2⟩ := ht2
                obtain ⟨A5, c5, rfl, _⟩ := Kind.sl_form hls1
                obtain ⟨A6, c6, rfl, _⟩ := Kind.sl_form hcd1
                obtain ⟨A7, c7, rfl, _⟩ := Kind.sl_form hls2
                obtain ⟨A8, c8, rfl, _⟩ := Kind.sl_form hcd2
                have p0 := hat1 0 _ rfl
                have p1 := hat1 1 _ rfl
                have p2 := hat1 2 _ rfl
                have p3 := hat1 3 _ rfl
                have q0 := hat2 0 _ rfl
                have q1 := hat2 1 _ rfl
                have q2 := hat2 2 _ rfl
                have q3 := hat2 3 _ rfl
                rw [show fuK.size = 4 from rfl] at p0 p1 p2 p3 q0 q1 q2 q3
                rw [Nat.add_zero] at p0 q0
                have HL := Lib.hid (fun W' (hb : Below wr.heap.size wr W') => (sameTx_any (Kind.sl_below hls1 hb) (Kind.sl_below hls2 hb)).mono fun _ _ => retd_b)
                have HD := Lib.hid (fun W' (hb : Below wr.heap.size wr W') => (sameIn_any (Kind.sl_below hcd1 hb) (Kind.sl_below hcd2 hb)).mono fun _ _ => retd_b)
                clear hat1 hat2 hv1 hv2 hls1 hls2 hcd1 hcd2 HA3
                have HE : Hid (decide (x = y) = (decide (x.cls = y.cls) && (decide (x.name = y.name) && (decide (x.locals = y.locals) && decide (x.code = y.code))))) := Lib.hid (by
                  cases x; cases y
                  simp only [Fu.mk.injEq]
                  rw [Bool.eq_iff_iff]
                  simp)
                have hlr1 : b1 < wr.heap.size := cell_lt p0
                have hlr2 : b2 < wr.heap.size := cell_lt q0
                have hlr3 : W.heap.size < wr.heap.size := cell_lt k0
                have hlr4 : W.heap.size + 1 < wr.heap.size := cell_lt k1
                have u1a : ¬ wr.heap.size = b1 := by omega
                have u1b : ¬ wr.heap.size + 1 = b1 := by omega
                have u1c : ¬ b1 = wr.heap.size := by omega
                have u1d : ¬ b1 = wr.heap.size + 1 := by omega
                have u2a : ¬ wr.heap.size = b2 := by omega
                have u2b : ¬ wr.heap.size + 1 = b2 := by omega
                have u2c : ¬ b2 = wr.heap.size := by omega
                have u2d : ¬ b2 = wr.heap.size + 1 := by omega
                have u3a : ¬ wr.heap.size = W.heap.size := by omega
                have u3b : ¬ wr.heap.size + 1 = W.heap.size := by omega
                have u3c : ¬ W.heap.size = wr.heap.size := by omega
                have u3d : ¬ W.heap.size = wr.heap.size + 1 := by omega
                have u4a : ¬ wr.heap.size = (W.heap.size + 1) := by omega
                have u4b : ¬ wr.heap.size + 1 = (W.heap.size + 1) := by omega
                have u4c : ¬ (W.heap.size + 1) = wr.heap.size := by omega
                have u4d : ¬ (W.heap.size + 1) = wr.heap.size + 1 := by omega
                clear hlr1 hlr2 hlr3 hlr4
                have k0a := fun o => cell_alloc k0 o
                have k0b := fun o o' => cell_alloc (cell_alloc k0 o) o'
                have k1a := fun o => cell_alloc k1 o
                have k1b := fun o o' => cell_alloc (cell_alloc k1 o) o'
                have p0a := fun o => cell_alloc p0 o
                have p0b := fun o o' => cell_alloc (cell_alloc p0 o) o'
                have p1a := fun o => cell_alloc p1 o
                have p1b := fun o o' => cell_alloc (cell_alloc p1 o) o'
                have p2a := fun o => cell_alloc p2 o
                have p2b := fun o o' => cell_alloc (cell_alloc p2 o) o'
                have p3a := fun o => cell_alloc p3 o
                have p3b := fun o o' => cell_alloc (cell_alloc p3 o) o'
                have q0a := fun o => cell_alloc q0 o
                have q0b := fun o o' => cell_alloc (cell_alloc q0 o) o'
                have q1a := fun o => cell_alloc q1 o
                have q1b := fun o o' => cell_alloc (cell_alloc q1 o) o'
                have q2a := fun o => cell_alloc q2 o
                have q2b := fun o o' => cell_alloc (cell_alloc q2 o) o'
                have q3a := fun o => cell_alloc q3 o
                have q3b := fun o o' => cell_alloc (cell_alloc q3 o) o'
                go_wp2_with fail
                skip
                refine wp_region_either 10 11 (by kernel_rfl) (by decide) (by decide) (by decide) (by kernel_rfl) (text_any (lo := loMd) (up := upMd) [10, 11, 12, 13] (by kernel_rfl) (by kernel_rfl) (by kernel_rfl) (by kernel_rfl) ?_) (text_any (lo := loMd) (up := upMd) [10, 11, 12, 13] (by kernel_rfl) (by kernel_rfl) (by kernel_rfl) (by kernel_rfl) ?_)
                · simp only [trL, trO, swp, List.length_cons, List.length_nil, Nat.reduceAdd, List.range, List.range.loop, List.map_cons, List.map_nil, List.getD_cons_zero, List.getD_cons_succ, Nat.reduceEqDiff, if_true, if_false, reduceIte, List.map_toArray, List.push_toArray, List.append_toArray, List.cons_append, List.nil_append]
                  repeat (refine wpTx_late [] (by rfl) (by rfl) (by rfl) (fun K hK => ?_); go_simp; refine hK _ _ ?_; clear hK K)
                  refine wpTx_eff (by rfl) (fun K hK => ?_)
                  go_simp
                  refine hK _ _ ?_ ?_
                  · repeat (first | exact lateOK_nil | refine lateOK_skip (by rfl) ?_ | refine lateOK_cons (by go_simp) ?_)
                  clear hK K
                  refine wpTx_eff (by rfl) (fun K hK => ?_)
                  go_simp
                  refine hK _ _ ?_ ?_
                  · repeat (first | exact lateOK_nil | refine lateOK_skip (by rfl) ?_ | refine lateOK_cons (by go_simp) ?_)
                  clear hK K
                  refine wpTx_eff (by rfl) (fun K hK => ?_)
                  go_simp
                  refine hK _ _ ?_ ?_
                  · repeat (first | exact lateOK_nil | refine lateOK_skip (by rfl) ?_ | refine lateOK_cons (by go_simp) ?_)
                  clear hK K
                  refine wpTx_eff (by rfl) (fun K hK => ?_)
                  go_simp
                  refine hK _ _ ?_ ?_
                  · repeat (first | exact lateOK_nil | refine lateOK_skip (by rfl) ?_ | refine lateOK_cons (by go_simp) ?_)
                  clear hK K
                  refine wpTx_nil ?_
                  have HZ : Hid (Below wr.heap.size wr ((wr.alloc (.cells #[.string x.cls, .string x.name, .slice A5 x.locals.length c5, .slice A6 x.code.length c6] 48)).alloc (.cells #[.string y.cls, .string y.name, .slice A7 y.locals.length c7, .slice A8 y.code.length c8] 48)).drew) := Lib.hid ((((Below.refl wr.heap.size wr).alloc (Nat.le_refl _) (.cells #[.string x.cls, .string x.name, .slice A5 x.locals.length c5, .slice A6 x.code.length c6] 48)).alloc (by simp) (.cells #[.string y.cls, .string y.name, .slice A7 y.locals.length c7, .slice A8 y.code.length c8] 48)).drew)
                  have HZR : Hid (Below w3.heap.size w3 ((wr.alloc (.cells #[.string x.cls, .string x.name, .slice A5 x.locals.length c5, .slice A6 x.code.length c6] 48)).alloc (.cells #[.string y.cls, .string y.name, .slice A7 y.locals.length c7, .slice A8 y.code.length c8] 48)).drew) := Lib.hid (HR.out.trans (HZ.out.mono HR.out.size))
                  have hn1 := Blk.new wr 48 #[.string x.cls, .string x.name, .slice A5 x.locals.length c5, .slice A6 x.code.length c6]
                  have hn2 := Blk.new (wr.alloc (.cells #[.string x.cls, .string x.name, .slice A5 x.locals.length c5, .slice A6 x.code.length c6] 48)) 48 #[.string y.cls, .string y.name, .slice A7 y.locals.length c7, .slice A8 y.code.length c8]
                  rw [show (wr.alloc (.cells #[.string x.cls, .string x.name, .slice A5 x.locals.length c5, .slice A6 x.code.length c6] 48)).heap.size = wr.heap.size + 1 by simp] at hn2
                  have HC7 : Hid (∀ w', Below (((wr.alloc (.cells #[.string x.cls, .string x.name, .slice A5 x.locals.length c5, .slice A6 x.code.length c6] 48)).alloc (.cells #[.string y.cls, .string y.name, .slice A7 y.locals.length c7, .slice A8 y.code.length c8] 48)).drew).heap.size (((wr.alloc (.cells #[.string x.cls, .string x.name, .slice A5 x.locals.length c5, .slice A6 x.code.length c6] 48)).alloc (.cells #[.string y.cls, .string y.name, .slice A7 y.locals.length c7, .slice A8 y.code.length c8] 48)).drew) w' → w'.cell? ⟨wr.heap.size, 3, none⟩ = some (.slice A6 x.code.length c6) ∧ w'.cell? ⟨wr.heap.size + 1, 3, none⟩ = some (.slice A8 y.code.length c8)) := Lib.hid fun w' h => ⟨cell_below (w := ((wr.alloc (.cells #[.string x.cls, .string x.name, .slice A5 x.locals.length c5, .slice A6 x.code.length c6] 48)).alloc (.cells #[.string y.cls, .string y.name, .slice A7 y.locals.length c7, .slice A8 y.code.length c8] 48)).drew) (cell_alloc (hn1.cell 3) _) h, cell_below (w := ((wr.alloc (.cells #[.string x.cls, .string x.name, .slice A5 x.locals.length c5, .slice A6 x.code.length c6] 48)).alloc (.cells #[.string y.cls, .string y.name, .slice A7 y.locals.length c7, .slice A8 y.code.length c8] 48)).drew) (hn2.cell 3) h⟩
                  clear hn1 hn2 k0b k0a k0 k1b k1a k1 p0b p0a p0 p1b p1a p1 p2b p2a p2 p3b p3a p3 q0b q0a q0 q1b q1a q1 q2b q2a q2 q3b q3a q3
                  by_cases f1 : x.cls = y.cls
                  · have e1 := tl_same f1
                    have F1 := Lib.hid f1
                    clear f1
                    by_cases f2 : x.name = y.name
                    · have e2 := tl_same f2
                      have F2 := Lib.hid f2
                      clear f2
                      have HC := Lib.hid (HL.out _ HZ.out)
                      go_wp2_with fail
                      refine HC.out.mono ?_
                      rintro e w5 ⟨rfl, hb5⟩
                      obtain ⟨j1, j2⟩ := HC7.out _ hb5
                      have H5 := Lib.hid (HZ.out.trans (hb5.mono HZ.out.size))
                      have H5R := Lib.hid (HZR.out.trans (hb5.mono HZR.out.size))
                      clear HC hb5
                      by_cases f3 : x.locals = y.locals
                      · rw [decide_eq_true f3]
                        have F3 := Lib.hid f3
                        clear f3
                        have HC := Lib.hid (HD.out _ H5.out)
                        go_wp2_with fail
                        refine HC.out.mono ?_
                        rintro e w6 ⟨rfl, hb6⟩
                        have H6R := Lib.hid (H5R.out.trans (hb6.mono H5R.out.size))
                        clear HC hb6
                        go_wp2
                        go_roundw
                        case rel => exact ⟨i + 1, _, rfl, by go_num, by omega, (HT.out _ (by rw [HE.out]; simp [F1.out, F2.out, F3.out])).1, (HT.out _ (by rw [HE.out]; simp [F1.out, F2.out, F3.out])).2, H6R.out⟩
                        case measure => simp [intOf]; omega
                      · rw [decide_eq_false f3]
                        have F3 := Lib.hid f3
                        clear f3
                        go_wp2
                        go_roundw
                        case rel => exact ⟨i + 1, _, rfl, by go_num, by omega, (HT.out _ (by rw [HE.out]; simp [F3.out])).1, (HT.out _ (by rw [HE.out]; simp [F3.out])).2, H5R.out⟩
                        case measure => simp [intOf]; omega
                    · have e2 := tl_not f2
                      have F2 := Lib.hid f2
                      clear f2
                      go_wp2
                      go_roundw
                      case rel => exact ⟨i + 1, _, rfl, by go_num, by omega, (HT.out _ (by rw [HE.out]; simp [F2.out])).1, (HT.out _ (by rw [HE.out]; simp [F2.out])).2, HZR.out⟩
                      case measure => simp [intOf]; omega
                  · have e1 := tl_not f1
                    have F1 := Lib.hid f1
                    clear f1
                    go_wp2
                    go_roundw
                    case rel => exact ⟨i + 1, _, rfl, by go_num, by omega, (HT.out _ (by rw [HE.out]; simp [F1.out])).1, (HT.out _ (by rw [HE.out]; simp [F1.out])).2, HZR.out⟩
                    case measure => simp [intOf]; omega
                · simp only [trL, trO, swp, List.length_cons, List.length_nil, Nat.reduceAdd, List.range, List.range.loop, List.map_cons, List.map_nil, List.getD_cons_zero, List.getD_cons_succ, Nat.reduceEqDiff, if_true, if_false, reduceIte, List.map_toArray, List.push_toArray, List.append_toArray, List.cons_append, List.nil_append]
                  repeat (refine wpTx_late [] (by rfl) (by rfl) (by rfl) (fun K hK => ?_); go_simp; refine hK _ _ ?_; clear hK K)
                  refine wpTx_eff (by rfl) (fun K hK => ?_)
                  go_simp
                  refine hK _ _ ?_ ?_
                  · repeat (first | exact lateOK_nil | refine lateOK_skip (by rfl) ?_ | refine lateOK_cons (by go_simp) ?_)
                  clear hK K
                  refine wpTx_eff (by rfl) (fun K hK => ?_)
                  go_simp
                  refine hK _ _ ?_ ?_
                  · repeat (first | exact lateOK_nil | refine lateOK_skip (by rfl) ?_ | refine lateOK_cons (by go_simp) ?_)
                  clear hK K
                  refine wpTx_eff (by rfl) (fun K hK => ?_)
                  go_simp
                  refine hK _ _ ?_ ?_
                  · repeat (first | exact lateOK_nil | refine lateOK_skip (by rfl) ?_ | refine lateOK_cons (by go_simp) ?_)
                  clear hK K
                  refine wpTx_eff (by rfl) (fun K hK => ?_)
                  go_simp
                  refine hK _ _ ?_ ?_
                  · repeat (first | exact lateOK_nil | refine lateOK_skip (by rfl) ?_ | refine lateOK_cons (by go_simp) ?_)
                  clear hK K
                  refine wpTx_nil ?_
                  have HZ : Hid (Below wr.heap.size wr ((wr.alloc (.cells #[.string y.cls, .string y.name, .slice A7 y.locals.length c7, .slice A8 y.code.length c8] 48)).alloc (.cells #[.string x.cls, .string x.name, .slice A5 x.locals.length c5, .slice A6 x.code.length c6] 48)).drew) := Lib.hid ((((Below.refl wr.heap.size wr).alloc (Nat.le_refl _) (.cells #[.string y.cls, .string y.name, .slice A7 y.locals.length c7, .slice A8 y.code.length c8] 48)).alloc (by simp) (.cells #[.string x.cls, .string x.name, .slice A5 x.locals.length c5, .slice A6 x.code.length c6] 48)).drew)
                  have HZR : Hid (Below w3.heap.size w3 ((wr.alloc (.cells #[.string y.cls, .string y.name, .slice A7 y.locals.length c7, .slice A8 y.code.length c8] 48)).alloc (.cells #[.string x.cls, .string x.name, .slice A5 x.locals.length c5, .slice A6 x.code.length c6] 48)).drew) := Lib.hid (HR.out.trans (HZ.out.mono HR.out.size))
                  have hn1 := Blk.new wr 48 #[.string y.cls, .string y.name, .slice A7 y.locals.length c7, .slice A8 y.code.length c8]
                  have hn2 := Blk.new (wr.alloc (.cells #[.string y.cls, .string y.name, .slice A7 y.locals.length c7, .slice A8 y.code.length c8] 48)) 48 #[.string x.cls, .string x.name, .slice A5 x.locals.length c5, .slice A6 x.code.length c6]
                  rw [show (wr.alloc (.cells #[.string y.cls, .string y.name, .slice A7 y.locals.length c7, .slice A8 y.code.length c8] 48)).heap.size = wr.heap.size + 1 by simp] at hn2
                  have HC7 : Hid (∀ w', Below (((wr.alloc (.cells #[.string y.cls, .string y.name, .slice A7 y.locals.length c7, .slice A8 y.code.length c8] 48)).alloc (.cells #[.string x.cls, .string x.name, .slice A5 x.locals.length c5, .slice A6 x.code.length c6] 48)).drew).heap.size (((wr.alloc (.cells #[.string y.cls, .string y.name, .slice A7 y.locals.length c7, .slice A8 y.code.length c8] 48)).alloc (.cells #[.string x.cls, .string x.name, .slice A5 x.locals.length c5, .slice A6 x.code.length c6] 48)).drew) w' → w'.cell? ⟨wr.heap.size, 3, none⟩ = some (.slice A8 y.code.length c8) ∧ w'.cell? ⟨wr.heap.size + 1, 3, none⟩ = some (.slice A6 x.code.length c6)) := Lib.hid fun w' h => ⟨cell_below (w := ((wr.alloc (.cells #[.string y.cls, .string y.name, .slice A7 y.locals.length c7, .slice A8 y.code.length c8] 48)).alloc (.cells #[.string x.cls, .string x.name, .slice A5 x.locals.length c5, .slice A6 x.code.length c6] 48)).drew) (cell_alloc (hn1.cell 3) _) h, cell_below (w := ((wr.alloc (.cells #[.string y.cls, .string y.name, .slice A7 y.locals.length c7, .slice A8 y.code.length c8] 48)).alloc (.cells #[.string x.cls, .string x.name, .slice A5 x.locals.length c5, .slice A6 x.code.length c6] 48)).drew) (hn2.cell 3) h⟩
                  clear hn1 hn2 k0b k0a k0 k1b k1a k1 p0b p0a p0 p1b p1a p1 p2b p2a p2 p3b p3a p3 q0b q0a q0 q1b q1a q1 q2b q2a q2 q3b q3a q3
                  by_cases f1 : x.cls = y.cls
                  · have e1 := tl_same f1
                    have F1 := Lib.hid f1
                    clear f1
                    by_cases f2 : x.name = y.name
                    · have e2 := tl_same f2
                      have F2 := Lib.hid f2
                      clear f2
                      have HC := Lib.hid (HL.out _ HZ.out)
                      go_wp2_with fail
                      refine HC.out.mono ?_
                      rintro e w5 ⟨rfl, hb5⟩
                      obtain ⟨j1, j2⟩ := HC7.out _ hb5
                      have H5 := Lib.hid (HZ.out.trans (hb5.mono HZ.out.size))
                      have H5R := Lib.hid (HZR.out.trans (hb5.mono HZR.out.size))
                      clear HC hb5
                      by_cases f3 : x.locals = y.locals
                      · rw [decide_eq_true f3]
                        have F3 := Lib.hid f3
                        clear f3
                        have HC := Lib.hid (HD.out _ H5.out)
                        go_wp2_with fail
                        refine HC.out.mono ?_
                        rintro e w6 ⟨rfl, hb6⟩
                        have H6R := Lib.hid (H5R.out.trans (hb6.mono H5R.out.size))
                        clear HC hb6
                        go_wp2
                        go_roundw
                        case rel => exact ⟨i + 1, _, rfl, by go_num, by omega, (HT.out _ (by rw [HE.out]; simp [F1.out, F2.out, F3.out])).1, (HT.out _ (by rw [HE.out]; simp [F1.out, F2.out, F3.out])).2, H6R.out⟩
                        case measure => simp [intOf]; omega
                      · rw [decide_eq_false f3]
                        have F3 := Lib.hid f3
                        clear f3
                        go_wp2
                        go_roundw
                        case rel => exact ⟨i + 1, _, rfl, by go_num, by omega, (HT.out _ (by rw [HE.out]; simp [F3.out])).1, (HT.out _ (by rw [HE.out]; simp [F3.out])).2, H5R.out⟩
                        case measure => simp [intOf]; omega
                    · have e2 := tl_not f2
                      have F2 := Lib.hid f2
                      clear f2
                      go_wp2
                      go_roundw
                      case rel => exact ⟨i + 1, _, rfl, by go_num, by omega, (HT.out _ (by rw [HE.out]; simp [F2.out])).1, (HT.out _ (by rw [HE.out]; simp [F2.out])).2, HZR.out⟩
                      case measure => simp [intOf]; omega
                  · have e1 := tl_not f1
                    have F1 := Lib.hid f1
                    clear f1
                    go_wp2
                    go_roundw
                    case rel => exact ⟨i + 1, _, rfl, by go_num, by omega, (HT.out _ (by rw [HE.out]; simp [F1.out])).1, (HT.out _ (by rw [HE.out]; simp [F1.out])).2, HZR.out⟩
                    case measure => simp [intOf]; omega
              · have hlt' : ¬ (i : Int) < (k : Int) := by omega
                obtain rfl : i = k := by omega
                go_wp2
                go_ret
                refine ⟨?_, HW.out⟩
                have h1 := H1.out.1 (by simp)
                rw [List.take_of_length_le (by have := HN.out; omega), List.take_of_length_le (by have := HN.out; omega)] at h1
                rw [decide_eq_true (HFi.out HG.out.1 HG.out.2.1 HG.out.2.2 h1)]
                rfl
        · have g4 : ¬ m.funcs = n.funcs := fun e => hlm (by rw [e])
          have h3 : ¬ (m.funcs.length : Int) = (n.funcs.length : Int) := by omega
          clear hlm hl1 hl2 HF1 HF2 HA HT HS HP
          go_wp2_with fail
          go_loopw [5, 6] (fun sx ix wr => sx = .bool false ∧ ix = .int .i64 0 ∧ Below W.heap.size W wr) (fun _ _ _ => 0)
          case atStart => exact ⟨by first | rfl | simp [h3], rfl, HW3.out⟩
          case round =>
            obtain ⟨rfl, rfl, hbz⟩ := hrel
            go_wp2
            go_ret
            exact ⟨by rw [decide_eq_false (HNo.out (.inr (.inr (.inr g4))))]; rfl, hbz⟩
      · rw [decide_eq_false g3]
        go_wp2_with fail
        go_loopw [5, 6] (fun sx ix wr => sx = .bool false ∧ ix = .int .i64 0 ∧ Below W.heap.size W wr) (fun _ _ _ => 0)
        case atStart => exact ⟨by first | rfl | simp [h3], rfl, HW3.out⟩
        case round =>
          obtain ⟨rfl, rfl, hbz⟩ := hrel
          go_wp2
          go_ret
          exact ⟨by rw [decide_eq_false (HNo.out (.inr (.inr (.inl g3))))]; rfl, hbz⟩
    · rw [decide_eq_false g2]
      go_wp2_with fail
      go_loopw [5, 6] (fun sx ix wr => sx = .bool false ∧ ix = .int .i64 0 ∧ Below W.heap.size W wr) (fun _ _ _ => 0)
      case atStart => exact ⟨by first | rfl | simp [h3], rfl, HW2.out⟩
      case round =>
        obtain ⟨rfl, rfl, hbz⟩ := hrel
        go_wp2
        go_ret
        exact ⟨by rw [decide_eq_false (HNo.out (.inr (.inl g2)))]; rfl, hbz⟩
  · rw [decide_eq_false g1]
    go_wp2_with fail
    go_loopw [5, 6] (fun sx ix wr => sx = .bool false ∧ ix = .int .i64 0 ∧ Below W.heap.size W wr) (fun _ _ _ => 0)
    case atStart => exact ⟨by first | rfl | simp [h3], rfl, HW1.out⟩
    case round =>
      obtain ⟨rfl, rfl, hbz⟩ := hrel
      go_wp2
      go_ret
      exact ⟨by rw [decide_eq_false (HNo.out (.inl g1))]; rfl, hbz⟩
end Go.Proofs.YtcapdmicekialaaGreat
