/- chaperonkit: layers and values compared. -/
import Derived.Test.YtiaeckljpdhagaaFrElem
import Derived.Laws.StructEq
namespace Go.Proofs.Ytiaeckljpdhagaa
open Go.RowKit
set_option linter.unusedVariables false
set_option linter.unusedSimpArgs false
attribute [local go_sem] Oper.semAt_some run_store_func run_store_nilFunc
def eqLay (x y : Bool × ByteArray × Int) : Bool := decide (x = y)
theorem toList_inj {s t : ByteArray} : s.toList = t.toList ↔ s = t := by
  refine ⟨fun h => ?_, fun h => by rw [h]⟩
  rw [ByteArray.toList_eq, ByteArray.toList_eq] at h
  obtain ⟨⟨x⟩⟩ := s
  obtain ⟨⟨y⟩⟩ := t
  simpa using h
theorem neq_layer (a b : Bool) (s t : ByteArray) (i j : Int) (w : World) : (Op.equalIn 10000 104 (.agg #[.bool a, .string s, .int .i64 i]) (.agg #[.bool b, .string t, .int .i64 j])).run Try.prog w = .ok (eqLay (a, s, i) (b, t, j)) w := by
  have u1 := Try.underlying4
  have u2 := Try.underlying9
  have u3 := Try.underlying3
  have a1 := Try.isAgg4
  have a2 := Try.isAgg9
  have a3 := Try.isAgg3
  have z1 := Try.sizeOf4
  have z2 := Try.sizeOf9
  have z3 := Try.sizeOf3
  have hS : Try.prog.underlying 104 = some (.struct (Try.prog.fieldsOf 104)) := by kernel_rfl
  have hp : Try.prog.stoodInHeld 104 = false := by kernel_rfl
  rw [show (10000 : Nat) = 9999 + 1 from rfl, run_equalIn_agg w 9999 104 _ _ hS hp]
  simp only [Program.fieldsOf, Try.underlying104]
  go_simp
  unfold eqLay
  by_cases h1 : a = b <;> by_cases h2 : s = t <;> by_cases h3 : i = j <;> simp [h1, h2, h3, toList_inj]
theorem layV_at (l : List (Bool × ByteArray × Int)) (i : Nat) (hi : i < l.length) (j : Nat) (hj : j < 3) : (layV l)[i * 3 + j]? = ([Value.bool l[i].1, .string l[i].2.1, .int .i64 l[i].2.2] : List Value)[j]? := by
  induction l generalizing i with
  | nil => simp at hi
  | cons x l ih =>
    cases i with
    | zero => rw [show layV (x :: l) = [.bool x.1, .string x.2.1, .int .i64 x.2.2] ++ layV l from rfl, List.getElem?_append_left (by simp; omega)]; simp
    | succ i =>
      rw [show layV (x :: l) = [.bool x.1, .string x.2.1, .int .i64 x.2.2] ++ layV l from rfl, List.getElem?_append_right (by simp; omega)]
      rw [show (i + 1) * 3 + j - ([.bool x.1, .string x.2.1, .int .i64 x.2.2] : List Value).length = i * 3 + j by simp; omega]
      exact ih i (by simpa using hi)
theorem lay_cells {W : World} {B : Nat} {A : Option Addr} {l : List (Bool × ByteArray × Int)} (h : Reads W B 3 A l.length (layV l)) (i : Nat) (hi : i < l.length) : ∃ b off a s n, A = some ⟨b, off, none⟩ ∧ l[i] = (a, s, n) ∧
    W.cell? ⟨b, off + i * 3, none⟩ = some (.bool a) ∧ W.cell? ⟨b, off + i * 3 + 1, none⟩ = some (.string s) ∧ W.cell? ⟨b, off + i * 3 + 2, none⟩ = some (.int .i64 n) := by
  obtain ⟨b, off, e, _, hc⟩ := reads_addr h (by omega) (by decide)
  have e0 := hc (i * 3 + 0) _ ((layV_at l i hi 0 (by decide)).trans rfl)
  have e1 := hc (i * 3 + 1) _ ((layV_at l i hi 1 (by decide)).trans rfl)
  have e2 := hc (i * 3 + 2) _ ((layV_at l i hi 2 (by decide)).trans rfl)
  rw [Nat.add_zero] at e0
  rw [← Nat.add_assoc] at e1 e2
  generalize l[i] = x at *
  obtain ⟨a, s, n⟩ := x
  exact ⟨b, off, a, s, n, e, rfl, e0, e1, e2⟩
set_option maxRecDepth 100000 in
theorem sameL_any (l m : List (Bool × ByteArray × Int)) (A B : Option Addr) (c d Ba Bb : Nat) (W : World) (hA : Reads W Ba 3 A l.length (layV l)) (hB : Reads W Bb 3 B m.length (layV m)) (hll : l.length ≤ 1000000) (hml : m.length ≤ 1000000) :
    Calls Try.prog 67 #[.slice A l.length c, .slice B m.length d] W (RetD (.bool (decide (l = m))) W) := by
  by_cases hlm : l.length = m.length
  · have HA := Lib.hid hA
    have HB := Lib.hid hB
    have HL := Lib.hid (And.intro hll hml)
    obtain ⟨n, hn⟩ : ∃ n, n = l.length := ⟨_, rfl⟩
    have hm : m.length = n := by omega
    have HN := Lib.hid (And.intro hn hm)
    rw [← hn, hm]
    clear hA hB hll hml hlm hn hm
    have hnn : ¬ ((n : Int) != (n : Int)) = true := by simp
    have hg : Try.prog.eqGuardType Try.prog.depth 104 = false := by kernel_rfl
    have hq := neq_layer
    go_enter Try.func67, Try.ntmps67
    go_wp2
    go_loopw [5] (fun ix wr => ∃ i : Nat, ix = .int .i64 i ∧ i ≤ n ∧ l.take i = m.take i ∧ ∃ q, wr = W.drewN q) (fun ix _ => n - (intOf ix).toNat)
    case atStart => exact ⟨0, rfl, Nat.zero_le _, rfl, 0, rfl⟩
    case round =>
      obtain ⟨i, rfl, hi, ht, q, rfl⟩ := hrel
      have HT := Lib.hid ht
      clear ht
      have hbd : i ≤ 1000000 := by have := HN.out; have := HL.out; omega
      by_cases hlt : i < n
      · have hlt' : (i : Int) < (n : Int) := by omega
        have hl1 : i < l.length := by have := HN.out; omega
        have hm1 : i < m.length := by have := HN.out; omega
        obtain ⟨b1, o1, a1, s1, n1, rfl, he1, p0, p1, p2⟩ := lay_cells HA.out i hl1
        obtain ⟨b2, o2, a2, s2, n2, rfl, he2, q0, q1, q2⟩ := lay_cells HB.out i hm1
        have HE := Lib.hid (And.intro he1 he2)
        clear he1 he2
        by_cases heq : ((a1, s1, n1) : Bool × ByteArray × Int) = (a2, s2, n2)
        · have hdec : eqLay (a1, s1, n1) (a2, s2, n2) = true := decide_eq_true heq
          have HQ := Lib.hid heq
          clear heq
          go_wp2
          go_quiet (fail)
          go_wp2
          go_roundw
          case rel =>
            refine ⟨i + 1, by go_num, by omega, ?_, _, rfl⟩
            rw [List.take_succ_eq_append_getElem hl1, List.take_succ_eq_append_getElem hm1, HT.out, HE.out.1, HE.out.2, HQ.out]
          case measure => simp [intOf]; omega
        · have hdec : eqLay (a1, s1, n1) (a2, s2, n2) = false := decide_eq_false heq
          have HQ := Lib.hid heq
          clear heq
          go_wp2
          go_quiet (fail)
          go_wp2
          go_ret
          refine ⟨?_, q + nq, by simp⟩
          have : ¬ l = m := fun e => by subst e; exact HQ.out (HE.out.1.symm.trans HE.out.2)
          rw [decide_eq_false this]
          rfl
      · have hlt' : ¬ (i : Int) < (n : Int) := by omega
        obtain rfl : i = n := by omega
        go_wp2
        go_ret
        refine ⟨?_, _, rfl⟩
        have h1 := HT.out
        rw [List.take_of_length_le (by have := HN.out; omega), List.take_of_length_le (by have := HN.out; omega)] at h1
        rw [decide_eq_true h1]
        rfl
  · have h1 : ((l.length : Int) != (m.length : Int)) = true := by simp; omega
    have h2 : decide (l = m) = false := decide_eq_false fun e => hlm (by rw [e])
    rw [h2]
    have h3 : ¬ (l.length : Int) = (m.length : Int) := by omega
    clear hA hB hlm
    go_enter Try.func67, Try.ntmps67
    go_wp2
    go_ret
    exact ⟨rfl, 0, rfl⟩
/-- Values compared. -/
theorem val_eq (v u : Val) : decide (v = u) = (v.tag == u.tag && (v.n == u.n && (v.bits == u.bits && (v.s.toList == u.s.toList && decide (v.lay = u.lay))))) := by
  obtain ⟨t1, n1, b1, s1, l1⟩ := v
  obtain ⟨t2, n2, b2, s2, l2⟩ := u
  by_cases h1 : t1 = t2 <;> by_cases h2 : n1 = n2 <;> by_cases h3 : b1 = b2 <;> by_cases h4 : s1 = s2 <;> by_cases h5 : l1 = l2 <;> simp [h1, h2, h3, h4, h5, toList_inj]
set_option maxRecDepth 100000 in
set_option maxHeartbeats 1600000 in
theorem sameV_any (v u : Val) (x y : Value) (W : World) (hv : VIs W v x) (hu : VIs W u y) :
    Calls Try.prog 35 #[x, y] W fun e w' => e = .returned (.bool (decide (v = u))) ∧ Below W.heap.size W w' := by
  obtain ⟨A, c, rfl, hA, hvo⟩ := hv
  obtain ⟨B, d, rfl, hB, huo⟩ := hu
  obtain ⟨t1, n1, b1, s1, l1⟩ := v
  obtain ⟨t2, n2, b2, s2, l2⟩ := u
  have HV := Lib.hid (val_eq ⟨t1, n1, b1, s1, l1⟩ ⟨t2, n2, b2, s2, l2⟩)
  simp only [Val.go] at *
  simp only [Val.ok] at hvo huo
  have hAl := (hA.alloc (Nat.le_refl _) (.cells #[.int .i64 t1, .int .i64 n1, .int .u64 b1, .string s1, .slice A l1.length c] 30)).alloc (by simp) (.cells #[.int .i64 t2, .int .i64 n2, .int .u64 b2, .string s2, .slice B l2.length d] 30)
  have hBl := (hB.alloc (Nat.le_refl _) (.cells #[.int .i64 t1, .int .i64 n1, .int .u64 b1, .string s1, .slice A l1.length c] 30)).alloc (by simp) (.cells #[.int .i64 t2, .int .i64 n2, .int .u64 b2, .string s2, .slice B l2.length d] 30)
  have HC := Lib.hid (sameL_any l1 l2 A B c d _ _ _ hAl hBl hvo huo)
  have HB := Lib.hid (((Below.refl W.heap.size W).alloc (Nat.le_refl _) (.cells #[.int .i64 t1, .int .i64 n1, .int .u64 b1, .string s1, .slice A l1.length c] 30)).alloc (by simp) (.cells #[.int .i64 t2, .int .i64 n2, .int .u64 b2, .string s2, .slice B l2.length d] 30))
  clear hA hB hvo huo hAl hBl
  rw [HV.out]
  by_cases h1 : t1 = t2
  · by_cases h2 : n1 = n2
    · by_cases h3 : b1 = b2
      · by_cases h4 : s1.toList = s2.toList
        · have h5 : (s1.toList == s2.toList) = true := by simpa using h4
          rw [h5, beq_iff_eq.2 h1, beq_iff_eq.2 h2, beq_iff_eq.2 h3]
          simp only [Bool.true_and]
          subst h1 h2 h3
          clear h4
          go_enter Try.func35, Try.ntmps35
          go_wp2_with fail
          refine HC.out.mono ?_
          rintro e w' ⟨rfl, n, rfl⟩
          go_wp2_with fail
          go_ret
          exact ⟨rfl, (HB.out.trans ((below_drewN _ n).mono (by simp; omega)))⟩
        · have h5 : (s1.toList == s2.toList) = false := by simpa using h4
          rw [h5]
          simp only [Bool.false_and, Bool.and_false]
          subst h1 h2 h3
          clear h4
          go_enter Try.func35, Try.ntmps35
          go_wp2
          go_ret
          exact ⟨rfl, HB.out⟩
      · have h5 : (b1 == b2) = false := by simpa using h3
        rw [h5]
        simp only [Bool.false_and, Bool.and_false]
        subst h1 h2
        go_enter Try.func35, Try.ntmps35
        go_wp2
        go_ret
        exact ⟨rfl, HB.out⟩
    · have h5 : (n1 == n2) = false := by simpa using h2
      rw [h5]
      simp only [Bool.false_and, Bool.and_false]
      subst h1
      go_enter Try.func35, Try.ntmps35
      go_wp2
      go_ret
      exact ⟨rfl, HB.out⟩
  · have h5 : (t1 == t2) = false := by simpa using h1
    rw [h5]
    simp only [Bool.false_and, Bool.and_false]
    go_enter Try.func35, Try.ntmps35
    go_wp2
    go_ret
    exact ⟨rfl, HB.out⟩
end Go.Proofs.Ytiaeckljpdhagaa
