/- LongValue, Long. -/
import Derived.Test.YtiaeckljpdhagaaFrOpenA
namespace Go.Proofs.Ytiaeckljpdhagaa
open Go.RowKit
set_option linter.unusedVariables false
set_option linter.unusedSimpArgs false
attribute [local go_sem] Oper.semAt_some run_store_func run_store_nilFunc
def bigL (x : Bool × ByteArray × Int) : Bool := decide (60 < x.2.1.size)
def longVal (v : Val) : Bool := (v.lay.take 61).any bigL || (decide (60 < v.lay.length) || decide (60 < v.s.size))
theorem any_false_succ {α : Type} {f : α → Bool} {l : List α} {i : Nat} (hi : i < l.length) (h : (l.take i).any f = false) (hx : f l[i] = false) : (l.take (i + 1)).any f = false := by
  rw [List.take_succ_eq_append_getElem hi, List.any_append, h]
  simp [hx]
theorem any_true_at {α : Type} {f : α → Bool} {l : List α} {i m : Nat} (hi : i < l.length) (hm : i < m) (hx : f l[i] = true) : (l.take m).any f = true :=
  List.any_eq_true.2 ⟨l[i], List.mem_iff_getElem.2 ⟨i, by rw [List.length_take]; omega, by rw [List.getElem_take]⟩, hx⟩
theorem lay_cells_n {W : World} {B n : Nat} {A : Option Addr} {l : List (Bool × ByteArray × Int)} (hn : n = l.length) (h : Reads W B 3 A n (layV l)) (i : Nat) (hi : i < l.length) : ∃ b off a s n, A = some ⟨b, off, none⟩ ∧ l[i] = (a, s, n) ∧
    W.cell? ⟨b, off + i * 3, none⟩ = some (.bool a) ∧ W.cell? ⟨b, off + i * 3 + 1, none⟩ = some (.string s) ∧ W.cell? ⟨b, off + i * 3 + 2, none⟩ = some (.int .i64 n) := by
  subst hn
  exact lay_cells h i hi
set_option maxRecDepth 100000 in
set_option maxHeartbeats 800000 in
theorem longV_any (v : Val) (A : Option Addr) (c : Nat) (W : World) (hr : Reads W W.heap.size 3 A v.lay.length (layV v.lay)) (hm : v.lay.length ≤ maxLen) :
    Calls Try.prog 53 #[v.go (.slice A v.lay.length c)] W fun e w' => e = .returned (.bool (longVal v)) ∧ Below W.heap.size W w' := by
  obtain ⟨tag, num, bits, s, lay⟩ := v
  unfold maxLen at hm
  simp only [Val.go] at *
  obtain ⟨n, hn⟩ : ∃ n, n = lay.length := ⟨_, rfl⟩
  have HN := Lib.hid hn
  rw [← hn] at hm hr ⊢
  have HR := Lib.hid (hr.alloc (Nat.le_refl _) (.cells #[.int .i64 tag, .int .i64 num, .int .u64 bits, .string s, .slice A n c] 30))
  have HB := Lib.hid ((Below.refl W.heap.size W).alloc (Nat.le_refl _) (.cells #[.int .i64 tag, .int .i64 num, .int .u64 bits, .string s, .slice A n c] 30))
  clear hr hn
  go_enter Try.func53, Try.ntmps53
  go_wp2
  go_loop [3] (fun ix => ∃ i : Nat, ix = .int .i64 i ∧ i ≤ n ∧ i ≤ 61 ∧ (lay.take i).any bigL = false) (fun ix => n - (intOf ix).toNat)
  case atStart => exact ⟨0, rfl, Nat.zero_le _, Nat.zero_le _, rfl⟩
  case round =>
    obtain ⟨i, rfl, hi, hi61, ha⟩ := hrel
    have HA := Lib.hid ha
    clear ha
    by_cases hlt : i < n ∧ i < 61
    · obtain ⟨h1, h2⟩ := hlt
      have h1' : (i : Int) < (n : Int) := by omega
      have h2' : (i : Int) < 61 := by omega
      have hl1 : i < lay.length := by have := HN.out; omega
      obtain ⟨b, off, a, t, k, hA, he, p0, p1, p2⟩ := lay_cells_n HN.out HR.out i hl1
      subst hA
      have HE := Lib.hid he
      clear he
      by_cases hbig : 60 < t.size
      · have hbig' : (60 : Int) < (t.size : Int) := by omega
        have hx : longVal ⟨tag, num, bits, s, lay⟩ = true := by
          have h : (lay.take 61).any bigL = true := any_true_at hl1 h2 (by rw [HE.out]; exact decide_eq_true hbig)
          simp [longVal, h]
        go_wp2
        go_ret
        exact ⟨rfl, HB.out⟩
      · have hbig' : ¬ (60 : Int) < (t.size : Int) := by omega
        go_wp2
        go_round
        case rel => exact ⟨i + 1, by go_num, by omega, by omega, any_false_succ hl1 HA.out (by rw [HE.out]; exact decide_eq_false hbig)⟩
        case measure => simp [intOf]; omega
    · have hall : Hid ((lay.take 61).any bigL = false) := by
        refine Lib.hid ?_
        have h := HA.out
        by_cases h1 : i < n
        · have : i = 61 := by omega
          rw [this] at h; exact h
        · have : i = n := by omega
          rw [List.take_of_length_le (by have := HN.out; omega)] at h ⊢
          exact h
      have hfin : ∀ a b : Bool, decide (60 < n) = a → decide (60 < s.size) = b → longVal ⟨tag, num, bits, s, lay⟩ = (a || b) := fun a b ha hb => by
        show ((lay.take 61).any bigL || (decide (60 < lay.length) || decide (60 < s.size))) = _
        rw [hall.out, ← HN.out, ha, hb]
        rfl
      have HFin := Lib.hid hfin
      clear hfin
      by_cases h1 : i < n
      · obtain rfl : i = 61 := by omega
        have h1' : ((61 : Nat) : Int) < (n : Int) := by omega
        have h6 : (60 : Int) < (n : Int) := by omega
        have hx : longVal ⟨tag, num, bits, s, lay⟩ = true := (HFin.out true _ (decide_eq_true (by omega)) rfl).trans (Bool.true_or _)
        go_wp2
        go_ret
        exact ⟨rfl, HB.out⟩
      · have h1' : ¬ (i : Int) < (n : Int) := by omega
        by_cases h6 : 60 < n
        · have h6i : (60 : Int) < (n : Int) := by omega
          have hx : longVal ⟨tag, num, bits, s, lay⟩ = true := (HFin.out true _ (decide_eq_true (by omega)) rfl).trans (Bool.true_or _)
          go_wp2
          go_ret
          exact ⟨rfl, HB.out⟩
        · have h6i : ¬ (60 : Int) < (n : Int) := by omega
          by_cases h7 : 60 < s.size
          · have h7i : (60 : Int) < (s.size : Int) := by omega
            have hx : longVal ⟨tag, num, bits, s, lay⟩ = true := HFin.out false true (decide_eq_false (by omega)) (decide_eq_true h7)
            go_wp2
            go_ret
            exact ⟨rfl, HB.out⟩
          · have h7i : ¬ (60 : Int) < (s.size : Int) := by omega
            have hx : longVal ⟨tag, num, bits, s, lay⟩ = false := HFin.out false false (decide_eq_false (by omega)) (decide_eq_false h7)
            go_wp2
            go_ret
            exact ⟨rfl, HB.out⟩
def longAct (a : ActD) : Bool := longVal a.v.1 || (decide (10 < a.l.length ∧ a.l.length ≤ 200) || (a.l.take 10).any fun y => longVal y.1)
def longActs (xs : List ActD) : Bool := (xs.take 101).any longAct || decide (100 < xs.length)
section
variable {W W' : World}
theorem InCh.below {z : AV} (h : InCh W z) (hb : Below W.heap.size W W') : InCh W' z := by
  obtain ⟨A, c, e, hr, hm⟩ := h
  exact ⟨A, c, e, (hr.below hb).more hb.size, hm⟩
theorem InVs.below {l : List AV} {x : Value} (h : InVs W l x) (hb : Below W.heap.size W W') : InVs W' l x := by
  obtain ⟨A, c, e, hr, hq, hm⟩ := h
  exact ⟨A, c, e, (hr.below hb).more hb.size, fun y hy => (hq y hy).below hb, hm⟩
theorem ActD.In.below {z : ActD} (h : z.In W) (hb : Below W.heap.size W W') : z.In W' := ⟨h.1.below hb, h.2.below hb⟩
/-- A value in such a row, at place i. -/
theorem inv_at {l : List AV} {A : Option Addr} {B n : Nat} (hn : n = l.length) (hr : Reads W B 5 A n (avV l)) (hq : ∀ y ∈ l, InCh W y) (i : Nat) (hi : i < l.length) : ∃ b off tag num bits s lay A2 c2, A = some ⟨b, off, none⟩ ∧ l[i] = ((⟨tag, num, bits, s, lay⟩ : Val), Value.slice A2 lay.length c2) ∧
    (W.cell? ⟨b, off + i * 5, none⟩ = some (.int .i64 tag) ∧ W.cell? ⟨b, off + i * 5 + 1, none⟩ = some (.int .i64 num) ∧ W.cell? ⟨b, off + i * 5 + 2, none⟩ = some (.int .u64 bits) ∧ W.cell? ⟨b, off + i * 5 + 3, none⟩ = some (.string s) ∧ W.cell? ⟨b, off + i * 5 + 4, none⟩ = some (.slice A2 lay.length c2)) ∧
    Reads W W.heap.size 3 A2 lay.length (layV lay) ∧ lay.length ≤ maxLen := by
  subst hn
  obtain ⟨b, off, e, _, hc⟩ := reads_addr hr (by omega) (by decide)
  have e0 := fun j u (hj : j < 5) (hu : (l[i].1.cs l[i].2)[j]? = some u) => hc (i * 5 + j) u ((avV_at l i hi j hj).trans hu)
  obtain ⟨A2, c2, h2, hr2, hm2⟩ := hq l[i] (List.getElem_mem hi)
  generalize l[i] = y at *
  obtain ⟨⟨tag, num, bits, s, lay⟩, ch⟩ := y
  dsimp only at h2 hr2 hm2
  subst h2
  have q0 := e0 0 _ (by decide) rfl
  have q1 := e0 1 _ (by decide) rfl
  have q2 := e0 2 _ (by decide) rfl
  have q3 := e0 3 _ (by decide) rfl
  have q4 := e0 4 _ (by decide) rfl
  rw [Nat.add_zero] at q0
  rw [← Nat.add_assoc] at q1 q2 q3 q4
  exact ⟨b, off, tag, num, bits, s, lay, A2, c2, e, rfl, ⟨q0, q1, q2, q3, q4⟩, hr2, hm2⟩
/-- An act at place i. -/
theorem act_at {xs : List ActD} {A : Option Addr} {B n : Nat} (hn : n = xs.length) (hr : Reads W B 8 A n (xs.flatMap ActD.cs)) (hq : ∀ z ∈ xs, z.In W) (i : Nat) (hi : i < xs.length) : ∃ b off kind m tag num bits s lay A2 c2 l A3 c3, A = some ⟨b, off, none⟩ ∧
    xs[i] = ⟨kind, m, ((⟨tag, num, bits, s, lay⟩ : Val), Value.slice A2 lay.length c2), l, .slice A3 l.length c3⟩ ∧
    (W.cell? ⟨b, off + i * 8, none⟩ = some (.int .i64 kind) ∧ W.cell? ⟨b, off + i * 8 + 1, none⟩ = some (.int .i64 m) ∧
      W.cell? ⟨b, off + i * 8 + 2, none⟩ = some (.int .i64 tag) ∧ W.cell? ⟨b, off + i * 8 + 2 + 1, none⟩ = some (.int .i64 num) ∧ W.cell? ⟨b, off + i * 8 + 2 + 2, none⟩ = some (.int .u64 bits) ∧ W.cell? ⟨b, off + i * 8 + 2 + 3, none⟩ = some (.string s) ∧ W.cell? ⟨b, off + i * 8 + 2 + 4, none⟩ = some (.slice A2 lay.length c2) ∧
      W.cell? ⟨b, off + i * 8 + 7, none⟩ = some (.slice A3 l.length c3)) ∧
    (Reads W W.heap.size 3 A2 lay.length (layV lay) ∧ lay.length ≤ maxLen) ∧ (Reads W W.heap.size 5 A3 l.length (avV l) ∧ (∀ y ∈ l, InCh W y) ∧ l.length ≤ maxLen) := by
  subst hn
  obtain ⟨b, off, e, _, hc⟩ := reads_addr hr (by omega) (by decide)
  have e0 := fun j u (hj : j < 8) (hu : xs[i].cs[j]? = some u) => hc (i * 8 + j) u ((flat_at (f := ActD.cs) (C := 8) (fun _ => rfl) xs i j hi hj).trans hu)
  obtain ⟨⟨A2, c2, h2, hr2, hm2⟩, A3, c3, h3, hr3, hq3, hm3⟩ := hq xs[i] (List.getElem_mem hi)
  generalize xs[i] = y at *
  obtain ⟨kind, m, ⟨⟨tag, num, bits, s, lay⟩, ch⟩, l, ls⟩ := y
  dsimp only at h2 hr2 hm2 h3 hr3 hq3 hm3
  subst h2 h3
  have q0 := e0 0 _ (by decide) rfl
  have q1 := e0 1 _ (by decide) rfl
  have q2 := e0 2 _ (by decide) rfl
  have q3 := e0 3 _ (by decide) rfl
  have q4 := e0 4 _ (by decide) rfl
  have q5 := e0 5 _ (by decide) rfl
  have q6 := e0 6 _ (by decide) rfl
  have q7 := e0 7 _ (by decide) rfl
  rw [Nat.add_zero] at q0
  rw [← Nat.add_assoc] at q1 q2 q3 q4 q5 q6 q7
  exact ⟨b, off, kind, m, tag, num, bits, s, lay, A2, c2, l, A3, c3, e, rfl, ⟨q0, q1, q2, q3, q4, q5, q6, q7⟩, ⟨hr2, hm2⟩, hr3, hq3, hm3⟩
end
set_option maxRecDepth 100000 in
set_option maxHeartbeats 3200000 in
theorem long_any (xs : List ActD) (A : Option Addr) (c : Nat) (W : World) (hr : Reads W W.heap.size 8 A xs.length (xs.flatMap ActD.cs)) (hq : ∀ z ∈ xs, z.In W) (hm : xs.length ≤ maxLen) :
    Calls Try.prog 25 #[.slice A xs.length c] W fun e w' => e = .returned (.bool (longActs xs)) ∧ Below W.heap.size W w' := by
  unfold maxLen at hm
  obtain ⟨n, hn⟩ : ∃ n, n = xs.length := ⟨_, rfl⟩
  have HN := Lib.hid hn
  rw [← hn] at hm hr ⊢
  have HR := Lib.hid hr
  have HQ := Lib.hid hq
  clear hn hr hq
  go_enter Try.func25, Try.ntmps25
  go_wp2
  go_loopw [3] (fun ix wr => ∃ i : Nat, ix = .int .i64 i ∧ i ≤ n ∧ i ≤ 101 ∧ (xs.take i).any longAct = false ∧ Below W.heap.size W wr) (fun ix _ => n - (intOf ix).toNat)
  case atStart => exact ⟨0, rfl, Nat.zero_le _, Nat.zero_le _, rfl, Below.refl _ _⟩
  case round =>
    obtain ⟨i, rfl, hi, hi2, ha, hbl⟩ := hrel
    obtain ⟨wo, rfl⟩ : ∃ wo : World, wo = wr := ⟨_, rfl⟩
    have HA := Lib.hid ha
    have HB := Lib.hid hbl
    clear ha hbl
    by_cases hlt : i < n ∧ i < 101
    · obtain ⟨h1, h2⟩ := hlt
      have h1' : (i : Int) < (n : Int) := by omega
      have h2' : (i : Int) < 101 := by omega
      have hl1 : i < xs.length := by have := HN.out; omega
      obtain ⟨b, off, kind, m, tag, num, bits, s, lay, A2, c2, l, A3, c3, hA, he, ⟨p0, p1, p2, p3, p4, p5, p6, p7⟩, ⟨hr2, hm2⟩, hr3, hq3, hm3⟩ := act_at HN.out ((HR.out.below HB.out).more HB.out.size) (fun z hz => (HQ.out z hz).below HB.out) i hl1
      subst hA
      have HC := Lib.hid (longV_any ⟨tag, num, bits, s, lay⟩ A2 c2 wo hr2 hm2)
      have HE := Lib.hid he
      have HL := Lib.hid (And.intro hr3 hq3)
      unfold maxLen at hm3
      have hyes : longAct ⟨kind, m, ((⟨tag, num, bits, s, lay⟩ : Val), Value.slice A2 lay.length c2), l, .slice A3 l.length c3⟩ = true → longActs xs = true := fun h => by
        have h3 : (xs.take 101).any longAct = true := any_true_at hl1 h2 (by rw [HE.out]; exact h)
        simp [longActs, h3]
      have HY := Lib.hid hyes
      clear he hr2 hm2 hr3 hq3 hyes
      simp only [Val.go] at HC
      by_cases hv : longVal ⟨tag, num, bits, s, lay⟩ = true
      · rw [hv] at HC
        have HXX : Hid (longActs xs = true) := Lib.hid (HY.out (by simp [longAct, hv]))
        clear hv
        go_wp2_with fail
        refine HC.out.mono ?_
        rintro e w1 ⟨rfl, hb1⟩
        have HB2 := Lib.hid (HB.out.trans (hb1.mono HB.out.size))
        clear hb1 HC
        go_wp2
        go_ret
        exact ⟨by rw [HXX.out]; rfl, HB2.out⟩
      · have hvf : longVal ⟨tag, num, bits, s, lay⟩ = false := by simpa using hv
        rw [hvf] at HC
        have HVF := Lib.hid hvf
        clear hv hvf
        by_cases hmid : 10 < l.length ∧ l.length ≤ 200
        · have HXX : Hid (longActs xs = true) := Lib.hid (HY.out (by simp [longAct, hmid]))
          have g1 : (10 : Int) < (l.length : Int) := by omega
          have g2 : (l.length : Int) ≤ 200 := by omega
          clear hmid
          go_wp2_with fail
          refine HC.out.mono ?_
          rintro e w1 ⟨rfl, hb1⟩
          have HB2 := Lib.hid (HB.out.trans (hb1.mono HB.out.size))
          replace p7 := cell_below p7 hb1
          clear hb1 HC p0 p1 p2 p3 p4 p5 p6
          go_wp2
          go_ret
          exact ⟨by rw [HXX.out]; rfl, HB2.out⟩
        · have HMid := Lib.hid hmid
          have hll : l.length ≤ 9223372036854775807 := hm3
          obtain ⟨q, hqq⟩ : ∃ q, q = l.length := ⟨_, rfl⟩
          have HQQ := Lib.hid hqq
          have h75 : Hid ((10 : Int) < (q : Int) → ¬ (q : Int) ≤ 200) := Lib.hid fun g1 g2 => hmid ⟨by omega, by omega⟩
          rw [← hqq] at p7 hll
          have HL2 : Hid (Reads wo wo.heap.size 5 A3 q (avV l) ∧ ∀ y ∈ l, InCh wo y) := by rw [hqq]; exact HL
          clear hmid hqq
          go_wp2_with fail
          refine HC.out.mono ?_
          rintro e w1 ⟨rfl, hb1⟩
          have HB2 := Lib.hid (HB.out.trans (hb1.mono HB.out.size))
          have p7' := cell_below p7 hb1
          have HBw := Lib.hid hb1
          clear hb1 HC p0 p1 p2 p3 p4 p5 p6
          by_cases g1 : (10 : Int) < (q : Int)
          · have g2 := h75.out g1
            go_wp2_with fail
            go_loopw [4] (fun kx wr => ∃ k : Nat, kx = .int .i64 k ∧ k ≤ q ∧ k ≤ 10 ∧ (l.take k).any (fun y => longVal y.1) = false ∧ Below W.heap.size W wr ∧ Below wo.heap.size wo wr) (fun kx _ => q - (intOf kx).toNat)
            case atStart => exact ⟨0, rfl, Nat.zero_le _, Nat.zero_le _, rfl, HB2.out, HBw.out⟩
            case round =>
              obtain ⟨k, rfl, hk, hk2, hka, hz1, hz2⟩ := hrel
              have HKA := Lib.hid hka
              have HZ1 := Lib.hid hz1
              have HZ2 := Lib.hid hz2
              have r7 := cell_below p7 hz2
              clear hka hz1 hz2 p7'
              by_cases hkl : k < q ∧ k < 10
              · obtain ⟨k1, k2⟩ := hkl
                have k1' : (k : Int) < (q : Int) := by omega
                have k2' : (k : Int) < 10 := by omega
                have hkl2 : k < l.length := by have := HQQ.out; omega
                obtain ⟨b5, off5, tag5, num5, bits5, s5, lay5, A5, c5, hA5, he5, ⟨v0, v1, v2, v3, v4⟩, hr5, hm5⟩ := inv_at HQQ.out ((HL2.out.1.below HZ2.out).more HZ2.out.size) (fun y hy => (HL2.out.2 y hy).below HZ2.out) k hkl2
                subst hA5
                have HC5 := Lib.hid (longV_any ⟨tag5, num5, bits5, s5, lay5⟩ A5 c5 wr hr5 hm5)
                have HE5 := Lib.hid he5
                simp only [Val.go] at HC5
                clear he5 hr5 hm5
                by_cases hv5 : longVal ⟨tag5, num5, bits5, s5, lay5⟩ = true
                · rw [hv5] at HC5
                  have HXX : Hid (longActs xs = true) := Lib.hid (HY.out (by
                    have h : (l.take 10).any (fun y => longVal y.1) = true := any_true_at hkl2 k2 (by rw [HE5.out]; exact hv5)
                    simp [longAct, h]))
                  clear hv5
                  go_wp2_with fail
                  refine HC5.out.mono ?_
                  rintro e w5 ⟨rfl, hb5⟩
                  have HB5 := Lib.hid (HZ1.out.trans (hb5.mono HZ1.out.size))
                  clear hb5 HC5
                  go_wp2
                  go_ret
                  exact ⟨by rw [HXX.out]; rfl, HB5.out⟩
                · have hv5f : longVal ⟨tag5, num5, bits5, s5, lay5⟩ = false := by simpa using hv5
                  rw [hv5f] at HC5
                  have HVF5 := Lib.hid hv5f
                  clear hv5 hv5f
                  go_wp2_with fail
                  refine HC5.out.mono ?_
                  rintro e w5 ⟨rfl, hb5⟩
                  have HB5 := Lib.hid (And.intro (HZ1.out.trans (hb5.mono HZ1.out.size)) (HZ2.out.trans (hb5.mono HZ2.out.size)))
                  clear hb5 HC5
                  go_wp2
                  go_roundw
                  case rel => exact ⟨k + 1, by go_num, by omega, by omega, any_false_succ hkl2 HKA.out (by rw [HE5.out]; exact HVF5.out), HB5.out.1, HB5.out.2⟩
                  case measure => simp [intOf]; omega
              · have hno : Hid ((xs.take (i + 1)).any longAct = false) := by
                  refine Lib.hid (any_false_succ hl1 HA.out ?_)
                  rw [HE.out]
                  have h : (l.take 10).any (fun y => longVal y.1) = false := by
                    have h := HKA.out
                    by_cases h1 : k < q
                    · have : k = 10 := by omega
                      rw [this] at h; exact h
                    · have hkq : k = q := by omega
                      rw [List.take_of_length_le (by have := HQQ.out; omega)] at h
                      rw [List.take_of_length_le (by have := HQQ.out; omega)]
                      exact h
                  show (longVal ⟨tag, num, bits, s, lay⟩ || (decide (10 < l.length ∧ l.length ≤ 200) || (l.take 10).any fun y => longVal y.1)) = false
                  rw [HVF.out, h, decide_eq_false HMid.out]
                  rfl
                obtain rfl : k = 10 := by omega
                have k1' : ((10 : Nat) : Int) < (q : Int) := by omega
                go_wp2
                go_roundw
                case rel => exact ⟨i + 1, by go_num, by omega, by omega, hno.out, HZ1.out⟩
                case measure => simp [intOf]; omega
          · go_wp2_with fail
            go_loopw [4] (fun kx wr => ∃ k : Nat, kx = .int .i64 k ∧ k ≤ q ∧ k ≤ 10 ∧ (l.take k).any (fun y => longVal y.1) = false ∧ Below W.heap.size W wr ∧ Below wo.heap.size wo wr) (fun kx _ => q - (intOf kx).toNat)
            case atStart => exact ⟨0, rfl, Nat.zero_le _, Nat.zero_le _, rfl, HB2.out, HBw.out⟩
            case round =>
              obtain ⟨k, rfl, hk, hk2, hka, hz1, hz2⟩ := hrel
              have HKA := Lib.hid hka
              have HZ1 := Lib.hid hz1
              have HZ2 := Lib.hid hz2
              have r7 := cell_below p7 hz2
              clear hka hz1 hz2 p7'
              by_cases hkl : k < q ∧ k < 10
              · obtain ⟨k1, k2⟩ := hkl
                have k1' : (k : Int) < (q : Int) := by omega
                have k2' : (k : Int) < 10 := by omega
                have hkl2 : k < l.length := by have := HQQ.out; omega
                obtain ⟨b5, off5, tag5, num5, bits5, s5, lay5, A5, c5, hA5, he5, ⟨v0, v1, v2, v3, v4⟩, hr5, hm5⟩ := inv_at HQQ.out ((HL2.out.1.below HZ2.out).more HZ2.out.size) (fun y hy => (HL2.out.2 y hy).below HZ2.out) k hkl2
                subst hA5
                have HC5 := Lib.hid (longV_any ⟨tag5, num5, bits5, s5, lay5⟩ A5 c5 wr hr5 hm5)
                have HE5 := Lib.hid he5
                simp only [Val.go] at HC5
                clear he5 hr5 hm5
                by_cases hv5 : longVal ⟨tag5, num5, bits5, s5, lay5⟩ = true
                · rw [hv5] at HC5
                  have HXX : Hid (longActs xs = true) := Lib.hid (HY.out (by
                    have h : (l.take 10).any (fun y => longVal y.1) = true := any_true_at hkl2 k2 (by rw [HE5.out]; exact hv5)
                    simp [longAct, h]))
                  clear hv5
                  go_wp2_with fail
                  refine HC5.out.mono ?_
                  rintro e w5 ⟨rfl, hb5⟩
                  have HB5 := Lib.hid (HZ1.out.trans (hb5.mono HZ1.out.size))
                  clear hb5 HC5
                  go_wp2
                  go_ret
                  exact ⟨by rw [HXX.out]; rfl, HB5.out⟩
                · have hv5f : longVal ⟨tag5, num5, bits5, s5, lay5⟩ = false := by simpa using hv5
                  rw [hv5f] at HC5
                  have HVF5 := Lib.hid hv5f
                  clear hv5 hv5f
                  go_wp2_with fail
                  refine HC5.out.mono ?_
                  rintro e w5 ⟨rfl, hb5⟩
                  have HB5 := Lib.hid (And.intro (HZ1.out.trans (hb5.mono HZ1.out.size)) (HZ2.out.trans (hb5.mono HZ2.out.size)))
                  clear hb5 HC5
                  go_wp2
                  go_roundw
                  case rel => exact ⟨k + 1, by go_num, by omega, by omega, any_false_succ hkl2 HKA.out (by rw [HE5.out]; exact HVF5.out), HB5.out.1, HB5.out.2⟩
                  case measure => simp [intOf]; omega
              · have hno : Hid ((xs.take (i + 1)).any longAct = false) := by
                  refine Lib.hid (any_false_succ hl1 HA.out ?_)
                  rw [HE.out]
                  have h : (l.take 10).any (fun y => longVal y.1) = false := by
                    have h := HKA.out
                    by_cases h1 : k < q
                    · have : k = 10 := by omega
                      rw [this] at h; exact h
                    · have hkq : k = q := by omega
                      rw [List.take_of_length_le (by have := HQQ.out; omega)] at h
                      rw [List.take_of_length_le (by have := HQQ.out; omega)]
                      exact h
                  show (longVal ⟨tag, num, bits, s, lay⟩ || (decide (10 < l.length ∧ l.length ≤ 200) || (l.take 10).any fun y => longVal y.1)) = false
                  rw [HVF.out, h, decide_eq_false HMid.out]
                  rfl
                have k1' : ¬ (k : Int) < (q : Int) := by omega
                go_wp2
                go_roundw
                case rel => exact ⟨i + 1, by go_num, by omega, by omega, hno.out, HZ1.out⟩
                case measure => simp [intOf]; omega
    · have hall : Hid ((xs.take 101).any longAct = false) := by
        refine Lib.hid ?_
        have h := HA.out
        by_cases h1 : i < n
        · have : i = 101 := by omega
          rw [this] at h; exact h
        · have : i = n := by omega
          rw [List.take_of_length_le (by have := HN.out; omega)] at h ⊢
          exact h
      have HFin : Hid (∀ a : Bool, decide (100 < n) = a → longActs xs = a) := Lib.hid fun a ha => by
        show ((xs.take 101).any longAct || decide (100 < xs.length)) = _
        rw [hall.out, ← HN.out, ha]
        rfl
      by_cases h1 : i < n
      · obtain rfl : i = 101 := by omega
        have h1' : ((101 : Nat) : Int) < (n : Int) := by omega
        have h6 : (100 : Int) < (n : Int) := by omega
        have HXX : Hid (longActs xs = true) := Lib.hid (HFin.out true (decide_eq_true (by omega)))
        go_wp2
        go_ret
        exact ⟨by rw [HXX.out]; rfl, HB.out⟩
      · have h1' : ¬ (i : Int) < (n : Int) := by omega
        by_cases h6 : 100 < n
        · have h6i : (100 : Int) < (n : Int) := by omega
          have HXX : Hid (longActs xs = true) := Lib.hid (HFin.out true (decide_eq_true h6))
          go_wp2
          go_ret
          exact ⟨by rw [HXX.out]; rfl, HB.out⟩
        · have h6i : ¬ (100 : Int) < (n : Int) := by omega
          have HXX : Hid (longActs xs = false) := Lib.hid (HFin.out false (decide_eq_false h6))
          go_wp2
          go_ret
          exact ⟨by rw [HXX.out]; rfl, HB.out⟩
end Go.Proofs.Ytiaeckljpdhagaa
