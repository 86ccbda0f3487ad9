/- chaperonref22.many and below: what codec.many and below tell. Printed by gen_xmany.py. -/
import Derived.Test.YtcapdmicekialaaGreatCoMnAll
namespace Go.Proofs.YtcapdmicekialaaGreat
open Go.RowKit
set_option linter.unusedVariables false
set_option linter.unusedSimpArgs false
attribute [local go_sem] Oper.semAt_some run_store_func run_store_nilFunc
theorem take_all {α : Type} {p : α → Bool} {l : List α} {i : Nat} (hi : i < l.length) (h : ∀ y ∈ l.take i, p y = false) (hx : p l[i] = false) : ∀ y ∈ l.take (i + 1), p y = false := by
  intro y hy
  rw [List.take_succ_eq_append_getElem hi] at hy
  rcases List.mem_append.1 hy with hy | hy
  · exact h y hy
  · simp only [List.mem_singleton] at hy
    rw [hy]; exact hx
theorem any_yes {α : Type} {p : α → Bool} {l : List α} {i : Nat} (hi : i < l.length) (hx : p l[i] = true) : l.any p = true := List.any_eq_true.2 ⟨_, List.getElem_mem hi, hx⟩
theorem any_no {α : Type} {p : α → Bool} {l : List α} (h : ∀ y ∈ l.take l.length, p y = false) : l.any p = false := List.any_eq_false.2 fun y hy => by rw [h y (by rw [List.take_length]; exact hy)]; decide
set_option maxRecDepth 100000 in
set_option maxHeartbeats 6400000 in
theorem xmany_any {W : World} (cs : List Value) (m : Md) (h : mdK.tells W cs m) : Calls Tryz.prog 37 #[.agg cs.toArray] W (RetB (manyM m) W) := by
  obtain ⟨t, s, p, f, rfl, k1, k2, k3, k4⟩ := h
  obtain ⟨a1, c1, rfl, hl1⟩ := Kind.sl_form k1
  obtain ⟨a2, c2, rfl, hl2⟩ := Kind.sl_form k2
  obtain ⟨a3, c3, rfl, hl3⟩ := Kind.sl_form k3
  obtain ⟨a4, c4, rfl, hl4⟩ := Kind.sl_form k4
  have hb := (Below.refl W.heap.size W).alloc (Nat.le_refl _) (.cells #[.slice a1 m.table.length c1, .slice a2 m.sites.length c2, .slice a3 m.pool.length c3, .slice a4 m.funcs.length c4] 27)
  have HB := Lib.hid hb
  have H1 := Lib.hid (Kind.sl_below k1 hb)
  have H2 := Lib.hid (Kind.sl_below k2 hb)
  have H4 := Lib.hid (Kind.sl_below k4 hb)
  have HC : Hid (∀ w', Below (W.alloc (.cells #[.slice a1 m.table.length c1, .slice a2 m.sites.length c2, .slice a3 m.pool.length c3, .slice a4 m.funcs.length c4] 27)).heap.size (W.alloc (.cells #[.slice a1 m.table.length c1, .slice a2 m.sites.length c2, .slice a3 m.pool.length c3, .slice a4 m.funcs.length c4] 27)) w' → (w'.cell? ⟨W.heap.size, 0, none⟩ = some (.slice a1 m.table.length c1) ∧ w'.cell? ⟨W.heap.size, 1, none⟩ = some (.slice a2 m.sites.length c2) ∧ w'.cell? ⟨W.heap.size, 3, none⟩ = some (.slice a4 m.funcs.length c4)) ∧ Below W.heap.size W w') := Lib.hid fun w' h => by
    have hk := (Blk.new W 27 #[.slice a1 m.table.length c1, .slice a2 m.sites.length c2, .slice a3 m.pool.length c3, .slice a4 m.funcs.length c4]).below h (by simp)
    exact ⟨⟨hk.cell 0, hk.cell 1, hk.cell 3⟩, HB.out.trans (h.mono HB.out.size)⟩
  show Calls Tryz.prog 37 #[.agg #[.slice a1 m.table.length c1, .slice a2 m.sites.length c2, .slice a3 m.pool.length c3, .slice a4 m.funcs.length c4]] W _
  clear k1 k2 k3 k4 hb
  obtain ⟨n1, hn1⟩ : ∃ n, n = m.table.length := ⟨_, rfl⟩
  obtain ⟨n2, hn2⟩ : ∃ n, n = m.sites.length := ⟨_, rfl⟩
  obtain ⟨n3, hn3⟩ : ∃ n, n = m.pool.length := ⟨_, rfl⟩
  obtain ⟨n4, hn4⟩ : ∃ n, n = m.funcs.length := ⟨_, rfl⟩
  rw [← hn1, ← hn2, ← hn3, ← hn4] at HC HB H1 H2 H4
  rw [← hn1] at hl1
  rw [← hn2] at hl2
  rw [← hn3] at hl3
  rw [← hn4] at hl4
  rw [← hn1, ← hn2, ← hn3, ← hn4]
  have HN := Lib.hid (And.intro hn1 (And.intro hn2 (And.intro hn3 hn4)))
  clear hn1 hn2 hn3 hn4
  obtain ⟨res, hres⟩ : ∃ b, b = manyM m := ⟨_, rfl⟩
  rw [← hres]
  have HRes := Lib.hid hres
  clear hres
  obtain ⟨U, hU⟩ : ∃ U, U = W.alloc (.cells #[.slice a1 n1 c1, .slice a2 n2 c2, .slice a3 n3 c3, .slice a4 n4 c4] 27) := ⟨_, rfl⟩
  have HU := Lib.hid hU
  rw [← hU] at HC HB H1 H2 H4
  clear hU
  have HB0 : Hid (Below W.heap.size W (W.alloc (.cells #[.slice a1 n1 c1, .slice a2 n2 c2, .slice a3 n3 c3, .slice a4 n4 c4] 27))) := Lib.hid (by rw [← HU.out]; exact HB.out)
  by_cases g1 : (40 : Int) < (n1 : Int)
  · have HE : Hid (res = true) := Lib.hid (by rw [HRes.out]; unfold manyM; rw [← HN.out.1, ← HN.out.2.1, ← HN.out.2.2.1, ← HN.out.2.2.2, show decide (40 < n1) = true from decide_eq_true (by omega)]; simp)
    clear HC H1 H2 H4
    go_enter Tryz.func37, Tryz.ntmps37
    go_wp2
    go_ret
    exact ⟨by rw [HE.out]; rfl, HB0.out⟩
  by_cases g2 : (5000 : Int) < (n2 : Int)
  · have HE : Hid (res = true) := Lib.hid (by rw [HRes.out]; unfold manyM; rw [← HN.out.1, ← HN.out.2.1, ← HN.out.2.2.1, ← HN.out.2.2.2, show decide (5000 < n2) = true from decide_eq_true (by omega)]; simp)
    clear HC H1 H2 H4
    go_enter Tryz.func37, Tryz.ntmps37
    go_wp2
    go_ret
    exact ⟨by rw [HE.out]; rfl, HB0.out⟩
  by_cases g3 : (2000 : Int) < (n3 : Int)
  · have HE : Hid (res = true) := Lib.hid (by rw [HRes.out]; unfold manyM; rw [← HN.out.1, ← HN.out.2.1, ← HN.out.2.2.1, ← HN.out.2.2.2, show decide (2000 < n3) = true from decide_eq_true (by omega)]; simp)
    clear HC H1 H2 H4
    go_enter Tryz.func37, Tryz.ntmps37
    go_wp2
    go_ret
    exact ⟨by rw [HE.out]; rfl, HB0.out⟩
  by_cases g4 : (1000 : Int) < (n4 : Int)
  · have HE : Hid (res = true) := Lib.hid (by rw [HRes.out]; unfold manyM; rw [← HN.out.1, ← HN.out.2.1, ← HN.out.2.2.1, ← HN.out.2.2.2, show decide (1000 < n4) = true from decide_eq_true (by omega)]; simp)
    clear HC H1 H2 H4
    go_enter Tryz.func37, Tryz.ntmps37
    go_wp2
    go_ret
    exact ⟨by rw [HE.out]; rfl, HB0.out⟩
  have HM : Hid (manyM m = (m.table.any manyCl || m.funcs.any manyFu)) := Lib.hid (by unfold manyM; rw [← HN.out.1, ← HN.out.2.1, ← HN.out.2.2.1, ← HN.out.2.2.2, decide_eq_false (by omega), decide_eq_false (by omega), decide_eq_false (by omega), decide_eq_false (by omega)]; rfl)
  go_enter Tryz.func37, Tryz.ntmps37
  go_wp2_with fail
  go_loopw [3] (fun ix wr => ∃ i : Nat, ix = .int .i64 i ∧ i ≤ n1 ∧ (∀ y ∈ m.table.take i, manyCl y = false) ∧ Below U.heap.size U wr) (fun ix _ => n1 - (intOf ix).toNat)
  case atStart => exact ⟨0, rfl, Nat.zero_le _, (fun y hy => by simp at hy), by rw [HU.out]; exact Below.refl _ _⟩
  case round =>
    obtain ⟨i, rfl, hi, hall, hbr⟩ := hrel
    have HAll := Lib.hid hall
    have HR := Lib.hid hbr
    obtain ⟨⟨e0, e1, e3⟩, hbw⟩ := HC.out wr hbr
    have HW := Lib.hid hbw
    clear hall hbr hbw
    by_cases hlt : i < n1
    · have hlt' : (i : Int) < (n1 : Int) := by omega
      have hix : i < m.table.length := by have := HN.out.1; omega
      have hT1 := Kind.sl_below H1.out HR.out
      obtain ⟨b1, o1, d1, cs1, hv1, ht1, hat1⟩ := Kind.sl_at (v := .slice a1 n1 c1) (by have := HN.out.1; rw [this] at hT1 ⊢; exact hT1 : Kind.sl clK wr (.slice a1 n1 c1) m.table) (by decide) i hix
      obtain rfl : a1 = some ⟨b1, o1, none⟩ := by injection hv1
      have HTk := Lib.hid (fun h => take_all (p := manyCl) hix HAll.out h)
      have HAny := Lib.hid (fun h => any_yes (p := manyCl) hix h)
      generalize m.table[i] = x at *
      obtain ⟨fs, ms, rfl, _, _, f1, f3⟩ := ht1
      obtain ⟨A5, c5, rfl, hlf⟩ := Kind.sl_form f1
      obtain ⟨A7, c7, rfl, hlm⟩ := Kind.sl_form f3
      have p0 := hat1 0 _ rfl
      have p1 := hat1 1 _ rfl
      have p2 := hat1 2 _ rfl
      have p3 := hat1 3 _ rfl
      rw [show clK.size = 4 from rfl] at p0 p1 p2 p3
      rw [Nat.add_zero] at p0
      have hbA := (Below.refl wr.heap.size wr).alloc (Nat.le_refl _) (.cells #[.string x.name, .string x.super, .slice A5 x.fields.length c5, .slice A7 x.methods.length c7] 66)
      have HBA := Lib.hid (HW.out.trans (hbA.mono HW.out.size))
      have HBU := Lib.hid (HR.out.trans (hbA.mono HR.out.size))
      have HMt := Lib.hid (Kind.sl_below f3 hbA)
      have HK : Hid (∀ w', Below (wr.alloc (.cells #[.string x.name, .string x.super, .slice A5 x.fields.length c5, .slice A7 x.methods.length c7] 66)).heap.size (wr.alloc (.cells #[.string x.name, .string x.super, .slice A5 x.fields.length c5, .slice A7 x.methods.length c7] 66)) w' → w'.cell? ⟨wr.heap.size, 3, none⟩ = some (.slice A7 x.methods.length c7)) := Lib.hid fun w' h => cell_below ((Blk.new wr 66 #[.string x.name, .string x.super, .slice A5 x.fields.length c5, .slice A7 x.methods.length c7]).cell 3) h
      clear hat1 hv1 f1 f3 hbA hT1
      by_cases q1 : (20 : Int) < (x.fields.length : Int)
      · skip
        have HE : Hid (res = true) := Lib.hid (by rw [HRes.out, HM.out, HAny.out (by unfold manyCl; rw [show decide (20 < x.fields.length) = true from decide_eq_true (by omega)]; simp)]; rfl)
        clear HC
        go_wp2
        go_ret
        exact ⟨by rw [HE.out]; rfl, HBA.out⟩
      by_cases q2 : (20 : Int) < (x.methods.length : Int)
      · skip
        have HE : Hid (res = true) := Lib.hid (by rw [HRes.out, HM.out, HAny.out (by unfold manyCl; rw [show decide (20 < x.methods.length) = true from decide_eq_true (by omega)]; simp)]; rfl)
        clear HC
        go_wp2
        go_ret
        exact ⟨by rw [HE.out]; rfl, HBA.out⟩
      have HMc : Hid (manyCl x = x.methods.any manySg) := Lib.hid (by unfold manyCl; rw [decide_eq_false (by omega), decide_eq_false (by omega)]; rfl)
      obtain ⟨q, hq⟩ : ∃ q, q = x.methods.length := ⟨_, rfl⟩
      have HQ := Lib.hid hq
      have HK2 : Hid (∀ w', Below (wr.alloc (.cells #[.string x.name, .string x.super, .slice A5 x.fields.length c5, .slice A7 q c7] 66)).heap.size (wr.alloc (.cells #[.string x.name, .string x.super, .slice A5 x.fields.length c5, .slice A7 q c7] 66)) w' → w'.cell? ⟨wr.heap.size, 3, none⟩ = some (.slice A7 q c7)) := Lib.hid (by rw [hq]; exact HK.out)
      rw [← hq] at p3 hlm HBA HBU HMt q2
      clear hq HK
      obtain ⟨V, hV⟩ : ∃ V, V = wr.alloc (.cells #[.string x.name, .string x.super, .slice A5 x.fields.length c5, .slice A7 q c7] 66) := ⟨_, rfl⟩
      have HV := Lib.hid hV
      rw [← hV] at HBA HBU HMt HK2
      clear hV
      obtain ⟨wo, hwo⟩ : ∃ wo, wo = wr := ⟨_, rfl⟩
      subst hwo
      go_wp2_with fail
      clear p0 p1 p2 p3 e0 e1 e3
      go_loopw [5] (fun ix wq => ∃ k : Nat, ix = .int .i64 k ∧ k ≤ q ∧ (∀ y ∈ x.methods.take k, manySg y = false) ∧ Below V.heap.size V wq) (fun ix _ => q - (intOf ix).toNat)
      case atStart => exact ⟨0, rfl, Nat.zero_le _, (fun y hy => by simp at hy), by rw [HV.out]; exact Below.refl _ _⟩
      case round =>
        obtain ⟨k, rfl, hk, hal2, hbq⟩ := hrel
        have HAl2 := Lib.hid hal2
        have HRq := Lib.hid hbq
        have k3 := HK2.out wr hbq
        have HWq := Lib.hid (HBA.out.trans (hbq.mono HBA.out.size))
        have HUq := Lib.hid (HBU.out.trans (hbq.mono HBU.out.size))
        clear hal2 hbq
        by_cases hkt : k < q
        · have hkt' : (k : Int) < (q : Int) := by omega
          have hkx : k < x.methods.length := by have := HQ.out; omega
          have hT2 := Kind.sl_below HMt.out HRq.out
          obtain ⟨b2, o2, d2, cs2, hv2, ht2, hat2⟩ := Kind.sl_at (by have := HQ.out; rw [this] at hT2 ⊢; exact hT2 : Kind.sl sgK wr (.slice A7 q c7) x.methods) (by decide) k hkx
          obtain rfl : A7 = some ⟨b2, o2, none⟩ := by injection hv2
          have HTk2 := Lib.hid (fun h => take_all (p := manySg) hkx HAl2.out h)
          have HAny2 := Lib.hid (fun h => any_yes (p := manySg) hkx h)
          generalize x.methods[k] = y at *
          obtain ⟨ps, rfl, _, _, g3'⟩ := ht2
          obtain ⟨A9, c9, rfl, _⟩ := Kind.sl_form g3'
          have r1 := hat2 1 _ rfl
          rw [show sgK.size = 3 from rfl] at r1
          clear hat2 hv2 g3' hT2
          by_cases q3 : (8 : Int) < (y.params.length : Int)
          · skip
            have HE : Hid (res = true) := Lib.hid (by rw [HRes.out, HM.out, HAny.out (by rw [HMc.out]; exact HAny2.out (decide_eq_true (by omega)))]; rfl)
            clear HC
            go_wp2
            go_ret
            exact ⟨by rw [HE.out]; rfl, HWq.out⟩
          have HT3 := Lib.hid (HTk2.out (decide_eq_false (by omega)))
          go_wp2
          go_roundw
          case rel => exact ⟨k + 1, by go_num, by omega, HT3.out, HRq.out⟩
          case measure => simp [intOf]; omega
        · have hkt' : ¬ (k : Int) < (q : Int) := by omega
          have HT3 := Lib.hid (HTk.out (by rw [HMc.out]; exact any_no (by have h := HAl2.out; rw [show k = x.methods.length by have := HQ.out; omega] at h; exact h)))
          go_wp2
          go_roundw
          case rel => exact ⟨i + 1, by go_num, by omega, HT3.out, HUq.out⟩
          case measure => simp [intOf]; omega
    · have hlt' : ¬ (i : Int) < (n1 : Int) := by omega
      have HA1 : Hid (m.table.any manyCl = false) := Lib.hid (any_no (by have h := HAll.out; rw [show i = m.table.length by have := HN.out.1; omega] at h; exact h))
      clear HAll
      obtain ⟨wo, hwo⟩ : ∃ wo, wo = wr := ⟨_, rfl⟩
      subst hwo
      go_wp2_with fail
      clear e0 e1 e3
      go_loopw [6] (fun ix wq => ∃ k : Nat, ix = .int .i64 k ∧ k ≤ n4 ∧ (∀ y ∈ m.funcs.take k, manyFu y = false) ∧ wq = wo) (fun ix _ => n4 - (intOf ix).toNat)
      case atStart => exact ⟨0, rfl, Nat.zero_le _, (fun y hy => by simp at hy), rfl⟩
      case round =>
        obtain ⟨k, rfl, hk, hal2, hwq⟩ := hrel
        have HAl2 := Lib.hid hal2
        subst hwq
        obtain ⟨⟨e0, e1, e3⟩, _⟩ := HC.out _ HR.out
        clear hal2
        by_cases hkt : k < n4
        · have hkt' : (k : Int) < (n4 : Int) := by omega
          have hkx : k < m.funcs.length := by have := HN.out.2.2.2; omega
          have hT2 := Kind.sl_below H4.out HR.out
          obtain ⟨b2, o2, d2, cs2, hv2, ht2, hat2⟩ := Kind.sl_at (by have := HN.out.2.2.2; rw [this] at hT2 ⊢; exact hT2 : Kind.sl fuK _ (.slice a4 n4 c4) m.funcs) (by decide) k hkx
          obtain rfl : a4 = some ⟨b2, o2, none⟩ := by injection hv2
          have HTk2 := Lib.hid (fun h => take_all (p := manyFu) hkx HAl2.out h)
          have HAny2 := Lib.hid (fun h => any_yes (p := manyFu) hkx h)
          generalize m.funcs[k] = y at *
          obtain ⟨ls, cd, rfl, _, _, y3, y4⟩ := ht2
          obtain ⟨A9, c9, rfl, _⟩ := Kind.sl_form y3
          obtain ⟨A8, c8, rfl, _⟩ := Kind.sl_form y4
          have r2 := hat2 2 _ rfl
          have r3 := hat2 3 _ rfl
          rw [show fuK.size = 4 from rfl] at r2 r3
          clear hat2 hv2 y3 y4 hT2
          by_cases q3 : (200 : Int) < (y.locals.length : Int)
          · have HE : Hid (res = true) := Lib.hid (by rw [HRes.out, HM.out, HAny2.out (by unfold manyFu; rw [show decide (200 < y.locals.length) = true from decide_eq_true (by omega)]; simp)]; simp)
            clear HC
            go_wp2
            go_ret
            exact ⟨by rw [HE.out]; rfl, HW.out⟩
          by_cases q4 : (20000 : Int) < (y.code.length : Int)
          · have HE : Hid (res = true) := Lib.hid (by rw [HRes.out, HM.out, HAny2.out (by unfold manyFu; rw [show decide (20000 < y.code.length) = true from decide_eq_true (by omega)]; simp)]; simp)
            clear HC
            go_wp2
            go_ret
            exact ⟨by rw [HE.out]; rfl, HW.out⟩
          have HT3 := Lib.hid (HTk2.out (by unfold manyFu; rw [decide_eq_false (by omega), decide_eq_false (by omega)]; rfl))
          go_wp2
          go_roundw
          case rel => exact ⟨k + 1, by go_num, by omega, HT3.out, by first | rfl | trivial⟩
          case measure => simp [intOf]; omega
        · have hkt' : ¬ (k : Int) < (n4 : Int) := by omega
          have HE : Hid (res = false) := Lib.hid (by rw [HRes.out, HM.out, HA1.out, any_no (p := manyFu) (by have h := HAl2.out; rw [show k = m.funcs.length by have := HN.out.2.2.2; omega] at h; exact h)]; rfl)
          clear HC
          go_wp2
          go_ret
          exact ⟨by rw [HE.out]; rfl, HW.out⟩
set_option maxRecDepth 100000 in
set_option maxHeartbeats 6400000 in
theorem xbelow_any {W : World} (cs : List Value) (m : Md) (h : mdK.tells W cs m) : Calls Tryz.prog 38 #[.agg cs.toArray] W (RetB (belowM m) W) := by
  obtain ⟨t, s, p, f, rfl, k1, k2, k3, k4⟩ := h
  obtain ⟨a1, c1, rfl, hl1⟩ := Kind.sl_form k1
  obtain ⟨a2, c2, rfl, hl2⟩ := Kind.sl_form k2
  obtain ⟨a3, c3, rfl, hl3⟩ := Kind.sl_form k3
  obtain ⟨a4, c4, rfl, hl4⟩ := Kind.sl_form k4
  have hb := (Below.refl W.heap.size W).alloc (Nat.le_refl _) (.cells #[.slice a1 m.table.length c1, .slice a2 m.sites.length c2, .slice a3 m.pool.length c3, .slice a4 m.funcs.length c4] 27)
  have HB := Lib.hid hb
  have H1 := Lib.hid (Kind.sl_below k1 hb)
  have H2 := Lib.hid (Kind.sl_below k2 hb)
  have H4 := Lib.hid (Kind.sl_below k4 hb)
  have HC : Hid (∀ w', Below (W.alloc (.cells #[.slice a1 m.table.length c1, .slice a2 m.sites.length c2, .slice a3 m.pool.length c3, .slice a4 m.funcs.length c4] 27)).heap.size (W.alloc (.cells #[.slice a1 m.table.length c1, .slice a2 m.sites.length c2, .slice a3 m.pool.length c3, .slice a4 m.funcs.length c4] 27)) w' → (w'.cell? ⟨W.heap.size, 0, none⟩ = some (.slice a1 m.table.length c1) ∧ w'.cell? ⟨W.heap.size, 1, none⟩ = some (.slice a2 m.sites.length c2) ∧ w'.cell? ⟨W.heap.size, 3, none⟩ = some (.slice a4 m.funcs.length c4)) ∧ Below W.heap.size W w') := Lib.hid fun w' h => by
    have hk := (Blk.new W 27 #[.slice a1 m.table.length c1, .slice a2 m.sites.length c2, .slice a3 m.pool.length c3, .slice a4 m.funcs.length c4]).below h (by simp)
    exact ⟨⟨hk.cell 0, hk.cell 1, hk.cell 3⟩, HB.out.trans (h.mono HB.out.size)⟩
  show Calls Tryz.prog 38 #[.agg #[.slice a1 m.table.length c1, .slice a2 m.sites.length c2, .slice a3 m.pool.length c3, .slice a4 m.funcs.length c4]] W _
  clear k1 k2 k3 k4 hb
  obtain ⟨n1, hn1⟩ : ∃ n, n = m.table.length := ⟨_, rfl⟩
  obtain ⟨n2, hn2⟩ : ∃ n, n = m.sites.length := ⟨_, rfl⟩
  obtain ⟨n3, hn3⟩ : ∃ n, n = m.pool.length := ⟨_, rfl⟩
  obtain ⟨n4, hn4⟩ : ∃ n, n = m.funcs.length := ⟨_, rfl⟩
  rw [← hn1, ← hn2, ← hn3, ← hn4] at HC HB H1 H2 H4
  rw [← hn1] at hl1
  rw [← hn2] at hl2
  rw [← hn3] at hl3
  rw [← hn4] at hl4
  rw [← hn1, ← hn2, ← hn3, ← hn4]
  have HN := Lib.hid (And.intro hn1 (And.intro hn2 (And.intro hn3 hn4)))
  clear hn1 hn2 hn3 hn4
  obtain ⟨res, hres⟩ : ∃ b, b = belowM m := ⟨_, rfl⟩
  rw [← hres]
  have HRes := Lib.hid hres
  clear hres
  obtain ⟨U, hU⟩ : ∃ U, U = W.alloc (.cells #[.slice a1 n1 c1, .slice a2 n2 c2, .slice a3 n3 c3, .slice a4 n4 c4] 27) := ⟨_, rfl⟩
  have HU := Lib.hid hU
  rw [← hU] at HC HB H1 H2 H4
  clear hU
  have HM : Hid (belowM m = (m.sites.any belowSt || m.funcs.any belowFu)) := Lib.hid rfl
  go_enter Tryz.func38, Tryz.ntmps38
  go_wp2_with fail
  go_loopw [3] (fun ix wr => ∃ i : Nat, ix = .int .i64 i ∧ i ≤ n2 ∧ (∀ y ∈ m.sites.take i, belowSt y = false) ∧ Below U.heap.size U wr) (fun ix _ => n2 - (intOf ix).toNat)
  case atStart => exact ⟨0, rfl, Nat.zero_le _, (fun y hy => by simp at hy), by rw [HU.out]; exact Below.refl _ _⟩
  case round =>
    obtain ⟨i, rfl, hi, hall, hbr⟩ := hrel
    have HAll := Lib.hid hall
    have HR := Lib.hid hbr
    obtain ⟨⟨e0, e1, e3⟩, hbw⟩ := HC.out wr hbr
    have HW := Lib.hid hbw
    clear hall hbr hbw
    by_cases hlt : i < n2
    · have hlt' : (i : Int) < (n2 : Int) := by omega
      have hix : i < m.sites.length := by have := HN.out.2.1; omega
      have hT1 := Kind.sl_below H2.out HR.out
      obtain ⟨b1, o1, d1, cs1, hv1, ht1, hat1⟩ := Kind.sl_at (by have := HN.out.2.1; rw [this] at hT1 ⊢; exact hT1 : Kind.sl stK wr (.slice a2 n2 c2) m.sites) (by decide) i hix
      obtain rfl : a2 = some ⟨b1, o1, none⟩ := by injection hv1
      have HTk := Lib.hid (fun h => take_all (p := belowSt) hix HAll.out h)
      have HAny := Lib.hid (fun h => any_yes (p := belowSt) hix h)
      generalize m.sites[i] = x at *
      obtain ⟨rfl, _⟩ := ht1
      have p0 := hat1 0 _ rfl
      rw [show stK.size = 3 from rfl] at p0
      rw [Nat.add_zero] at p0
      clear hat1 hv1 hT1
      by_cases q1 : x.what < 0
      · have HE : Hid (res = true) := Lib.hid (by rw [HRes.out, HM.out, HAny.out (decide_eq_true q1)]; rfl)
        clear HC
        go_wp2
        go_ret
        exact ⟨by rw [HE.out]; rfl, HW.out⟩
      have HT3 := Lib.hid (HTk.out (decide_eq_false q1))
      go_wp2
      go_roundw
      case rel => exact ⟨i + 1, by go_num, by omega, HT3.out, HR.out⟩
      case measure => simp [intOf]; omega
    · have hlt' : ¬ (i : Int) < (n2 : Int) := by omega
      have HA1 : Hid (m.sites.any belowSt = false) := Lib.hid (any_no (by have h := HAll.out; rw [show i = m.sites.length by have := HN.out.2.1; omega] at h; exact h))
      clear HAll
      obtain ⟨wo, hwo⟩ : ∃ wo, wo = wr := ⟨_, rfl⟩
      subst hwo
      go_wp2_with fail
      clear e0 e1 e3
      go_loopw [4] (fun ix wq => ∃ k : Nat, ix = .int .i64 k ∧ k ≤ n4 ∧ (∀ y ∈ m.funcs.take k, belowFu y = false) ∧ wq = wo) (fun ix _ => n4 - (intOf ix).toNat)
      case atStart => exact ⟨0, rfl, Nat.zero_le _, (fun y hy => by simp at hy), rfl⟩
      case round =>
        obtain ⟨k, rfl, hk, hal2, hwq⟩ := hrel
        have HAl2 := Lib.hid hal2
        subst hwq
        obtain ⟨⟨e0, e1, e3⟩, _⟩ := HC.out _ HR.out
        clear hal2
        by_cases hkt : k < n4
        · have hkt' : (k : Int) < (n4 : Int) := by omega
          have hkx : k < m.funcs.length := by have := HN.out.2.2.2; omega
          have hT2 := Kind.sl_below H4.out HR.out
          obtain ⟨b2, o2, d2, cs2, hv2, ht2, hat2⟩ := Kind.sl_at (by have := HN.out.2.2.2; rw [this] at hT2 ⊢; exact hT2 : Kind.sl fuK _ (.slice a4 n4 c4) m.funcs) (by decide) k hkx
          obtain rfl : a4 = some ⟨b2, o2, none⟩ := by injection hv2
          have HTk2 := Lib.hid (fun h => take_all (p := belowFu) hkx HAl2.out h)
          have HAny2 := Lib.hid (fun h => any_yes (p := belowFu) hkx h)
          generalize m.funcs[k] = y at *
          obtain ⟨ls, cd, rfl, _, _, y3, y4⟩ := ht2
          obtain ⟨A8, c8, rfl, hlc⟩ := Kind.sl_form y4
          have r3 := hat2 3 _ rfl
          rw [show fuK.size = 4 from rfl] at r3
          have HCd := Lib.hid y4
          clear hat2 hv2 y3 y4 hT2
          obtain ⟨q, hq⟩ : ∃ q, q = y.code.length := ⟨_, rfl⟩
          have HQ := Lib.hid hq
          rw [← hq] at r3 hlc HCd
          clear hq
          obtain ⟨wi, hwi⟩ : ∃ wi, wi = wr := ⟨_, rfl⟩
          subst hwi
          have HFy : Hid (belowFu y = y.code.any belowIn) := Lib.hid rfl
          go_wp2_with fail
          go_loopw [5] (fun ix wq => ∃ j : Nat, ix = .int .i64 j ∧ j ≤ q ∧ (∀ z ∈ y.code.take j, belowIn z = false) ∧ wq = wi) (fun ix _ => q - (intOf ix).toNat)
          case atStart => exact ⟨0, rfl, Nat.zero_le _, (fun z hz => by simp at hz), rfl⟩
          case round =>
            obtain ⟨j, rfl, hj, hal3, hwj⟩ := hrel
            have HAl3 := Lib.hid hal3
            subst hwj
            clear hal3
            by_cases hjt : j < q
            · have hjt' : (j : Int) < (q : Int) := by omega
              have hjx : j < y.code.length := by have := HQ.out; omega
              have hT3 := HCd.out
              obtain ⟨b3, o3, d3, cs3, hv3, ht3, hat3⟩ := Kind.sl_at (by have := HQ.out; rw [this] at hT3 ⊢; exact hT3 : Kind.sl inK _ (.slice A8 q c8) y.code) (by decide) j hjx
              obtain rfl : A8 = some ⟨b3, o3, none⟩ := by injection hv3
              have HTk3 := Lib.hid (fun h => take_all (p := belowIn) hjx HAl3.out h)
              have HAny3 := Lib.hid (fun h => any_yes (p := belowIn) hjx h)
              generalize y.code[j] = z at *
              obtain ⟨rfl, _⟩ := ht3
              have s0 := hat3 0 _ rfl
              rw [show inK.size = 4 from rfl] at s0
              rw [Nat.add_zero] at s0
              clear hat3 hv3 hT3
              by_cases q1 : z.op < 0
              · have HE : Hid (res = true) := Lib.hid (by rw [HRes.out, HM.out, HAny2.out (by rw [HFy.out]; exact HAny3.out (decide_eq_true q1))]; simp)
                clear HC
                go_wp2
                go_ret
                exact ⟨by rw [HE.out]; rfl, HW.out⟩
              have HT3 := Lib.hid (HTk3.out (decide_eq_false q1))
              go_wp2
              go_roundw
              case rel => exact ⟨j + 1, by go_num, by omega, HT3.out, by first | rfl | trivial⟩
              case measure => simp [intOf]; omega
            · have hjt' : ¬ (j : Int) < (q : Int) := by omega
              have HT3 := Lib.hid (HTk2.out (by rw [HFy.out]; exact any_no (by have h := HAl3.out; rw [show j = y.code.length by have := HQ.out; omega] at h; exact h)))
              go_wp2
              go_roundw
              case rel => exact ⟨k + 1, by go_num, by omega, HT3.out, by first | rfl | trivial⟩
              case measure => simp [intOf]; omega
        · have hkt' : ¬ (k : Int) < (n4 : Int) := by omega
          have HE : Hid (res = false) := Lib.hid (by rw [HRes.out, HM.out, HA1.out, any_no (p := belowFu) (by have h := HAl2.out; rw [show k = m.funcs.length by have := HN.out.2.2.2; omega] at h; exact h)]; rfl)
          clear HC
          go_wp2
          go_ret
          exact ⟨by rw [HE.out]; rfl, HW.out⟩
end Go.Proofs.YtcapdmicekialaaGreat
