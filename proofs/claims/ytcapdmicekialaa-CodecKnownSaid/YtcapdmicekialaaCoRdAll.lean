/- Merged by merge.py: CoList, CoRdIn, CoRd3. -/
import Derived.Test.YtcapdmicekialaaCoRd2
import Derived.Test.YtcapdmicekialaaOcKnown
/- codec.list at seven types. Printed by gen_list.py. -/
namespace Go.Proofs.Ytcapdmicekialaa
open Go.RowKit
set_option linter.unusedVariables false
set_option linter.unusedSimpArgs false
attribute [local go_sem] Oper.semAt_some run_store_func run_store_nilFunc
/-- What a list comes to. -/
def RdS {α : Type} {K : Kind α} (T : TK K) (t : TypeId) (N : Nat) (w0 : World) (R : Thing) (p : Nat) (bs : List UInt8) (r : Except (Int × Int) (List α × RS)) (e : Ending) (w' : World) : Prop :=
  match r with
  | .ok (l, s') => s'.2.1 = 0 ∧ ∃ A c, e = .returned (.slice A l.length c) ∧ Lies N w0 w' (sepT (crT p bs s') (sepT (T.slT t (.slice A l.length c) l) R))
  | .error f => e = .panicked [{ v := wrongV f, recovered := false }] ∧ ∃ s', Lies N w0 w' (sepT (crT p bs s') R)
theorem times_succ {α : Type} (one : Rdr α) (n i : Nat) (h : i < n) (acc : List α) (s : RS) : timesR one (n - i) acc s = (one.bind fun a => timesR one (n - (i + 1)) (acc ++ [a])) s := by
  rw [show n - i = (n - (i + 1)) + 1 by omega]; rfl
theorem cells_arr (w : World) (cs : Array Value) (t : TypeId) : ∀ j u, cs.toList[j]? = some u → (w.alloc (.cells cs t)).cell? ((⟨w.heap.size, 0, none⟩ : Addr).add j) = some u := by
  intro j u hj
  rw [show (⟨w.heap.size, 0, none⟩ : Addr).add j = ⟨w.heap.size, j, none⟩ from by unfold Addr.add; split <;> simp_all]
  rw [(Blk.new w t cs).cell j]
  simpa using hj
theorem gro_form {W : World} {base e size n : Nat} {v : Value} {xs : List Value} (h : W.ownsRow base e size v n xs) : ∃ A c, v = .slice A n c ∧ True := by
  rcases h.2 with ⟨rfl, hn⟩ | ⟨g, cap, cur, rfl, _⟩
  · rw [hn]; exact ⟨none, 0, rfl, trivial⟩
  · exact ⟨_, cap, rfl, trivial⟩
section
variable {N : Nat} {w0 W : World} {R M : Thing} {p : Nat} {bs : List UInt8} {s : RS}
theorem info_lVr : (Try.prog.info? 151).map (fun i => (i.zero, i.size, i.bytes)) = some (some (.agg #[.string ⟨#[]⟩, .string ⟨#[]⟩]), 2, 32) := by kernel_rfl
set_option maxRecDepth 100000 in
set_option maxHeartbeats 1600000 in
theorem listVr_any (fn : FuncId) (one : Rdr Vr) (most : Nat) (hm : most ≤ 100000) (he : ∀ args (w : World), (callFunc fn args).run Try.prog w = .ok (.enter fn args) w)
    (hone : ∀ W' s' R', s'.2.1 = 0 → Lies N w0 W' (sepT (crT p bs s') R') → Calls Try.prog fn #[.pointer (some ⟨p, 0, none⟩)] W' (RdT N w0 R' p bs vrT.el (one s')))
    (hs : s.2.1 = 0) (H : Lies N w0 W (sepT (crT p bs s) R)) :
    Calls Try.prog 101 #[.pointer (some ⟨p, 0, none⟩), .int .i64 most, .func (.func fn) #[.pointer (some ⟨p, 0, none⟩)] #[]] W (RdS vrT 151 N w0 R p bs (listR bs most one s)) := by
  obtain ⟨res, hres⟩ : ∃ r, r = listR bs most one s := ⟨_, rfl⟩
  rw [← hres]
  have HC := Lib.hid (rnum_any hs H)
  have HO := Lib.hid hone
  have HRes := Lib.hid hres
  clear H hone hres hs
  go_enter Try.func101, Try.ntmps101
  go_wp2_with fail
  refine HC.out.mono ?_
  intro e w1 hr
  clear HC
  unfold RdP at hr
  rcases h1 : numR bs s with f | ⟨⟨n, at_⟩, s1⟩ <;> rw [h1] at hr
  · obtain ⟨rfl, k, h⟩ := hr
    have HE : Hid (res = .error f) := Lib.hid (by rw [HRes.out]; unfold listR; rw [bind_err h1])
    have HF := Lib.hid h
    clear h h1
    go_wp2_with fail
    refine ⟨rfl, ?_⟩
    rw [HE.out]
    exact ⟨rfl, _, HF.out⟩
  · obtain ⟨rfl, h⟩ := hr
    have HZ1 := Lib.hid (numR_ok h1).2
    have HF := Lib.hid h
    by_cases hnm : n ≤ most
    · have HE : Hid (res = timesR one n [] s1) := Lib.hid (by rw [HRes.out]; unfold listR; rw [bind_ok h1]; show Rdr.bind (mustR (decide (n ≤ most)) 12 _) _ _ = _; rw [decide_eq_true hnm]; rfl)
      have hnm' : (n : Int) ≤ (most : Int) := by omega
      have hdec : decide ((n : Int) ≤ (most : Int)) = true := by simpa using hnm
      have hn : n ≤ 100000 := Nat.le_trans hnm hm
      clear h h1 HRes
      go_wp2_with fail
      refine (must_yes _ _ _).mono ?_
      rintro e w2 ⟨rfl, rfl⟩
      have HG := Lib.hid (vrT.gro_nil 151 HF.out)
      clear HF hdec hnm'
      go_wp2_with fail
      go_loopw [6, 20] (fun out ix wr => ∃ (i : Nat) (A : Option Addr) (c : Nat) (css : List (List Value)) (acc : List Vr) (si : RS), out = .slice A i c ∧ ix = .int .i64 i ∧ i ≤ n ∧ acc.length = i ∧ si.2.1 = 0 ∧ timesR one (n - i) acc si = res ∧ Lies N w0 wr (sepT (crT p bs si) (sepT (vrT.gro 151 (.slice A i c) css acc) R))) (fun _ ix _ => n - (intOf ix).toNat)
      case atStart => exact ⟨0, none, 0, [], [], s1, rfl, rfl, Nat.zero_le _, rfl, HZ1.out, HE.out.symm, HG.out.turn (by ac_rfl)⟩
      case round =>
        clear HG HE
        obtain ⟨i, A, c, css, acc, si, rfl, rfl, hi, hacc, hsi, ht, hh⟩ := hrel
        by_cases hlt : i < n
        · have hlt' : (i : Int) < (n : Int) := by omega
          rw [times_succ one n i hlt] at ht
          have HT := Lib.hid ht
          have HC := Lib.hid (HO.out _ si _ hsi hh)
          have HA := Lib.hid hacc
          clear hh ht hacc hsi HZ1
          go_wp2_with fail
          refine HC.out.mono ?_
          intro e w2 hr
          clear HC
          unfold RdT at hr
          rcases h2 : one si with f | ⟨x, s2⟩ <;> rw [h2] at hr
          · obtain ⟨rfl, k, h⟩ := hr
            have HE : Hid (res = .error f) := Lib.hid (by rw [← HT.out, bind_err h2])
            have HF := Lib.hid (h.turn (a' := sepT (vrT.gro 151 (.slice A i c) css acc) (sepT (crT p bs k) R)) (by ac_rfl)).drop
            clear h h2
            go_wp2_with fail
            refine ⟨rfl, ?_⟩
            rw [HE.out]
            exact ⟨rfl, _, HF.out⟩
          · obtain ⟨hs2, cs, hE, h⟩ := hr
            have HE : Hid (timesR one (n - (i + 1)) (acc ++ [x]) s2 = res) := Lib.hid (by rw [← HT.out, bind_ok h2])
            have HS2 := Lib.hid hs2
            have HF := Lib.hid (h.turn (a' := sepT (vrT.gro 151 (.slice A i c) css acc) (sepT (vrT.el cs x) (sepT (crT p bs s2) R))) (by ac_rfl))
            obtain ⟨⟨rfl, _⟩, _⟩ := Lies.fact (φ := cs = [.string x.1, .string x.2] ∧ sz x.1 ∧ sz x.2) (h.turn (a' := sepT (vrT.el cs x) (sepT (crT p bs s2) (sepT (vrT.gro 151 (.slice A i c) css acc) R))) (by ac_rfl))
            have hE' : e = .returned (.agg #[.string x.1, .string x.2]) := hE
            subst hE'
            clear h h2 hs2 hE
            have hrow := vrT.gro_row HF.out
            rw [HA.out] at hrow
            have HR := Lib.hid hrow
            obtain ⟨i0, hi0, hz0, hz1, hz2⟩ := info_parts info_lVr
            clear hrow
            go_wp2_with (at_builtin; refine wpList_append_own_at _ rfl (.tmp 22) (.tmp 25) 92 rfl 0 151 i0 (.agg #[.string ⟨#[]⟩, .string ⟨#[]⟩]) 2 32 Try.underlying92 hi0 hz0 hz1 hz2 rfl (by decide) (.slice A i c) i _ rfl (HR.out.alloc _) ⟨w2.heap.size, 0, none⟩ 1 1 [.string x.1, .string x.2] rfl rfl (cells_arr _ #[.string x.1, .string x.2] _) (by simp [Value.oneCell']) (by simp only [maxLen]; omega) (by omega) (Nat.zero_le _) ?_; intro v' w4 hown' hgrow _ hat; obtain ⟨B', d', rfl, _⟩ := gro_form hown')
            refine ⟨⟨i + 1, B', d', css ++ [[.string x.1, .string x.2]], acc ++ [x], s2, rfl, by go_num, by omega, by rw [List.length_append, HA.out]; rfl, HS2.out, HE.out, (vrT.gro_app (HF.out.alloc _) (by rw [HA.out]; exact hown') hgrow hat).turn (by ac_rfl)⟩, by simp [intOf]; omega⟩
        · have hlt' : ¬ (i : Int) < (n : Int) := by omega
          obtain rfl : i = n := by omega
          rw [Nat.sub_self] at ht
          have HE : Hid (res = .ok (acc, si)) := Lib.hid ht.symm
          have HF := Lib.hid (vrT.gro_sl (by omega) (hh.turn (a' := sepT (vrT.gro 151 (.slice A i c) css acc) (sepT (crT p bs si) R)) (by ac_rfl)))
          have HS := Lib.hid hsi
          clear hh ht hsi HZ1
          have HA := Lib.hid hacc
          clear hacc
          go_wp2_with fail
          go_ret
          rw [HE.out]
          refine ⟨HS.out, A, c, by rw [HA.out]; rfl, ?_⟩
          rw [HA.out]
          exact HF.out.turn (by ac_rfl)
    · have HE : Hid (res = .error (12, (at_ : Int))) := Lib.hid (by rw [HRes.out]; unfold listR; rw [bind_ok h1]; show Rdr.bind (mustR (decide (n ≤ most)) 12 _) _ _ = _; rw [decide_eq_false hnm]; rfl)
      have hnm' : ¬ (n : Int) ≤ (most : Int) := by omega
      have hdec : decide ((n : Int) ≤ (most : Int)) = false := by simpa using hnm
      clear h h1 HRes
      go_wp2_with fail
      refine (must_no _ _ _).mono ?_
      rintro e w2 ⟨rfl, rfl⟩
      go_wp2_with fail
      refine ⟨rfl, ?_⟩
      rw [HE.out]
      exact ⟨rfl, _, HF.out⟩
theorem sg_form {cs : List Value} {x : Sg} (H : Lies N w0 W (sepT (sgT.el cs x) R)) : ∃ A c, cs = [.string x.name, .slice A x.params.length c, .string x.result] := by
  obtain ⟨ps, H⟩ := H.ex
  rw [sepT_assoc] at H
  obtain ⟨⟨rfl, _⟩, H2⟩ := H.fact
  obtain ⟨A, c, rfl, _⟩ := vrT.sl_form H2
  exact ⟨A, c, rfl⟩
theorem info_lSg : (Try.prog.info? 136).map (fun i => (i.zero, i.size, i.bytes)) = some (some (.agg #[.string ⟨#[]⟩, .slice none 0 0, .string ⟨#[]⟩]), 3, 56) := by kernel_rfl
set_option maxRecDepth 100000 in
set_option maxHeartbeats 1600000 in
theorem listSg_any (fn : FuncId) (one : Rdr Sg) (most : Nat) (hm : most ≤ 100000) (he : ∀ args (w : World), (callFunc fn args).run Try.prog w = .ok (.enter fn args) w)
    (hone : ∀ W' s' R', s'.2.1 = 0 → Lies N w0 W' (sepT (crT p bs s') R') → Calls Try.prog fn #[.pointer (some ⟨p, 0, none⟩)] W' (RdT N w0 R' p bs sgT.el (one s')))
    (hs : s.2.1 = 0) (H : Lies N w0 W (sepT (crT p bs s) R)) :
    Calls Try.prog 103 #[.pointer (some ⟨p, 0, none⟩), .int .i64 most, .func (.func fn) #[.pointer (some ⟨p, 0, none⟩)] #[]] W (RdS sgT 136 N w0 R p bs (listR bs most one s)) := by
  obtain ⟨res, hres⟩ : ∃ r, r = listR bs most one s := ⟨_, rfl⟩
  rw [← hres]
  have HC := Lib.hid (rnum_any hs H)
  have HO := Lib.hid hone
  have HRes := Lib.hid hres
  clear H hone hres hs
  go_enter Try.func103, Try.ntmps103
  go_wp2_with fail
  refine HC.out.mono ?_
  intro e w1 hr
  clear HC
  unfold RdP at hr
  rcases h1 : numR bs s with f | ⟨⟨n, at_⟩, s1⟩ <;> rw [h1] at hr
  · obtain ⟨rfl, k, h⟩ := hr
    have HE : Hid (res = .error f) := Lib.hid (by rw [HRes.out]; unfold listR; rw [bind_err h1])
    have HF := Lib.hid h
    clear h h1
    go_wp2_with fail
    refine ⟨rfl, ?_⟩
    rw [HE.out]
    exact ⟨rfl, _, HF.out⟩
  · obtain ⟨rfl, h⟩ := hr
    have HZ1 := Lib.hid (numR_ok h1).2
    have HF := Lib.hid h
    by_cases hnm : n ≤ most
    · have HE : Hid (res = timesR one n [] s1) := Lib.hid (by rw [HRes.out]; unfold listR; rw [bind_ok h1]; show Rdr.bind (mustR (decide (n ≤ most)) 12 _) _ _ = _; rw [decide_eq_true hnm]; rfl)
      have hnm' : (n : Int) ≤ (most : Int) := by omega
      have hdec : decide ((n : Int) ≤ (most : Int)) = true := by simpa using hnm
      have hn : n ≤ 100000 := Nat.le_trans hnm hm
      clear h h1 HRes
      go_wp2_with fail
      refine (must_yes _ _ _).mono ?_
      rintro e w2 ⟨rfl, rfl⟩
      have HG := Lib.hid (sgT.gro_nil 136 HF.out)
      clear HF hdec hnm'
      go_wp2_with fail
      go_loopw [6, 20] (fun out ix wr => ∃ (i : Nat) (A : Option Addr) (c : Nat) (css : List (List Value)) (acc : List Sg) (si : RS), out = .slice A i c ∧ ix = .int .i64 i ∧ i ≤ n ∧ acc.length = i ∧ si.2.1 = 0 ∧ timesR one (n - i) acc si = res ∧ Lies N w0 wr (sepT (crT p bs si) (sepT (sgT.gro 136 (.slice A i c) css acc) R))) (fun _ ix _ => n - (intOf ix).toNat)
      case atStart => exact ⟨0, none, 0, [], [], s1, rfl, rfl, Nat.zero_le _, rfl, HZ1.out, HE.out.symm, HG.out.turn (by ac_rfl)⟩
      case round =>
        clear HG HE
        obtain ⟨i, A, c, css, acc, si, rfl, rfl, hi, hacc, hsi, ht, hh⟩ := hrel
        by_cases hlt : i < n
        · have hlt' : (i : Int) < (n : Int) := by omega
          rw [times_succ one n i hlt] at ht
          have HT := Lib.hid ht
          have HC := Lib.hid (HO.out _ si _ hsi hh)
          have HA := Lib.hid hacc
          clear hh ht hacc hsi HZ1
          go_wp2_with fail
          refine HC.out.mono ?_
          intro e w2 hr
          clear HC
          unfold RdT at hr
          rcases h2 : one si with f | ⟨x, s2⟩ <;> rw [h2] at hr
          · obtain ⟨rfl, k, h⟩ := hr
            have HE : Hid (res = .error f) := Lib.hid (by rw [← HT.out, bind_err h2])
            have HF := Lib.hid (h.turn (a' := sepT (sgT.gro 136 (.slice A i c) css acc) (sepT (crT p bs k) R)) (by ac_rfl)).drop
            clear h h2
            go_wp2_with fail
            refine ⟨rfl, ?_⟩
            rw [HE.out]
            exact ⟨rfl, _, HF.out⟩
          · obtain ⟨hs2, cs, hE, h⟩ := hr
            have HE : Hid (timesR one (n - (i + 1)) (acc ++ [x]) s2 = res) := Lib.hid (by rw [← HT.out, bind_ok h2])
            have HS2 := Lib.hid hs2
            have HF := Lib.hid (h.turn (a' := sepT (sgT.gro 136 (.slice A i c) css acc) (sepT (sgT.el cs x) (sepT (crT p bs s2) R))) (by ac_rfl))
            obtain ⟨A2, c2, rfl⟩ := sg_form (h.turn (a' := sepT (sgT.el cs x) (sepT (crT p bs s2) (sepT (sgT.gro 136 (.slice A i c) css acc) R))) (by ac_rfl))
            have hE' : e = .returned (.agg #[.string x.name, .slice A2 x.params.length c2, .string x.result]) := hE
            subst hE'
            clear h h2 hs2 hE
            have hrow := sgT.gro_row HF.out
            rw [HA.out] at hrow
            have HR := Lib.hid hrow
            obtain ⟨i0, hi0, hz0, hz1, hz2⟩ := info_parts info_lSg
            clear hrow
            go_wp2_with (at_builtin; refine wpList_append_own_at _ rfl (.tmp 22) (.tmp 25) 93 rfl 0 136 i0 (.agg #[.string ⟨#[]⟩, .slice none 0 0, .string ⟨#[]⟩]) 3 56 Try.underlying93 hi0 hz0 hz1 hz2 rfl (by decide) (.slice A i c) i _ rfl (HR.out.alloc _) ⟨w2.heap.size, 0, none⟩ 1 1 [.string x.name, .slice A2 x.params.length c2, .string x.result] rfl rfl (cells_arr _ #[.string x.name, .slice A2 x.params.length c2, .string x.result] _) (by simp [Value.oneCell']) (by simp only [maxLen]; omega) (by omega) (Nat.zero_le _) ?_; intro v' w4 hown' hgrow _ hat; obtain ⟨B', d', rfl, _⟩ := gro_form hown')
            refine ⟨⟨i + 1, B', d', css ++ [[.string x.name, .slice A2 x.params.length c2, .string x.result]], acc ++ [x], s2, rfl, by go_num, by omega, by rw [List.length_append, HA.out]; rfl, HS2.out, HE.out, (sgT.gro_app (HF.out.alloc _) (by rw [HA.out]; exact hown') hgrow hat).turn (by ac_rfl)⟩, by simp [intOf]; omega⟩
        · have hlt' : ¬ (i : Int) < (n : Int) := by omega
          obtain rfl : i = n := by omega
          rw [Nat.sub_self] at ht
          have HE : Hid (res = .ok (acc, si)) := Lib.hid ht.symm
          have HF := Lib.hid (sgT.gro_sl (by omega) (hh.turn (a' := sepT (sgT.gro 136 (.slice A i c) css acc) (sepT (crT p bs si) R)) (by ac_rfl)))
          have HS := Lib.hid hsi
          clear hh ht hsi HZ1
          have HA := Lib.hid hacc
          clear hacc
          go_wp2_with fail
          go_ret
          rw [HE.out]
          refine ⟨HS.out, A, c, by rw [HA.out]; rfl, ?_⟩
          rw [HA.out]
          exact HF.out.turn (by ac_rfl)
    · have HE : Hid (res = .error (12, (at_ : Int))) := Lib.hid (by rw [HRes.out]; unfold listR; rw [bind_ok h1]; show Rdr.bind (mustR (decide (n ≤ most)) 12 _) _ _ = _; rw [decide_eq_false hnm]; rfl)
      have hnm' : ¬ (n : Int) ≤ (most : Int) := by omega
      have hdec : decide ((n : Int) ≤ (most : Int)) = false := by simpa using hnm
      clear h h1 HRes
      go_wp2_with fail
      refine (must_no _ _ _).mono ?_
      rintro e w2 ⟨rfl, rfl⟩
      go_wp2_with fail
      refine ⟨rfl, ?_⟩
      rw [HE.out]
      exact ⟨rfl, _, HF.out⟩
theorem cl_form {cs : List Value} {x : Cl} (H : Lies N w0 W (sepT (clT.el cs x) R)) : ∃ A c B d, cs = [.string x.name, .string x.super, .slice A x.fields.length c, .slice B x.methods.length d] := by
  obtain ⟨⟨p, q⟩, H⟩ := H.ex
  rw [sepT_assoc] at H
  obtain ⟨⟨rfl, _⟩, H2⟩ := H.fact
  rw [sepT_assoc] at H2
  obtain ⟨A, c, h1, _⟩ := vrT.sl_form H2
  obtain ⟨B, d, h2, _⟩ := sgT.sl_form H2.drop
  simp only at h1 h2
  subst h1 h2
  exact ⟨A, c, B, d, rfl⟩
theorem info_lCl : (Try.prog.info? 95).map (fun i => (i.zero, i.size, i.bytes)) = some (some (.agg #[.string ⟨#[]⟩, .string ⟨#[]⟩, .slice none 0 0, .slice none 0 0]), 4, 80) := by kernel_rfl
set_option maxRecDepth 100000 in
set_option maxHeartbeats 1600000 in
theorem listCl_any (fn : FuncId) (one : Rdr Cl) (most : Nat) (hm : most ≤ 100000) (he : ∀ args (w : World), (callFunc fn args).run Try.prog w = .ok (.enter fn args) w)
    (hone : ∀ W' s' R', s'.2.1 = 0 → Lies N w0 W' (sepT (crT p bs s') R') → Calls Try.prog fn #[.pointer (some ⟨p, 0, none⟩)] W' (RdT N w0 R' p bs clT.el (one s')))
    (hs : s.2.1 = 0) (H : Lies N w0 W (sepT (crT p bs s) R)) :
    Calls Try.prog 66 #[.pointer (some ⟨p, 0, none⟩), .int .i64 most, .func (.func fn) #[.pointer (some ⟨p, 0, none⟩)] #[]] W (RdS clT 95 N w0 R p bs (listR bs most one s)) := by
  obtain ⟨res, hres⟩ : ∃ r, r = listR bs most one s := ⟨_, rfl⟩
  rw [← hres]
  have HC := Lib.hid (rnum_any hs H)
  have HO := Lib.hid hone
  have HRes := Lib.hid hres
  clear H hone hres hs
  go_enter Try.func66, Try.ntmps66
  go_wp2_with fail
  refine HC.out.mono ?_
  intro e w1 hr
  clear HC
  unfold RdP at hr
  rcases h1 : numR bs s with f | ⟨⟨n, at_⟩, s1⟩ <;> rw [h1] at hr
  · obtain ⟨rfl, k, h⟩ := hr
    have HE : Hid (res = .error f) := Lib.hid (by rw [HRes.out]; unfold listR; rw [bind_err h1])
    have HF := Lib.hid h
    clear h h1
    go_wp2_with fail
    refine ⟨rfl, ?_⟩
    rw [HE.out]
    exact ⟨rfl, _, HF.out⟩
  · obtain ⟨rfl, h⟩ := hr
    have HZ1 := Lib.hid (numR_ok h1).2
    have HF := Lib.hid h
    by_cases hnm : n ≤ most
    · have HE : Hid (res = timesR one n [] s1) := Lib.hid (by rw [HRes.out]; unfold listR; rw [bind_ok h1]; show Rdr.bind (mustR (decide (n ≤ most)) 12 _) _ _ = _; rw [decide_eq_true hnm]; rfl)
      have hnm' : (n : Int) ≤ (most : Int) := by omega
      have hdec : decide ((n : Int) ≤ (most : Int)) = true := by simpa using hnm
      have hn : n ≤ 100000 := Nat.le_trans hnm hm
      clear h h1 HRes
      go_wp2_with fail
      refine (must_yes _ _ _).mono ?_
      rintro e w2 ⟨rfl, rfl⟩
      have HG := Lib.hid (clT.gro_nil 95 HF.out)
      clear HF hdec hnm'
      go_wp2_with fail
      go_loopw [6, 20] (fun out ix wr => ∃ (i : Nat) (A : Option Addr) (c : Nat) (css : List (List Value)) (acc : List Cl) (si : RS), out = .slice A i c ∧ ix = .int .i64 i ∧ i ≤ n ∧ acc.length = i ∧ si.2.1 = 0 ∧ timesR one (n - i) acc si = res ∧ Lies N w0 wr (sepT (crT p bs si) (sepT (clT.gro 95 (.slice A i c) css acc) R))) (fun _ ix _ => n - (intOf ix).toNat)
      case atStart => exact ⟨0, none, 0, [], [], s1, rfl, rfl, Nat.zero_le _, rfl, HZ1.out, HE.out.symm, HG.out.turn (by ac_rfl)⟩
      case round =>
        clear HG HE
        obtain ⟨i, A, c, css, acc, si, rfl, rfl, hi, hacc, hsi, ht, hh⟩ := hrel
        by_cases hlt : i < n
        · have hlt' : (i : Int) < (n : Int) := by omega
          rw [times_succ one n i hlt] at ht
          have HT := Lib.hid ht
          have HC := Lib.hid (HO.out _ si _ hsi hh)
          have HA := Lib.hid hacc
          clear hh ht hacc hsi HZ1
          go_wp2_with fail
          refine HC.out.mono ?_
          intro e w2 hr
          clear HC
          unfold RdT at hr
          rcases h2 : one si with f | ⟨x, s2⟩ <;> rw [h2] at hr
          · obtain ⟨rfl, k, h⟩ := hr
            have HE : Hid (res = .error f) := Lib.hid (by rw [← HT.out, bind_err h2])
            have HF := Lib.hid (h.turn (a' := sepT (clT.gro 95 (.slice A i c) css acc) (sepT (crT p bs k) R)) (by ac_rfl)).drop
            clear h h2
            go_wp2_with fail
            refine ⟨rfl, ?_⟩
            rw [HE.out]
            exact ⟨rfl, _, HF.out⟩
          · obtain ⟨hs2, cs, hE, h⟩ := hr
            have HE : Hid (timesR one (n - (i + 1)) (acc ++ [x]) s2 = res) := Lib.hid (by rw [← HT.out, bind_ok h2])
            have HS2 := Lib.hid hs2
            have HF := Lib.hid (h.turn (a' := sepT (clT.gro 95 (.slice A i c) css acc) (sepT (clT.el cs x) (sepT (crT p bs s2) R))) (by ac_rfl))
            obtain ⟨A2, c2, A3, c3, rfl⟩ := cl_form (h.turn (a' := sepT (clT.el cs x) (sepT (crT p bs s2) (sepT (clT.gro 95 (.slice A i c) css acc) R))) (by ac_rfl))
            have hE' : e = .returned (.agg #[.string x.name, .string x.super, .slice A2 x.fields.length c2, .slice A3 x.methods.length c3]) := hE
            subst hE'
            clear h h2 hs2 hE
            have hrow := clT.gro_row HF.out
            rw [HA.out] at hrow
            have HR := Lib.hid hrow
            obtain ⟨i0, hi0, hz0, hz1, hz2⟩ := info_parts info_lCl
            clear hrow
            go_wp2_with (at_builtin; refine wpList_append_own_at _ rfl (.tmp 22) (.tmp 25) 63 rfl 0 95 i0 (.agg #[.string ⟨#[]⟩, .string ⟨#[]⟩, .slice none 0 0, .slice none 0 0]) 4 80 Try.underlying63 hi0 hz0 hz1 hz2 rfl (by decide) (.slice A i c) i _ rfl (HR.out.alloc _) ⟨w2.heap.size, 0, none⟩ 1 1 [.string x.name, .string x.super, .slice A2 x.fields.length c2, .slice A3 x.methods.length c3] rfl rfl (cells_arr _ #[.string x.name, .string x.super, .slice A2 x.fields.length c2, .slice A3 x.methods.length c3] _) (by simp [Value.oneCell']) (by simp only [maxLen]; omega) (by omega) (Nat.zero_le _) ?_; intro v' w4 hown' hgrow _ hat; obtain ⟨B', d', rfl, _⟩ := gro_form hown')
            refine ⟨⟨i + 1, B', d', css ++ [[.string x.name, .string x.super, .slice A2 x.fields.length c2, .slice A3 x.methods.length c3]], acc ++ [x], s2, rfl, by go_num, by omega, by rw [List.length_append, HA.out]; rfl, HS2.out, HE.out, (clT.gro_app (HF.out.alloc _) (by rw [HA.out]; exact hown') hgrow hat).turn (by ac_rfl)⟩, by simp [intOf]; omega⟩
        · have hlt' : ¬ (i : Int) < (n : Int) := by omega
          obtain rfl : i = n := by omega
          rw [Nat.sub_self] at ht
          have HE : Hid (res = .ok (acc, si)) := Lib.hid ht.symm
          have HF := Lib.hid (clT.gro_sl (by omega) (hh.turn (a' := sepT (clT.gro 95 (.slice A i c) css acc) (sepT (crT p bs si) R)) (by ac_rfl)))
          have HS := Lib.hid hsi
          clear hh ht hsi HZ1
          have HA := Lib.hid hacc
          clear hacc
          go_wp2_with fail
          go_ret
          rw [HE.out]
          refine ⟨HS.out, A, c, by rw [HA.out]; rfl, ?_⟩
          rw [HA.out]
          exact HF.out.turn (by ac_rfl)
    · have HE : Hid (res = .error (12, (at_ : Int))) := Lib.hid (by rw [HRes.out]; unfold listR; rw [bind_ok h1]; show Rdr.bind (mustR (decide (n ≤ most)) 12 _) _ _ = _; rw [decide_eq_false hnm]; rfl)
      have hnm' : ¬ (n : Int) ≤ (most : Int) := by omega
      have hdec : decide ((n : Int) ≤ (most : Int)) = false := by simpa using hnm
      clear h h1 HRes
      go_wp2_with fail
      refine (must_no _ _ _).mono ?_
      rintro e w2 ⟨rfl, rfl⟩
      go_wp2_with fail
      refine ⟨rfl, ?_⟩
      rw [HE.out]
      exact ⟨rfl, _, HF.out⟩
theorem info_lSt : (Try.prog.info? 99).map (fun i => (i.zero, i.size, i.bytes)) = some (some (.agg #[.int .i64 0, .string ⟨#[]⟩, .string ⟨#[]⟩]), 3, 40) := by kernel_rfl
set_option maxRecDepth 100000 in
set_option maxHeartbeats 1600000 in
theorem listSt_any (fn : FuncId) (one : Rdr St) (most : Nat) (hm : most ≤ 100000) (he : ∀ args (w : World), (callFunc fn args).run Try.prog w = .ok (.enter fn args) w)
    (hone : ∀ W' s' R', s'.2.1 = 0 → Lies N w0 W' (sepT (crT p bs s') R') → Calls Try.prog fn #[.pointer (some ⟨p, 0, none⟩)] W' (RdT N w0 R' p bs stT.el (one s')))
    (hs : s.2.1 = 0) (H : Lies N w0 W (sepT (crT p bs s) R)) :
    Calls Try.prog 68 #[.pointer (some ⟨p, 0, none⟩), .int .i64 most, .func (.func fn) #[.pointer (some ⟨p, 0, none⟩)] #[]] W (RdS stT 99 N w0 R p bs (listR bs most one s)) := by
  obtain ⟨res, hres⟩ : ∃ r, r = listR bs most one s := ⟨_, rfl⟩
  rw [← hres]
  have HC := Lib.hid (rnum_any hs H)
  have HO := Lib.hid hone
  have HRes := Lib.hid hres
  clear H hone hres hs
  go_enter Try.func68, Try.ntmps68
  go_wp2_with fail
  refine HC.out.mono ?_
  intro e w1 hr
  clear HC
  unfold RdP at hr
  rcases h1 : numR bs s with f | ⟨⟨n, at_⟩, s1⟩ <;> rw [h1] at hr
  · obtain ⟨rfl, k, h⟩ := hr
    have HE : Hid (res = .error f) := Lib.hid (by rw [HRes.out]; unfold listR; rw [bind_err h1])
    have HF := Lib.hid h
    clear h h1
    go_wp2_with fail
    refine ⟨rfl, ?_⟩
    rw [HE.out]
    exact ⟨rfl, _, HF.out⟩
  · obtain ⟨rfl, h⟩ := hr
    have HZ1 := Lib.hid (numR_ok h1).2
    have HF := Lib.hid h
    by_cases hnm : n ≤ most
    · have HE : Hid (res = timesR one n [] s1) := Lib.hid (by rw [HRes.out]; unfold listR; rw [bind_ok h1]; show Rdr.bind (mustR (decide (n ≤ most)) 12 _) _ _ = _; rw [decide_eq_true hnm]; rfl)
      have hnm' : (n : Int) ≤ (most : Int) := by omega
      have hdec : decide ((n : Int) ≤ (most : Int)) = true := by simpa using hnm
      have hn : n ≤ 100000 := Nat.le_trans hnm hm
      clear h h1 HRes
      go_wp2_with fail
      refine (must_yes _ _ _).mono ?_
      rintro e w2 ⟨rfl, rfl⟩
      have HG := Lib.hid (stT.gro_nil 99 HF.out)
      clear HF hdec hnm'
      go_wp2_with fail
      go_loopw [6, 20] (fun out ix wr => ∃ (i : Nat) (A : Option Addr) (c : Nat) (css : List (List Value)) (acc : List St) (si : RS), out = .slice A i c ∧ ix = .int .i64 i ∧ i ≤ n ∧ acc.length = i ∧ si.2.1 = 0 ∧ timesR one (n - i) acc si = res ∧ Lies N w0 wr (sepT (crT p bs si) (sepT (stT.gro 99 (.slice A i c) css acc) R))) (fun _ ix _ => n - (intOf ix).toNat)
      case atStart => exact ⟨0, none, 0, [], [], s1, rfl, rfl, Nat.zero_le _, rfl, HZ1.out, HE.out.symm, HG.out.turn (by ac_rfl)⟩
      case round =>
        clear HG HE
        obtain ⟨i, A, c, css, acc, si, rfl, rfl, hi, hacc, hsi, ht, hh⟩ := hrel
        by_cases hlt : i < n
        · have hlt' : (i : Int) < (n : Int) := by omega
          rw [times_succ one n i hlt] at ht
          have HT := Lib.hid ht
          have HC := Lib.hid (HO.out _ si _ hsi hh)
          have HA := Lib.hid hacc
          clear hh ht hacc hsi HZ1
          go_wp2_with fail
          refine HC.out.mono ?_
          intro e w2 hr
          clear HC
          unfold RdT at hr
          rcases h2 : one si with f | ⟨x, s2⟩ <;> rw [h2] at hr
          · obtain ⟨rfl, k, h⟩ := hr
            have HE : Hid (res = .error f) := Lib.hid (by rw [← HT.out, bind_err h2])
            have HF := Lib.hid (h.turn (a' := sepT (stT.gro 99 (.slice A i c) css acc) (sepT (crT p bs k) R)) (by ac_rfl)).drop
            clear h h2
            go_wp2_with fail
            refine ⟨rfl, ?_⟩
            rw [HE.out]
            exact ⟨rfl, _, HF.out⟩
          · obtain ⟨hs2, cs, hE, h⟩ := hr
            have HE : Hid (timesR one (n - (i + 1)) (acc ++ [x]) s2 = res) := Lib.hid (by rw [← HT.out, bind_ok h2])
            have HS2 := Lib.hid hs2
            have HF := Lib.hid (h.turn (a' := sepT (stT.gro 99 (.slice A i c) css acc) (sepT (stT.el cs x) (sepT (crT p bs s2) R))) (by ac_rfl))
            obtain ⟨⟨rfl, _⟩, _⟩ := Lies.fact (φ := cs = [.int .i64 x.what, .string x.src, .string x.dst] ∧ iz x.what ∧ sz x.src ∧ sz x.dst) (h.turn (a' := sepT (stT.el cs x) (sepT (crT p bs s2) (sepT (stT.gro 99 (.slice A i c) css acc) R))) (by ac_rfl))
            have hE' : e = .returned (.agg #[.int .i64 x.what, .string x.src, .string x.dst]) := hE
            subst hE'
            clear h h2 hs2 hE
            have hrow := stT.gro_row HF.out
            rw [HA.out] at hrow
            have HR := Lib.hid hrow
            obtain ⟨i0, hi0, hz0, hz1, hz2⟩ := info_parts info_lSt
            clear hrow
            go_wp2_with (at_builtin; refine wpList_append_own_at _ rfl (.tmp 22) (.tmp 25) 64 rfl 0 99 i0 (.agg #[.int .i64 0, .string ⟨#[]⟩, .string ⟨#[]⟩]) 3 40 Try.underlying64 hi0 hz0 hz1 hz2 rfl (by decide) (.slice A i c) i _ rfl (HR.out.alloc _) ⟨w2.heap.size, 0, none⟩ 1 1 [.int .i64 x.what, .string x.src, .string x.dst] rfl rfl (cells_arr _ #[.int .i64 x.what, .string x.src, .string x.dst] _) (by simp [Value.oneCell']) (by simp only [maxLen]; omega) (by omega) (Nat.zero_le _) ?_; intro v' w4 hown' hgrow _ hat; obtain ⟨B', d', rfl, _⟩ := gro_form hown')
            refine ⟨⟨i + 1, B', d', css ++ [[.int .i64 x.what, .string x.src, .string x.dst]], acc ++ [x], s2, rfl, by go_num, by omega, by rw [List.length_append, HA.out]; rfl, HS2.out, HE.out, (stT.gro_app (HF.out.alloc _) (by rw [HA.out]; exact hown') hgrow hat).turn (by ac_rfl)⟩, by simp [intOf]; omega⟩
        · have hlt' : ¬ (i : Int) < (n : Int) := by omega
          obtain rfl : i = n := by omega
          rw [Nat.sub_self] at ht
          have HE : Hid (res = .ok (acc, si)) := Lib.hid ht.symm
          have HF := Lib.hid (stT.gro_sl (by omega) (hh.turn (a' := sepT (stT.gro 99 (.slice A i c) css acc) (sepT (crT p bs si) R)) (by ac_rfl)))
          have HS := Lib.hid hsi
          clear hh ht hsi HZ1
          have HA := Lib.hid hacc
          clear hacc
          go_wp2_with fail
          go_ret
          rw [HE.out]
          refine ⟨HS.out, A, c, by rw [HA.out]; rfl, ?_⟩
          rw [HA.out]
          exact HF.out.turn (by ac_rfl)
    · have HE : Hid (res = .error (12, (at_ : Int))) := Lib.hid (by rw [HRes.out]; unfold listR; rw [bind_ok h1]; show Rdr.bind (mustR (decide (n ≤ most)) 12 _) _ _ = _; rw [decide_eq_false hnm]; rfl)
      have hnm' : ¬ (n : Int) ≤ (most : Int) := by omega
      have hdec : decide ((n : Int) ≤ (most : Int)) = false := by simpa using hnm
      clear h h1 HRes
      go_wp2_with fail
      refine (must_no _ _ _).mono ?_
      rintro e w2 ⟨rfl, rfl⟩
      go_wp2_with fail
      refine ⟨rfl, ?_⟩
      rw [HE.out]
      exact ⟨rfl, _, HF.out⟩
theorem info_lIn : (Try.prog.info? 146).map (fun i => (i.zero, i.size, i.bytes)) = some (some (.agg #[.int .i64 0, .int .i64 0, .int .i64 0, .int .i64 0]), 4, 32) := by kernel_rfl
set_option maxRecDepth 100000 in
set_option maxHeartbeats 1600000 in
theorem listIn_any (fn : FuncId) (one : Rdr In) (most : Nat) (hm : most ≤ 100000) (he : ∀ args (w : World), (callFunc fn args).run Try.prog w = .ok (.enter fn args) w)
    (hone : ∀ W' s' R', s'.2.1 = 0 → Lies N w0 W' (sepT (crT p bs s') R') → Calls Try.prog fn #[.pointer (some ⟨p, 0, none⟩)] W' (RdT N w0 R' p bs inT.el (one s')))
    (hs : s.2.1 = 0) (H : Lies N w0 W (sepT (crT p bs s) R)) :
    Calls Try.prog 106 #[.pointer (some ⟨p, 0, none⟩), .int .i64 most, .func (.func fn) #[.pointer (some ⟨p, 0, none⟩)] #[]] W (RdS inT 146 N w0 R p bs (listR bs most one s)) := by
  obtain ⟨res, hres⟩ : ∃ r, r = listR bs most one s := ⟨_, rfl⟩
  rw [← hres]
  have HC := Lib.hid (rnum_any hs H)
  have HO := Lib.hid hone
  have HRes := Lib.hid hres
  clear H hone hres hs
  go_enter Try.func106, Try.ntmps106
  go_wp2_with fail
  refine HC.out.mono ?_
  intro e w1 hr
  clear HC
  unfold RdP at hr
  rcases h1 : numR bs s with f | ⟨⟨n, at_⟩, s1⟩ <;> rw [h1] at hr
  · obtain ⟨rfl, k, h⟩ := hr
    have HE : Hid (res = .error f) := Lib.hid (by rw [HRes.out]; unfold listR; rw [bind_err h1])
    have HF := Lib.hid h
    clear h h1
    go_wp2_with fail
    refine ⟨rfl, ?_⟩
    rw [HE.out]
    exact ⟨rfl, _, HF.out⟩
  · obtain ⟨rfl, h⟩ := hr
    have HZ1 := Lib.hid (numR_ok h1).2
    have HF := Lib.hid h
    by_cases hnm : n ≤ most
    · have HE : Hid (res = timesR one n [] s1) := Lib.hid (by rw [HRes.out]; unfold listR; rw [bind_ok h1]; show Rdr.bind (mustR (decide (n ≤ most)) 12 _) _ _ = _; rw [decide_eq_true hnm]; rfl)
      have hnm' : (n : Int) ≤ (most : Int) := by omega
      have hdec : decide ((n : Int) ≤ (most : Int)) = true := by simpa using hnm
      have hn : n ≤ 100000 := Nat.le_trans hnm hm
      clear h h1 HRes
      go_wp2_with fail
      refine (must_yes _ _ _).mono ?_
      rintro e w2 ⟨rfl, rfl⟩
      have HG := Lib.hid (inT.gro_nil 146 HF.out)
      clear HF hdec hnm'
      go_wp2_with fail
      go_loopw [6, 20] (fun out ix wr => ∃ (i : Nat) (A : Option Addr) (c : Nat) (css : List (List Value)) (acc : List In) (si : RS), out = .slice A i c ∧ ix = .int .i64 i ∧ i ≤ n ∧ acc.length = i ∧ si.2.1 = 0 ∧ timesR one (n - i) acc si = res ∧ Lies N w0 wr (sepT (crT p bs si) (sepT (inT.gro 146 (.slice A i c) css acc) R))) (fun _ ix _ => n - (intOf ix).toNat)
      case atStart => exact ⟨0, none, 0, [], [], s1, rfl, rfl, Nat.zero_le _, rfl, HZ1.out, HE.out.symm, HG.out.turn (by ac_rfl)⟩
      case round =>
        clear HG HE
        obtain ⟨i, A, c, css, acc, si, rfl, rfl, hi, hacc, hsi, ht, hh⟩ := hrel
        by_cases hlt : i < n
        · have hlt' : (i : Int) < (n : Int) := by omega
          rw [times_succ one n i hlt] at ht
          have HT := Lib.hid ht
          have HC := Lib.hid (HO.out _ si _ hsi hh)
          have HA := Lib.hid hacc
          clear hh ht hacc hsi HZ1
          go_wp2_with fail
          refine HC.out.mono ?_
          intro e w2 hr
          clear HC
          unfold RdT at hr
          rcases h2 : one si with f | ⟨x, s2⟩ <;> rw [h2] at hr
          · obtain ⟨rfl, k, h⟩ := hr
            have HE : Hid (res = .error f) := Lib.hid (by rw [← HT.out, bind_err h2])
            have HF := Lib.hid (h.turn (a' := sepT (inT.gro 146 (.slice A i c) css acc) (sepT (crT p bs k) R)) (by ac_rfl)).drop
            clear h h2
            go_wp2_with fail
            refine ⟨rfl, ?_⟩
            rw [HE.out]
            exact ⟨rfl, _, HF.out⟩
          · obtain ⟨hs2, cs, hE, h⟩ := hr
            have HE : Hid (timesR one (n - (i + 1)) (acc ++ [x]) s2 = res) := Lib.hid (by rw [← HT.out, bind_ok h2])
            have HS2 := Lib.hid hs2
            have HF := Lib.hid (h.turn (a' := sepT (inT.gro 146 (.slice A i c) css acc) (sepT (inT.el cs x) (sepT (crT p bs s2) R))) (by ac_rfl))
            obtain ⟨⟨rfl, _⟩, _⟩ := Lies.fact (φ := cs = [.int .i64 x.op, .int .i64 x.a, .int .i64 x.b, .int .i64 x.c] ∧ iz x.op ∧ iz x.a ∧ iz x.b ∧ iz x.c) (h.turn (a' := sepT (inT.el cs x) (sepT (crT p bs s2) (sepT (inT.gro 146 (.slice A i c) css acc) R))) (by ac_rfl))
            have hE' : e = .returned (.agg #[.int .i64 x.op, .int .i64 x.a, .int .i64 x.b, .int .i64 x.c]) := hE
            subst hE'
            clear h h2 hs2 hE
            have hrow := inT.gro_row HF.out
            rw [HA.out] at hrow
            have HR := Lib.hid hrow
            obtain ⟨i0, hi0, hz0, hz1, hz2⟩ := info_parts info_lIn
            clear hrow
            go_wp2_with (at_builtin; refine wpList_append_own_at _ rfl (.tmp 22) (.tmp 25) 104 rfl 0 146 i0 (.agg #[.int .i64 0, .int .i64 0, .int .i64 0, .int .i64 0]) 4 32 Try.underlying104 hi0 hz0 hz1 hz2 rfl (by decide) (.slice A i c) i _ rfl (HR.out.alloc _) ⟨w2.heap.size, 0, none⟩ 1 1 [.int .i64 x.op, .int .i64 x.a, .int .i64 x.b, .int .i64 x.c] rfl rfl (cells_arr _ #[.int .i64 x.op, .int .i64 x.a, .int .i64 x.b, .int .i64 x.c] _) (by simp [Value.oneCell']) (by simp only [maxLen]; omega) (by omega) (Nat.zero_le _) ?_; intro v' w4 hown' hgrow _ hat; obtain ⟨B', d', rfl, _⟩ := gro_form hown')
            refine ⟨⟨i + 1, B', d', css ++ [[.int .i64 x.op, .int .i64 x.a, .int .i64 x.b, .int .i64 x.c]], acc ++ [x], s2, rfl, by go_num, by omega, by rw [List.length_append, HA.out]; rfl, HS2.out, HE.out, (inT.gro_app (HF.out.alloc _) (by rw [HA.out]; exact hown') hgrow hat).turn (by ac_rfl)⟩, by simp [intOf]; omega⟩
        · have hlt' : ¬ (i : Int) < (n : Int) := by omega
          obtain rfl : i = n := by omega
          rw [Nat.sub_self] at ht
          have HE : Hid (res = .ok (acc, si)) := Lib.hid ht.symm
          have HF := Lib.hid (inT.gro_sl (by omega) (hh.turn (a' := sepT (inT.gro 146 (.slice A i c) css acc) (sepT (crT p bs si) R)) (by ac_rfl)))
          have HS := Lib.hid hsi
          clear hh ht hsi HZ1
          have HA := Lib.hid hacc
          clear hacc
          go_wp2_with fail
          go_ret
          rw [HE.out]
          refine ⟨HS.out, A, c, by rw [HA.out]; rfl, ?_⟩
          rw [HA.out]
          exact HF.out.turn (by ac_rfl)
    · have HE : Hid (res = .error (12, (at_ : Int))) := Lib.hid (by rw [HRes.out]; unfold listR; rw [bind_ok h1]; show Rdr.bind (mustR (decide (n ≤ most)) 12 _) _ _ = _; rw [decide_eq_false hnm]; rfl)
      have hnm' : ¬ (n : Int) ≤ (most : Int) := by omega
      have hdec : decide ((n : Int) ≤ (most : Int)) = false := by simpa using hnm
      clear h h1 HRes
      go_wp2_with fail
      refine (must_no _ _ _).mono ?_
      rintro e w2 ⟨rfl, rfl⟩
      go_wp2_with fail
      refine ⟨rfl, ?_⟩
      rw [HE.out]
      exact ⟨rfl, _, HF.out⟩
theorem fu_form {cs : List Value} {x : Fu} (H : Lies N w0 W (sepT (fuT.el cs x) R)) : ∃ A c B d, cs = [.string x.cls, .string x.name, .slice A x.locals.length c, .slice B x.code.length d] := by
  obtain ⟨⟨p, q⟩, H⟩ := H.ex
  rw [sepT_assoc] at H
  obtain ⟨⟨rfl, _⟩, H2⟩ := H.fact
  rw [sepT_assoc] at H2
  obtain ⟨A, c, h1, _⟩ := txT.sl_form H2
  obtain ⟨B, d, h2, _⟩ := inT.sl_form H2.drop
  simp only at h1 h2
  subst h1 h2
  exact ⟨A, c, B, d, rfl⟩
theorem info_lFu : (Try.prog.info? 106).map (fun i => (i.zero, i.size, i.bytes)) = some (some (.agg #[.string ⟨#[]⟩, .string ⟨#[]⟩, .slice none 0 0, .slice none 0 0]), 4, 80) := by kernel_rfl
set_option maxRecDepth 100000 in
set_option maxHeartbeats 1600000 in
theorem listFu_any (fn : FuncId) (one : Rdr Fu) (most : Nat) (hm : most ≤ 100000) (he : ∀ args (w : World), (callFunc fn args).run Try.prog w = .ok (.enter fn args) w)
    (hone : ∀ W' s' R', s'.2.1 = 0 → Lies N w0 W' (sepT (crT p bs s') R') → Calls Try.prog fn #[.pointer (some ⟨p, 0, none⟩)] W' (RdT N w0 R' p bs fuT.el (one s')))
    (hs : s.2.1 = 0) (H : Lies N w0 W (sepT (crT p bs s) R)) :
    Calls Try.prog 72 #[.pointer (some ⟨p, 0, none⟩), .int .i64 most, .func (.func fn) #[.pointer (some ⟨p, 0, none⟩)] #[]] W (RdS fuT 106 N w0 R p bs (listR bs most one s)) := by
  obtain ⟨res, hres⟩ : ∃ r, r = listR bs most one s := ⟨_, rfl⟩
  rw [← hres]
  have HC := Lib.hid (rnum_any hs H)
  have HO := Lib.hid hone
  have HRes := Lib.hid hres
  clear H hone hres hs
  go_enter Try.func72, Try.ntmps72
  go_wp2_with fail
  refine HC.out.mono ?_
  intro e w1 hr
  clear HC
  unfold RdP at hr
  rcases h1 : numR bs s with f | ⟨⟨n, at_⟩, s1⟩ <;> rw [h1] at hr
  · obtain ⟨rfl, k, h⟩ := hr
    have HE : Hid (res = .error f) := Lib.hid (by rw [HRes.out]; unfold listR; rw [bind_err h1])
    have HF := Lib.hid h
    clear h h1
    go_wp2_with fail
    refine ⟨rfl, ?_⟩
    rw [HE.out]
    exact ⟨rfl, _, HF.out⟩
  · obtain ⟨rfl, h⟩ := hr
    have HZ1 := Lib.hid (numR_ok h1).2
    have HF := Lib.hid h
    by_cases hnm : n ≤ most
    · have HE : Hid (res = timesR one n [] s1) := Lib.hid (by rw [HRes.out]; unfold listR; rw [bind_ok h1]; show Rdr.bind (mustR (decide (n ≤ most)) 12 _) _ _ = _; rw [decide_eq_true hnm]; rfl)
      have hnm' : (n : Int) ≤ (most : Int) := by omega
      have hdec : decide ((n : Int) ≤ (most : Int)) = true := by simpa using hnm
      have hn : n ≤ 100000 := Nat.le_trans hnm hm
      clear h h1 HRes
      go_wp2_with fail
      refine (must_yes _ _ _).mono ?_
      rintro e w2 ⟨rfl, rfl⟩
      have HG := Lib.hid (fuT.gro_nil 106 HF.out)
      clear HF hdec hnm'
      go_wp2_with fail
      go_loopw [6, 20] (fun out ix wr => ∃ (i : Nat) (A : Option Addr) (c : Nat) (css : List (List Value)) (acc : List Fu) (si : RS), out = .slice A i c ∧ ix = .int .i64 i ∧ i ≤ n ∧ acc.length = i ∧ si.2.1 = 0 ∧ timesR one (n - i) acc si = res ∧ Lies N w0 wr (sepT (crT p bs si) (sepT (fuT.gro 106 (.slice A i c) css acc) R))) (fun _ ix _ => n - (intOf ix).toNat)
      case atStart => exact ⟨0, none, 0, [], [], s1, rfl, rfl, Nat.zero_le _, rfl, HZ1.out, HE.out.symm, HG.out.turn (by ac_rfl)⟩
      case round =>
        clear HG HE
        obtain ⟨i, A, c, css, acc, si, rfl, rfl, hi, hacc, hsi, ht, hh⟩ := hrel
        by_cases hlt : i < n
        · have hlt' : (i : Int) < (n : Int) := by omega
          rw [times_succ one n i hlt] at ht
          have HT := Lib.hid ht
          have HC := Lib.hid (HO.out _ si _ hsi hh)
          have HA := Lib.hid hacc
          clear hh ht hacc hsi HZ1
          go_wp2_with fail
          refine HC.out.mono ?_
          intro e w2 hr
          clear HC
          unfold RdT at hr
          rcases h2 : one si with f | ⟨x, s2⟩ <;> rw [h2] at hr
          · obtain ⟨rfl, k, h⟩ := hr
            have HE : Hid (res = .error f) := Lib.hid (by rw [← HT.out, bind_err h2])
            have HF := Lib.hid (h.turn (a' := sepT (fuT.gro 106 (.slice A i c) css acc) (sepT (crT p bs k) R)) (by ac_rfl)).drop
            clear h h2
            go_wp2_with fail
            refine ⟨rfl, ?_⟩
            rw [HE.out]
            exact ⟨rfl, _, HF.out⟩
          · obtain ⟨hs2, cs, hE, h⟩ := hr
            have HE : Hid (timesR one (n - (i + 1)) (acc ++ [x]) s2 = res) := Lib.hid (by rw [← HT.out, bind_ok h2])
            have HS2 := Lib.hid hs2
            have HF := Lib.hid (h.turn (a' := sepT (fuT.gro 106 (.slice A i c) css acc) (sepT (fuT.el cs x) (sepT (crT p bs s2) R))) (by ac_rfl))
            obtain ⟨A2, c2, A3, c3, rfl⟩ := fu_form (h.turn (a' := sepT (fuT.el cs x) (sepT (crT p bs s2) (sepT (fuT.gro 106 (.slice A i c) css acc) R))) (by ac_rfl))
            have hE' : e = .returned (.agg #[.string x.cls, .string x.name, .slice A2 x.locals.length c2, .slice A3 x.code.length c3]) := hE
            subst hE'
            clear h h2 hs2 hE
            have hrow := fuT.gro_row HF.out
            rw [HA.out] at hrow
            have HR := Lib.hid hrow
            obtain ⟨i0, hi0, hz0, hz1, hz2⟩ := info_parts info_lFu
            clear hrow
            go_wp2_with (at_builtin; refine wpList_append_own_at _ rfl (.tmp 22) (.tmp 25) 66 rfl 0 106 i0 (.agg #[.string ⟨#[]⟩, .string ⟨#[]⟩, .slice none 0 0, .slice none 0 0]) 4 80 Try.underlying66 hi0 hz0 hz1 hz2 rfl (by decide) (.slice A i c) i _ rfl (HR.out.alloc _) ⟨w2.heap.size, 0, none⟩ 1 1 [.string x.cls, .string x.name, .slice A2 x.locals.length c2, .slice A3 x.code.length c3] rfl rfl (cells_arr _ #[.string x.cls, .string x.name, .slice A2 x.locals.length c2, .slice A3 x.code.length c3] _) (by simp [Value.oneCell']) (by simp only [maxLen]; omega) (by omega) (Nat.zero_le _) ?_; intro v' w4 hown' hgrow _ hat; obtain ⟨B', d', rfl, _⟩ := gro_form hown')
            refine ⟨⟨i + 1, B', d', css ++ [[.string x.cls, .string x.name, .slice A2 x.locals.length c2, .slice A3 x.code.length c3]], acc ++ [x], s2, rfl, by go_num, by omega, by rw [List.length_append, HA.out]; rfl, HS2.out, HE.out, (fuT.gro_app (HF.out.alloc _) (by rw [HA.out]; exact hown') hgrow hat).turn (by ac_rfl)⟩, by simp [intOf]; omega⟩
        · have hlt' : ¬ (i : Int) < (n : Int) := by omega
          obtain rfl : i = n := by omega
          rw [Nat.sub_self] at ht
          have HE : Hid (res = .ok (acc, si)) := Lib.hid ht.symm
          have HF := Lib.hid (fuT.gro_sl (by omega) (hh.turn (a' := sepT (fuT.gro 106 (.slice A i c) css acc) (sepT (crT p bs si) R)) (by ac_rfl)))
          have HS := Lib.hid hsi
          clear hh ht hsi HZ1
          have HA := Lib.hid hacc
          clear hacc
          go_wp2_with fail
          go_ret
          rw [HE.out]
          refine ⟨HS.out, A, c, by rw [HA.out]; rfl, ?_⟩
          rw [HA.out]
          exact HF.out.turn (by ac_rfl)
    · have HE : Hid (res = .error (12, (at_ : Int))) := Lib.hid (by rw [HRes.out]; unfold listR; rw [bind_ok h1]; show Rdr.bind (mustR (decide (n ≤ most)) 12 _) _ _ = _; rw [decide_eq_false hnm]; rfl)
      have hnm' : ¬ (n : Int) ≤ (most : Int) := by omega
      have hdec : decide ((n : Int) ≤ (most : Int)) = false := by simpa using hnm
      clear h h1 HRes
      go_wp2_with fail
      refine (must_no _ _ _).mono ?_
      rintro e w2 ⟨rfl, rfl⟩
      go_wp2_with fail
      refine ⟨rfl, ?_⟩
      rw [HE.out]
      exact ⟨rfl, _, HF.out⟩
theorem info_lTx : (Try.prog.info? 9).map (fun i => (i.zero, i.size, i.bytes)) = some (some (.string ⟨#[]⟩), 1, 16) := by kernel_rfl
set_option maxRecDepth 100000 in
set_option maxHeartbeats 1600000 in
theorem listTx_any (fn : FuncId) (one : Rdr ByteArray) (most : Nat) (hm : most ≤ 100000) (he : ∀ args (w : World), (callFunc fn args).run Try.prog w = .ok (.enter fn args) w)
    (hone : ∀ W' s' R', s'.2.1 = 0 → Lies N w0 W' (sepT (crT p bs s') R') → Calls Try.prog fn #[.pointer (some ⟨p, 0, none⟩)] W' (RdT N w0 R' p bs txT.el (one s')))
    (hs : s.2.1 = 0) (H : Lies N w0 W (sepT (crT p bs s) R)) :
    Calls Try.prog 70 #[.pointer (some ⟨p, 0, none⟩), .int .i64 most, .func (.func fn) #[.pointer (some ⟨p, 0, none⟩)] #[]] W (RdS txT 9 N w0 R p bs (listR bs most one s)) := by
  obtain ⟨res, hres⟩ : ∃ r, r = listR bs most one s := ⟨_, rfl⟩
  rw [← hres]
  have HC := Lib.hid (rnum_any hs H)
  have HO := Lib.hid hone
  have HRes := Lib.hid hres
  clear H hone hres hs
  go_enter Try.func70, Try.ntmps70
  go_wp2_with fail
  refine HC.out.mono ?_
  intro e w1 hr
  clear HC
  unfold RdP at hr
  rcases h1 : numR bs s with f | ⟨⟨n, at_⟩, s1⟩ <;> rw [h1] at hr
  · obtain ⟨rfl, k, h⟩ := hr
    have HE : Hid (res = .error f) := Lib.hid (by rw [HRes.out]; unfold listR; rw [bind_err h1])
    have HF := Lib.hid h
    clear h h1
    go_wp2_with fail
    refine ⟨rfl, ?_⟩
    rw [HE.out]
    exact ⟨rfl, _, HF.out⟩
  · obtain ⟨rfl, h⟩ := hr
    have HZ1 := Lib.hid (numR_ok h1).2
    have HF := Lib.hid h
    by_cases hnm : n ≤ most
    · have HE : Hid (res = timesR one n [] s1) := Lib.hid (by rw [HRes.out]; unfold listR; rw [bind_ok h1]; show Rdr.bind (mustR (decide (n ≤ most)) 12 _) _ _ = _; rw [decide_eq_true hnm]; rfl)
      have hnm' : (n : Int) ≤ (most : Int) := by omega
      have hdec : decide ((n : Int) ≤ (most : Int)) = true := by simpa using hnm
      have hn : n ≤ 100000 := Nat.le_trans hnm hm
      clear h h1 HRes
      go_wp2_with fail
      refine (must_yes _ _ _).mono ?_
      rintro e w2 ⟨rfl, rfl⟩
      have HG := Lib.hid (txT.gro_nil 9 HF.out)
      clear HF hdec hnm'
      go_wp2_with fail
      go_loopw [6, 20] (fun out ix wr => ∃ (i : Nat) (A : Option Addr) (c : Nat) (css : List (List Value)) (acc : List ByteArray) (si : RS), out = .slice A i c ∧ ix = .int .i64 i ∧ i ≤ n ∧ acc.length = i ∧ si.2.1 = 0 ∧ timesR one (n - i) acc si = res ∧ Lies N w0 wr (sepT (crT p bs si) (sepT (txT.gro 9 (.slice A i c) css acc) R))) (fun _ ix _ => n - (intOf ix).toNat)
      case atStart => exact ⟨0, none, 0, [], [], s1, rfl, rfl, Nat.zero_le _, rfl, HZ1.out, HE.out.symm, HG.out.turn (by ac_rfl)⟩
      case round =>
        clear HG HE
        obtain ⟨i, A, c, css, acc, si, rfl, rfl, hi, hacc, hsi, ht, hh⟩ := hrel
        by_cases hlt : i < n
        · have hlt' : (i : Int) < (n : Int) := by omega
          rw [times_succ one n i hlt] at ht
          have HT := Lib.hid ht
          have HC := Lib.hid (HO.out _ si _ hsi hh)
          have HA := Lib.hid hacc
          clear hh ht hacc hsi HZ1
          go_wp2_with fail
          refine HC.out.mono ?_
          intro e w2 hr
          clear HC
          unfold RdT at hr
          rcases h2 : one si with f | ⟨x, s2⟩ <;> rw [h2] at hr
          · obtain ⟨rfl, k, h⟩ := hr
            have HE : Hid (res = .error f) := Lib.hid (by rw [← HT.out, bind_err h2])
            have HF := Lib.hid (h.turn (a' := sepT (txT.gro 9 (.slice A i c) css acc) (sepT (crT p bs k) R)) (by ac_rfl)).drop
            clear h h2
            go_wp2_with fail
            refine ⟨rfl, ?_⟩
            rw [HE.out]
            exact ⟨rfl, _, HF.out⟩
          · obtain ⟨hs2, cs, hE, h⟩ := hr
            have HE : Hid (timesR one (n - (i + 1)) (acc ++ [x]) s2 = res) := Lib.hid (by rw [← HT.out, bind_ok h2])
            have HS2 := Lib.hid hs2
            have HF := Lib.hid (h.turn (a' := sepT (txT.gro 9 (.slice A i c) css acc) (sepT (txT.el cs x) (sepT (crT p bs s2) R))) (by ac_rfl))
            obtain ⟨⟨rfl, _⟩, _⟩ := Lies.fact (φ := cs = [.string x] ∧ sz x) (h.turn (a' := sepT (txT.el cs x) (sepT (crT p bs s2) (sepT (txT.gro 9 (.slice A i c) css acc) R))) (by ac_rfl))
            have hE' : e = .returned (.string x) := hE
            subst hE'
            clear h h2 hs2 hE
            have hrow := txT.gro_row HF.out
            rw [HA.out] at hrow
            have HR := Lib.hid hrow
            obtain ⟨i0, hi0, hz0, hz1, hz2⟩ := info_parts info_lTx
            clear hrow
            go_wp2_with (at_builtin; refine wpList_append_own_at _ rfl (.tmp 22) (.tmp 25) 65 rfl 0 9 i0 (.string ⟨#[]⟩) 1 16 Try.underlying65 hi0 hz0 hz1 hz2 rfl (by decide) (.slice A i c) i _ rfl (HR.out.alloc _) ⟨w2.heap.size, 0, none⟩ 1 1 [.string x] rfl rfl (cells_arr _ #[.string x] _) (by simp [Value.oneCell']) (by simp only [maxLen]; omega) (by omega) (Nat.zero_le _) ?_; intro v' w4 hown' hgrow _ hat; obtain ⟨B', d', rfl, _⟩ := gro_form hown')
            refine ⟨⟨i + 1, B', d', css ++ [[.string x]], acc ++ [x], s2, rfl, by go_num, by omega, by rw [List.length_append, HA.out]; rfl, HS2.out, HE.out, (txT.gro_app (HF.out.alloc _) (by rw [HA.out]; exact hown') hgrow hat).turn (by ac_rfl)⟩, by simp [intOf]; omega⟩
        · have hlt' : ¬ (i : Int) < (n : Int) := by omega
          obtain rfl : i = n := by omega
          rw [Nat.sub_self] at ht
          have HE : Hid (res = .ok (acc, si)) := Lib.hid ht.symm
          have HF := Lib.hid (txT.gro_sl (by omega) (hh.turn (a' := sepT (txT.gro 9 (.slice A i c) css acc) (sepT (crT p bs si) R)) (by ac_rfl)))
          have HS := Lib.hid hsi
          clear hh ht hsi HZ1
          have HA := Lib.hid hacc
          clear hacc
          go_wp2_with fail
          go_ret
          rw [HE.out]
          refine ⟨HS.out, A, c, by rw [HA.out]; rfl, ?_⟩
          rw [HA.out]
          exact HF.out.turn (by ac_rfl)
    · have HE : Hid (res = .error (12, (at_ : Int))) := Lib.hid (by rw [HRes.out]; unfold listR; rw [bind_ok h1]; show Rdr.bind (mustR (decide (n ≤ most)) 12 _) _ _ = _; rw [decide_eq_false hnm]; rfl)
      have hnm' : ¬ (n : Int) ≤ (most : Int) := by omega
      have hdec : decide ((n : Int) ≤ (most : Int)) = false := by simpa using hnm
      clear h h1 HRes
      go_wp2_with fail
      refine (must_no _ _ _).mono ?_
      rintro e w2 ⟨rfl, rfl⟩
      go_wp2_with fail
      refine ⟨rfl, ?_⟩
      rw [HE.out]
      exact ⟨rfl, _, HF.out⟩
end
end Go.Proofs.Ytcapdmicekialaa
/- codec.reader: operand, ins. -/
namespace Go.Proofs.Ytcapdmicekialaa
open Go.RowKit
set_option linter.unusedVariables false
set_option linter.unusedSimpArgs false
attribute [local go_sem] Oper.semAt_some run_store_func run_store_nilFunc
section
variable {N : Nat} {w0 W : World} {R M : Thing} {p : Nat} {bs : List UInt8} {s : RS}
theorem numR_iz {n at_ : Nat} {s' : RS} (h : numR bs s = .ok ((n, at_), s')) : iz n := by
  have := (numR_ok h).1.out
  unfold iz
  omega
theorem numR_iz' {n at_ : Nat} {s' : RS} (h : numR bs s = .ok ((n, at_), s')) : iz (-1 - (n : Int)) := by
  have := (numR_ok h).1.out
  unfold iz
  omega
set_option maxRecDepth 100000 in
set_option maxHeartbeats 1600000 in
theorem rop_any (hs : s.2.1 = 0) (H : Lies N w0 W (sepT (crT p bs s) R)) : Calls Try.prog 116 #[.pointer (some ⟨p, 0, none⟩)] W (RdP N w0 R p bs (fun a : Int => .int .i64 a) (opR bs s)) := by
  obtain ⟨res, hres⟩ : ∃ r, r = opR bs s := ⟨_, rfl⟩
  rw [← hres]
  have HC := Lib.hid (rnum_any hs H)
  have HRes := Lib.hid hres
  clear H hres hs
  go_enter Try.func116, Try.ntmps116
  go_wp2_with fail
  refine HC.out.mono ?_
  intro e w1 hr
  clear HC
  unfold RdP at hr
  rcases h1 : numR bs s with f | ⟨⟨n, at_⟩, s1⟩ <;> rw [h1] at hr
  · obtain ⟨rfl, k, h⟩ := hr
    have HE : Hid (res = .error f) := Lib.hid (by rw [HRes.out]; unfold opR; rw [bind_err h1])
    have HF := Lib.hid h
    clear h h1
    go_wp2_with fail
    refine ⟨rfl, ?_⟩
    rw [HE.out]
    exact ⟨rfl, _, HF.out⟩
  · obtain ⟨rfl, h⟩ := hr
    have HZ1 := Lib.hid (numR_ok h1).2
    have HF := Lib.hid h
    by_cases hnm : n ≤ 1
    · have HE : Hid (res = ((numR bs).bind fun m => Rdr.pure (if n = 1 then -1 - (m.1 : Int) else (m.1 : Int))) s1) := Lib.hid (by rw [HRes.out]; unfold opR; rw [bind_ok h1]; show Rdr.bind (mustR (decide (n ≤ 1)) 5 _) _ _ = _; rw [decide_eq_true hnm]; rfl)
      have hnm' : (n : Int) ≤ 1 := by omega
      have hdec : decide ((n : Int) ≤ 1) = true := by simp; omega
      clear h h1 HRes
      go_wp2_with fail
      refine (must_yes _ _ _).mono ?_
      rintro e w2 ⟨rfl, rfl⟩
      have HC := Lib.hid (rnum_any HZ1.out HF.out)
      clear HF hdec hnm'
      go_wp2_with fail
      refine HC.out.mono ?_
      intro e w3 hr
      clear HC
      unfold RdP at hr
      rcases h2 : numR bs s1 with f | ⟨⟨m, at2⟩, s2⟩ <;> rw [h2] at hr
      · obtain ⟨rfl, k, h⟩ := hr
        have HE2 : Hid (res = .error f) := Lib.hid (by rw [HE.out, bind_err h2])
        have HF := Lib.hid h
        clear h h2
        go_wp2_with fail
        refine ⟨rfl, ?_⟩
        rw [HE2.out]
        exact ⟨rfl, _, HF.out⟩
      · obtain ⟨rfl, h⟩ := hr
        have HF := Lib.hid h
        by_cases h1n : n = 1
        · subst h1n
          have HE2 : Hid (res = .ok (-1 - (m : Int), s2)) := Lib.hid (by rw [HE.out, bind_ok h2]; rfl)
          have hw : IntKind.i64.wrap (-1 - (m : Int)) = -1 - (m : Int) := IntWalk.i64_in _ (numR_iz' h2)
          clear h h2 hnm
          go_wp2_with fail
          go_ret
          rw [HE2.out]
          exact ⟨rfl, HF.out⟩
        · have HE2 : Hid (res = .ok ((m : Int), s2)) := Lib.hid (by rw [HE.out, bind_ok h2]; show Except.ok ((if n = 1 then _ else _), s2) = _; rw [if_neg h1n])
          have hn1 : ¬ (n : Int) = 1 := by omega
          have hn2 : ((n : Int) == 1) = false := by simp; omega
          clear h h2 hnm
          go_wp2_with fail
          go_ret
          rw [HE2.out]
          exact ⟨rfl, HF.out⟩
    · have HE : Hid (res = .error (5, (at_ : Int))) := Lib.hid (by rw [HRes.out]; unfold opR; rw [bind_ok h1]; show Rdr.bind (mustR (decide (n ≤ 1)) 5 _) _ _ = _; rw [decide_eq_false hnm]; rfl)
      have hnm' : ¬ (n : Int) ≤ 1 := by omega
      have hdec : decide ((n : Int) ≤ 1) = false := by simp; omega
      clear h h1 HRes
      go_wp2_with fail
      refine (must_no _ _ _).mono ?_
      rintro e w2 ⟨rfl, rfl⟩
      go_wp2_with fail
      refine ⟨rfl, ?_⟩
      rw [HE.out]
      exact ⟨rfl, _, HF.out⟩
theorem opR_ok {n : Int} {s' : RS} (h : opR bs s = .ok (n, s')) : iz n ∧ s'.2.1 = 0 := by
  unfold opR at h
  rcases h1 : numR bs s with f | ⟨⟨a, at_⟩, s1⟩
  · rw [bind_err h1] at h; cases h
  · rw [bind_ok h1] at h
    change Rdr.bind (mustR (decide (a ≤ 1)) 5 _) _ s1 = _ at h
    by_cases hd : a ≤ 1
    · rw [decide_eq_true hd] at h
      change Rdr.bind (numR bs) _ s1 = _ at h
      rcases h2 : numR bs s1 with f | ⟨⟨b, at2⟩, s2⟩
      · rw [bind_err h2] at h; cases h
      · rw [bind_ok h2] at h
        injection h with h
        injection h with h3 h4
        refine ⟨?_, h4 ▸ (numR_ok h2).2⟩
        rw [← h3]
        simp only
        split
        · exact numR_iz' h2
        · exact numR_iz h2
    · rw [decide_eq_false hd] at h
      change Except.error _ = _ at h
      cases h
theorem pidx0 (a b c : Value) (w : World) : (Instr.index 176 (.agg #[a, b, c]) (.int .i64 0)).run Try.prog w = .ok a w := by kernel_rfl
theorem pidx1 (a b c : Value) (w : World) : (Instr.index 176 (.agg #[a, b, c]) (.int .i64 1)).run Try.prog w = .ok b w := by kernel_rfl
theorem pidx2 (a b c : Value) (w : World) : (Instr.index 176 (.agg #[a, b, c]) (.int .i64 2)).run Try.prog w = .ok c w := by kernel_rfl
theorem in_in {x : In} (h : iz x.op ∧ iz x.a ∧ iz x.b ∧ iz x.c) (H : Lies N w0 W R) : Lies N w0 W (sepT (inT.el [.int .i64 x.op, .int .i64 x.a, .int .i64 x.b, .int .i64 x.c] x) R) :=
  H.withFact ⟨rfl, h⟩
set_option maxRecDepth 100000 in
set_option maxHeartbeats 1600000 in
theorem rins_any (hs : s.2.1 = 0) (H : Lies N w0 W (sepT (crT p bs s) R)) : Calls Try.prog 107 #[.pointer (some ⟨p, 0, none⟩)] W (RdT N w0 R p bs inT.el (inR bs s)) := by
  have HC := Lib.hid (rnum_any hs ((H.newBlk 146 #[.int .i64 0, .int .i64 0, .int .i64 0, .int .i64 0]).turn (a' := sepT (crT p bs s) (sepT (blkT W.heap.size 146 #[.int .i64 0, .int .i64 0, .int .i64 0, .int .i64 0]) R)) (by ac_rfl)))
  clear H hs
  go_enter Try.func107, Try.ntmps107
  go_wp2_with fail
  refine HC.out.mono ?_
  intro e w1 hr
  clear HC
  unfold RdP at hr
  rcases h1 : numR bs s with f | ⟨⟨n, at_⟩, s1⟩ <;> rw [h1] at hr
  · obtain ⟨rfl, k, h⟩ := hr
    have HE : Hid (inR bs s = .error f) := Lib.hid (by unfold inR; rw [bind_err h1])
    have HF := Lib.hid (h.turn (a' := sepT (blkT W.heap.size 146 #[.int .i64 0, .int .i64 0, .int .i64 0, .int .i64 0]) (sepT (crT p bs k) R)) (by ac_rfl)).drop
    clear h h1
    go_wp2_with fail
    refine ⟨rfl, ?_⟩
    rw [HE.out]
    exact ⟨rfl, _, HF.out⟩
  · have H1 := Lib.hid h1
    obtain ⟨rfl, h⟩ := hr
    have HZ1 := Lib.hid (numR_ok h1).2
    have HZ := Lib.hid (numR_iz h1)
    have HH := Lib.hid ((h.newBlk 146 #[.int .i64 n, .int .i64 0, .int .i64 0, .int .i64 0]).turn (a' := (sepT (crT p bs s1) (sepT (blkT w1.heap.size 146 #[.int .i64 n, .int .i64 0, .int .i64 0, .int .i64 0]) (sepT (blkT W.heap.size 146 #[.int .i64 0, .int .i64 0, .int .i64 0, .int .i64 0]) R)))) (by ac_rfl))
    clear h h1
    have x0 := pidx0
    have x1 := pidx1
    have x2 := pidx2
    go_wp2_with fail
    go_loopw [19] (fun ix wr => (ix = .int .i64 0 ∧ Lies N w0 wr (sepT (crT p bs s1) (sepT (blkT w1.heap.size 146 #[.int .i64 n, .int .i64 0, .int .i64 0, .int .i64 0]) (sepT (blkT W.heap.size 146 #[.int .i64 0, .int .i64 0, .int .i64 0, .int .i64 0]) R)))) ∨ (∃ a s2, ix = .int .i64 1 ∧ opR bs s1 = .ok (a, s2) ∧ Lies N w0 wr (sepT (crT p bs s2) (sepT (blkT w1.heap.size 146 #[.int .i64 n, .int .i64 a, .int .i64 0, .int .i64 0]) (sepT (blkT W.heap.size 146 #[.int .i64 0, .int .i64 0, .int .i64 0, .int .i64 0]) R)))) ∨ (∃ a b s2 s3, ix = .int .i64 2 ∧ opR bs s1 = .ok (a, s2) ∧ opR bs s2 = .ok (b, s3) ∧ Lies N w0 wr (sepT (crT p bs s3) (sepT (blkT w1.heap.size 146 #[.int .i64 n, .int .i64 a, .int .i64 b, .int .i64 0]) (sepT (blkT W.heap.size 146 #[.int .i64 0, .int .i64 0, .int .i64 0, .int .i64 0]) R)))) ∨ (∃ a b c s2 s3 s4, ix = .int .i64 3 ∧ opR bs s1 = .ok (a, s2) ∧ opR bs s2 = .ok (b, s3) ∧ opR bs s3 = .ok (c, s4) ∧ Lies N w0 wr (sepT (crT p bs s4) (sepT (blkT w1.heap.size 146 #[.int .i64 n, .int .i64 a, .int .i64 b, .int .i64 c]) (sepT (blkT W.heap.size 146 #[.int .i64 0, .int .i64 0, .int .i64 0, .int .i64 0]) R))))) (fun ix _ => 3 - (intOf ix).toNat)
    case atStart => exact .inl ⟨rfl, HH.out⟩
    case round =>
      clear HH
      rcases hrel with ⟨rfl, hh⟩ | ⟨a, s2, rfl, ha, hh⟩ | ⟨a, b, s2, s3, rfl, ha, hb, hh⟩ | ⟨a, b, c, s2, s3, s4, rfl, ha, hb, hc, hh⟩
      · have HC := Lib.hid (rop_any (R := sepT (blkT w1.heap.size 146 #[.int .i64 n, .int .i64 0, .int .i64 0, .int .i64 0]) (sepT (blkT W.heap.size 146 #[.int .i64 0, .int .i64 0, .int .i64 0, .int .i64 0]) R)) HZ1.out hh)
        clear hh
        go_wp2_with fail
        refine HC.out.mono ?_
        intro e w2 hr
        clear HC
        unfold RdP at hr
        rcases h2 : opR bs s1 with f | ⟨a, s2⟩ <;> rw [h2] at hr
        · obtain ⟨rfl, k, h⟩ := hr
          have HE : Hid (inR bs s = .error f) := Lib.hid (by unfold inR; rw [bind_ok H1.out, bind_err h2])
          have HF := Lib.hid ((h.turn (a' := sepT (blkT w1.heap.size 146 #[.int .i64 n, .int .i64 0, .int .i64 0, .int .i64 0]) (sepT (blkT W.heap.size 146 #[.int .i64 0, .int .i64 0, .int .i64 0, .int .i64 0]) (sepT (crT p bs k) R))) (by ac_rfl)).drop.drop)
          clear h h2
          go_wp2_with fail
          refine ⟨rfl, ?_⟩
          rw [HE.out]
          exact ⟨rfl, _, HF.out⟩
        · obtain ⟨rfl, h⟩ := hr
          have HN := Lib.hid h2
          have h3 := h.turn (a' := (sepT (blkT w1.heap.size 146 #[.int .i64 n, .int .i64 0, .int .i64 0, .int .i64 0]) (sepT (crT p bs s2) (sepT (blkT W.heap.size 146 #[.int .i64 0, .int .i64 0, .int .i64 0, .int .i64 0]) R)))) (by ac_rfl)
          have e0 := h3.blk.1.cell 1
          have f0 := h3.blk.1.frozen 1
          simp at e0
          have HF := Lib.hid (h3.setBlk 1 (.int .i64 a))
          clear h h2 h3
          go_wp2_with fail
          go_roundw
          case rel => exact .inr (.inl ⟨a, s2, rfl, HN.out, HF.out.turn (by ac_rfl)⟩)
          case measure => simp [intOf]
      · have HC := Lib.hid (rop_any (R := sepT (blkT w1.heap.size 146 #[.int .i64 n, .int .i64 a, .int .i64 0, .int .i64 0]) (sepT (blkT W.heap.size 146 #[.int .i64 0, .int .i64 0, .int .i64 0, .int .i64 0]) R)) (opR_ok ha).2 hh)
        have H2 := Lib.hid ha
        clear hh ha
        go_wp2_with fail
        refine HC.out.mono ?_
        intro e w2 hr
        clear HC
        unfold RdP at hr
        rcases h2 : opR bs s2 with f | ⟨b, s3⟩ <;> rw [h2] at hr
        · obtain ⟨rfl, k, h⟩ := hr
          have HE : Hid (inR bs s = .error f) := Lib.hid (by unfold inR; rw [bind_ok H1.out, bind_ok H2.out, bind_err h2])
          have HF := Lib.hid ((h.turn (a' := sepT (blkT w1.heap.size 146 #[.int .i64 n, .int .i64 a, .int .i64 0, .int .i64 0]) (sepT (blkT W.heap.size 146 #[.int .i64 0, .int .i64 0, .int .i64 0, .int .i64 0]) (sepT (crT p bs k) R))) (by ac_rfl)).drop.drop)
          clear h h2
          go_wp2_with fail
          refine ⟨rfl, ?_⟩
          rw [HE.out]
          exact ⟨rfl, _, HF.out⟩
        · obtain ⟨rfl, h⟩ := hr
          have HN := Lib.hid h2
          have h3 := h.turn (a' := (sepT (blkT w1.heap.size 146 #[.int .i64 n, .int .i64 a, .int .i64 0, .int .i64 0]) (sepT (crT p bs s3) (sepT (blkT W.heap.size 146 #[.int .i64 0, .int .i64 0, .int .i64 0, .int .i64 0]) R)))) (by ac_rfl)
          have e0 := h3.blk.1.cell 2
          have f0 := h3.blk.1.frozen 2
          simp at e0
          have HF := Lib.hid (h3.setBlk 2 (.int .i64 b))
          clear h h2 h3
          go_wp2_with fail
          go_roundw
          case rel => exact .inr (.inr (.inl ⟨a, b, s2, s3, rfl, H2.out, HN.out, HF.out.turn (by ac_rfl)⟩))
          case measure => simp [intOf]
      · have HC := Lib.hid (rop_any (R := sepT (blkT w1.heap.size 146 #[.int .i64 n, .int .i64 a, .int .i64 b, .int .i64 0]) (sepT (blkT W.heap.size 146 #[.int .i64 0, .int .i64 0, .int .i64 0, .int .i64 0]) R)) (opR_ok hb).2 hh)
        have H2 := Lib.hid ha
        have H3 := Lib.hid hb
        clear hh ha hb
        go_wp2_with fail
        refine HC.out.mono ?_
        intro e w2 hr
        clear HC
        unfold RdP at hr
        rcases h2 : opR bs s3 with f | ⟨c, s4⟩ <;> rw [h2] at hr
        · obtain ⟨rfl, k, h⟩ := hr
          have HE : Hid (inR bs s = .error f) := Lib.hid (by unfold inR; rw [bind_ok H1.out, bind_ok H2.out, bind_ok H3.out, bind_err h2])
          have HF := Lib.hid ((h.turn (a' := sepT (blkT w1.heap.size 146 #[.int .i64 n, .int .i64 a, .int .i64 b, .int .i64 0]) (sepT (blkT W.heap.size 146 #[.int .i64 0, .int .i64 0, .int .i64 0, .int .i64 0]) (sepT (crT p bs k) R))) (by ac_rfl)).drop.drop)
          clear h h2
          go_wp2_with fail
          refine ⟨rfl, ?_⟩
          rw [HE.out]
          exact ⟨rfl, _, HF.out⟩
        · obtain ⟨rfl, h⟩ := hr
          have HN := Lib.hid h2
          have h3 := h.turn (a' := (sepT (blkT w1.heap.size 146 #[.int .i64 n, .int .i64 a, .int .i64 b, .int .i64 0]) (sepT (crT p bs s4) (sepT (blkT W.heap.size 146 #[.int .i64 0, .int .i64 0, .int .i64 0, .int .i64 0]) R)))) (by ac_rfl)
          have e0 := h3.blk.1.cell 3
          have f0 := h3.blk.1.frozen 3
          simp at e0
          have HF := Lib.hid (h3.setBlk 3 (.int .i64 c))
          clear h h2 h3
          go_wp2_with fail
          go_roundw
          case rel => exact .inr (.inr (.inr ⟨a, b, c, s2, s3, s4, rfl, H2.out, H3.out, HN.out, HF.out.turn (by ac_rfl)⟩))
          case measure => simp [intOf]
      · have HE : Hid (inR bs s = .ok (⟨n, a, b, c⟩, s4)) := Lib.hid (by unfold inR; rw [bind_ok H1.out, bind_ok ha, bind_ok hb, bind_ok hc]; rfl)
        have HZ2 := Lib.hid (And.intro (opR_ok ha).1 (And.intro (opR_ok hb).1 (opR_ok hc)))
        have h3 := hh.turn (a' := (sepT (blkT w1.heap.size 146 #[.int .i64 n, .int .i64 a, .int .i64 b, .int .i64 c]) (sepT (crT p bs s4) (sepT (blkT W.heap.size 146 #[.int .i64 0, .int .i64 0, .int .i64 0, .int .i64 0]) R)))) (by ac_rfl)
        have hx := h3.blk.1
        have e0 := hx.cell 0
        have e1 := hx.cell 1
        have e2 := hx.cell 2
        have e3 := hx.cell 3
        have h4 := h3.turn (a' := sepT (blkT W.heap.size 146 #[.int .i64 0, .int .i64 0, .int .i64 0, .int .i64 0]) (sepT (blkT w1.heap.size 146 #[.int .i64 n, .int .i64 a, .int .i64 b, .int .i64 c]) (sepT (crT p bs s4) R))) (by ac_rfl)
        have hy := h4.blk.1
        have g0 := hy.cell 0
        have g1 := hy.cell 1
        have g2 := hy.cell 2
        have g3 := hy.cell 3
        have f0 := hy.frozen 0
        have f1 := hy.frozen 1
        have f2 := hy.frozen 2
        have f3 := hy.frozen 3
        simp at e0 e1 e2 e3 g0 g1 g2 g3
        have HF : Hid (Lies N w0 _ (sepT (blkT W.heap.size 146 #[.int .i64 n, .int .i64 a, .int .i64 b, .int .i64 c]) (sepT (blkT w1.heap.size 146 #[.int .i64 n, .int .i64 a, .int .i64 b, .int .i64 c]) (sepT (crT p bs s4) R)))) := Lib.hid ((((h4.setBlk 0 (.int .i64 n)).setBlk 1 (.int .i64 a)).setBlk 2 (.int .i64 b)).setBlk 3 (.int .i64 c))
        clear hh ha hb hc h3 h4 hx hy
        go_wp2_with fail
        refine bodyPost_ret (results_cell_row rfl _ _ W.heap.size 146 #[.int .i64 n, .int .i64 a, .int .i64 b, .int .i64 c] (0, 0) _ rfl HF.out.blk.1 Try.underlying146 rfl (by kernel_rfl)) rfl ?_
        rw [HE.out]
        exact ⟨HZ2.out.2.2.2, [.int .i64 n, .int .i64 a, .int .i64 b, .int .i64 c], rfl, (in_in (x := ⟨n, a, b, c⟩) ⟨HZ.out, HZ2.out.1, HZ2.out.2.1, HZ2.out.2.2.1⟩ HF.out.drop.drop).turn (by ac_rfl)⟩
end
end Go.Proofs.Ytcapdmicekialaa
/- codec.reader: method, class, site, function. Printed by gen_rd.py. -/
namespace Go.Proofs.Ytcapdmicekialaa
open Go.RowKit
set_option linter.unusedVariables false
set_option linter.unusedSimpArgs false
attribute [local go_sem] Oper.semAt_some run_store_func run_store_nilFunc
section
variable {N : Nat} {w0 W : World} {R M : Thing} {p : Nat} {bs : List UInt8} {s : RS}
theorem sg_in {x : Sg} {A : Option Addr} {c : Nat} (h1 : sz x.name) (h2 : sz x.result) (H : Lies N w0 W (sepT (vrT.slT 151 (.slice A x.params.length c) x.params) R)) : Lies N w0 W (sepT (sgT.el [.string x.name, .slice A x.params.length c, .string x.result] x) R) := by
  refine Lies.intro (.slice A x.params.length c) ?_
  rw [factT_true ⟨rfl, h1, h2⟩, empT_sep]
  exact H
theorem cl_in {x : Cl} {A B : Option Addr} {c d : Nat} (h1 : sz x.name) (h2 : sz x.super) (H : Lies N w0 W (sepT (vrT.slT 151 (.slice A x.fields.length c) x.fields) (sepT (sgT.slT 136 (.slice B x.methods.length d) x.methods) R))) : Lies N w0 W (sepT (clT.el [.string x.name, .string x.super, .slice A x.fields.length c, .slice B x.methods.length d] x) R) := by
  refine Lies.intro (.slice A x.fields.length c, .slice B x.methods.length d) ?_
  rw [factT_true ⟨rfl, h1, h2⟩, empT_sep]
  exact H.turn (by ac_rfl)
theorem fu_in {x : Fu} {A B : Option Addr} {c d : Nat} (h1 : sz x.cls) (h2 : sz x.name) (H : Lies N w0 W (sepT (txT.slT 9 (.slice A x.locals.length c) x.locals) (sepT (inT.slT 146 (.slice B x.code.length d) x.code) R))) : Lies N w0 W (sepT (fuT.el [.string x.cls, .string x.name, .slice A x.locals.length c, .slice B x.code.length d] x) R) := by
  refine Lies.intro (.slice A x.locals.length c, .slice B x.code.length d) ?_
  rw [factT_true ⟨rfl, h1, h2⟩, empT_sep]
  exact H.turn (by ac_rfl)
theorem st_in {x : St} (h1 : iz x.what) (h2 : sz x.src) (h3 : sz x.dst) (H : Lies N w0 W R) : Lies N w0 W (sepT (stT.el [.int .i64 x.what, .string x.src, .string x.dst] x) R) :=
  H.withFact ⟨rfl, h1, h2, h3⟩
set_option maxRecDepth 100000 in
set_option maxHeartbeats 1600000 in
theorem rmeth_any (hs : s.2.1 = 0) (H : Lies N w0 W (sepT (crT p bs s) R)) : Calls Try.prog 104 #[.pointer (some ⟨p, 0, none⟩)] W (RdT N w0 R p bs sgT.el (sgR bs s)) := by
  have HC := Lib.hid (rword_any ((H.newBlk 136 #[.string ⟨#[]⟩, .slice none 0 0, .string ⟨#[]⟩]).turn (a' := (sepT (crT p bs s) (sepT (blkT W.heap.size 136 #[.string ⟨#[]⟩, .slice none 0 0, .string ⟨#[]⟩]) R))) (by ac_rfl)))
  have hmf : ∀ fn first cap (w : World), (Instr.makeFunc fn first cap).run Try.prog w = .ok (.func fn first cap) w := fun _ _ _ _ => rfl
  clear H hs
  go_enter Try.func104, Try.ntmps104
  go_wp2_with fail
  refine HC.out.mono ?_
  intro e w1 hr
  clear HC
  unfold RdP at hr
  rcases h1 : wordR bs s with f | ⟨a1, s1⟩ <;> rw [h1] at hr
  · obtain ⟨rfl, k, h⟩ := hr
    have HE : Hid (sgR bs s = .error f) := Lib.hid (by unfold sgR; rw [bind_err h1])
    have HF := Lib.hid (h.turn (a' := (sepT (blkT W.heap.size 136 #[.string ⟨#[]⟩, .slice none 0 0, .string ⟨#[]⟩]) (sepT (crT p bs k) R))) (by ac_rfl)).drop
    clear h h1
    go_wp2_with fail
    refine ⟨rfl, ?_⟩
    rw [HE.out]
    exact ⟨rfl, _, HF.out⟩
  · have H1 := Lib.hid h1
    obtain ⟨rfl, h⟩ := hr
    have HZ1 := Lib.hid (wordR_ok h1)
    have hlt := (h.turn (a' := (sepT (blkT W.heap.size 136 #[.string ⟨#[]⟩, .slice none 0 0, .string ⟨#[]⟩]) (sepT (crT p bs s1) R))) (by ac_rfl)).blk.1.lt
    have hne1 : ¬ w1.heap.size = W.heap.size := by omega
    have hne2 : ¬ W.heap.size = w1.heap.size := by omega
    clear hlt
    have hn := h.newBlk 136 #[.string a1, .slice none 0 0, .string ⟨#[]⟩]
    have HC := Lib.hid (listVr_any 102 (vrR bs) 8 (by decide) (fun _ _ => rfl) (fun W' s' R' _ h => rvar_any h) (HZ1.out.2) (hn.turn (a' := (sepT (crT p bs s1) (sepT (blkT W.heap.size 136 #[.string ⟨#[]⟩, .slice none 0 0, .string ⟨#[]⟩]) (sepT (blkT w1.heap.size 136 #[.string a1, .slice none 0 0, .string ⟨#[]⟩]) R)))) (by ac_rfl)))
    clear h h1 hn
    go_wp2_with fail
    refine HC.out.mono ?_
    intro e w2 hr
    clear HC
    unfold RdS at hr
    rcases h1 : listR bs 8 (vrR bs) s1 with f | ⟨l2, s2⟩ <;> rw [h1] at hr
    · obtain ⟨rfl, k, h⟩ := hr
      have HE : Hid (sgR bs s = .error f) := Lib.hid (by unfold sgR; rw [bind_ok H1.out, bind_err h1])
      have HF := Lib.hid (h.turn (a' := (sepT (blkT W.heap.size 136 #[.string ⟨#[]⟩, .slice none 0 0, .string ⟨#[]⟩]) (sepT (blkT w1.heap.size 136 #[.string a1, .slice none 0 0, .string ⟨#[]⟩]) (sepT (crT p bs k) R)))) (by ac_rfl)).drop.drop
      clear h h1
      go_wp2_with fail
      refine ⟨rfl, ?_⟩
      rw [HE.out]
      exact ⟨rfl, _, HF.out⟩
    · have H2 := Lib.hid h1
      obtain ⟨h02, A2, c2, rfl, h⟩ := hr
      have hbe := (h.turn (a' := (sepT (blkT w1.heap.size 136 #[.string a1, .slice none 0 0, .string ⟨#[]⟩]) (sepT (crT p bs s2) (sepT (blkT W.heap.size 136 #[.string ⟨#[]⟩, .slice none 0 0, .string ⟨#[]⟩]) (sepT (vrT.slT 151 (.slice A2 l2.length c2) l2) R))))) (by ac_rfl)).blk.1
      have e0 := hbe.cell 0
      have ef0 := hbe.frozen 0
      have e1 := hbe.cell 1
      have ef1 := hbe.frozen 1
      have e2 := hbe.cell 2
      have ef2 := hbe.frozen 2
      simp at e0 e1 e2
      clear hbe
      have HC := Lib.hid (rword_any ((h.turn (a' := (sepT (blkT w1.heap.size 136 #[.string a1, .slice none 0 0, .string ⟨#[]⟩]) (sepT (crT p bs s2) (sepT (blkT W.heap.size 136 #[.string ⟨#[]⟩, .slice none 0 0, .string ⟨#[]⟩]) (sepT (vrT.slT 151 (.slice A2 l2.length c2) l2) R))))) (by ac_rfl)).setBlk 1 (.slice A2 l2.length c2) |>.turn (a' := (sepT (crT p bs s2) (sepT (blkT W.heap.size 136 #[.string ⟨#[]⟩, .slice none 0 0, .string ⟨#[]⟩]) (sepT (blkT w1.heap.size 136 #[.string a1, .slice A2 l2.length c2, .string ⟨#[]⟩]) (sepT (vrT.slT 151 (.slice A2 l2.length c2) l2) R))))) (by ac_rfl)))
      clear h h1 h02
      go_wp2_with fail
      refine HC.out.mono ?_
      intro e w3 hr
      clear HC e0 e1 e2 ef0 ef1 ef2
      unfold RdP at hr
      rcases h1 : wordR bs s2 with f | ⟨a3, s3⟩ <;> rw [h1] at hr
      · obtain ⟨rfl, k, h⟩ := hr
        have HE : Hid (sgR bs s = .error f) := Lib.hid (by unfold sgR; rw [bind_ok H1.out, bind_ok H2.out, bind_err h1])
        have HF := Lib.hid (h.turn (a' := (sepT (blkT W.heap.size 136 #[.string ⟨#[]⟩, .slice none 0 0, .string ⟨#[]⟩]) (sepT (blkT w1.heap.size 136 #[.string a1, .slice A2 l2.length c2, .string ⟨#[]⟩]) (sepT (vrT.slT 151 (.slice A2 l2.length c2) l2) (sepT (crT p bs k) R))))) (by ac_rfl)).drop.drop.drop
        clear h h1
        go_wp2_with fail
        refine ⟨rfl, ?_⟩
        rw [HE.out]
        exact ⟨rfl, _, HF.out⟩
      · have H3 := Lib.hid h1
        obtain ⟨rfl, h⟩ := hr
        have HZ3 := Lib.hid (wordR_ok h1)
        have hbe := (h.turn (a' := (sepT (blkT w1.heap.size 136 #[.string a1, .slice A2 l2.length c2, .string ⟨#[]⟩]) (sepT (crT p bs s3) (sepT (blkT W.heap.size 136 #[.string ⟨#[]⟩, .slice none 0 0, .string ⟨#[]⟩]) (sepT (vrT.slT 151 (.slice A2 l2.length c2) l2) R))))) (by ac_rfl)).blk.1
        have e0 := hbe.cell 0
        have ef0 := hbe.frozen 0
        have e1 := hbe.cell 1
        have ef1 := hbe.frozen 1
        have e2 := hbe.cell 2
        have ef2 := hbe.frozen 2
        simp at e0 e1 e2
        clear hbe
        have hbg := (h.turn (a' := (sepT (blkT W.heap.size 136 #[.string ⟨#[]⟩, .slice none 0 0, .string ⟨#[]⟩]) (sepT (crT p bs s3) (sepT (blkT w1.heap.size 136 #[.string a1, .slice A2 l2.length c2, .string ⟨#[]⟩]) (sepT (vrT.slT 151 (.slice A2 l2.length c2) l2) R))))) (by ac_rfl)).blk.1
        have g0 := hbg.cell 0
        have gf0 := hbg.frozen 0
        have g1 := hbg.cell 1
        have gf1 := hbg.frozen 1
        have g2 := hbg.cell 2
        have gf2 := hbg.frozen 2
        simp at g0 g1 g2
        clear hbg
        have HE : Hid (sgR bs s = .ok (⟨a1, l2, a3⟩, s3)) := Lib.hid (by unfold sgR; rw [bind_ok H1.out, bind_ok H2.out, bind_ok H3.out]; rfl)
        have h3 := (h.turn (a' := (sepT (blkT w1.heap.size 136 #[.string a1, .slice A2 l2.length c2, .string ⟨#[]⟩]) (sepT (crT p bs s3) (sepT (blkT W.heap.size 136 #[.string ⟨#[]⟩, .slice none 0 0, .string ⟨#[]⟩]) (sepT (vrT.slT 151 (.slice A2 l2.length c2) l2) R))))) (by ac_rfl)).setBlk 2 (.string a3)
        have HF : Hid (Lies N w0 _ (sepT (blkT W.heap.size 136 #[.string a1, .slice A2 l2.length c2, .string a3]) (sepT (crT p bs s3) (sepT (blkT w1.heap.size 136 #[.string a1, .slice A2 l2.length c2, .string a3]) (sepT (vrT.slT 151 (.slice A2 l2.length c2) l2) R))))) := Lib.hid ((((h3.turn (a' := (sepT (blkT W.heap.size 136 #[.string ⟨#[]⟩, .slice none 0 0, .string ⟨#[]⟩]) (sepT (crT p bs s3) (sepT (blkT w1.heap.size 136 #[.string a1, .slice A2 l2.length c2, .string a3]) (sepT (vrT.slT 151 (.slice A2 l2.length c2) l2) R))))) (by ac_rfl)).setBlk 0 (.string a1)).setBlk 1 (.slice A2 l2.length c2)).setBlk 2 (.string a3))
        clear h h1 h3
        go_wp2_with fail
        refine bodyPost_ret (results_cell_row rfl _ _ W.heap.size 136 #[.string a1, .slice A2 l2.length c2, .string a3] (0, 0) _ rfl HF.out.blk.1 Try.underlying136 rfl (by kernel_rfl)) rfl ?_
        rw [HE.out]
        have hd := (HF.out.drop.turn (a' := (sepT (blkT w1.heap.size 136 #[.string a1, .slice A2 l2.length c2, .string a3]) (sepT (vrT.slT 151 (.slice A2 l2.length c2) l2) (sepT (crT p bs s3) R)))) (by ac_rfl)).drop
        exact ⟨HZ3.out.2, [.string a1, .slice A2 l2.length c2, .string a3], rfl, (sg_in (x := ⟨a1, l2, a3⟩) HZ1.out.1 HZ3.out.1 hd).turn (by ac_rfl)⟩
set_option maxRecDepth 100000 in
set_option maxHeartbeats 1600000 in
theorem rcls_any (hs : s.2.1 = 0) (H : Lies N w0 W (sepT (crT p bs s) R)) : Calls Try.prog 67 #[.pointer (some ⟨p, 0, none⟩)] W (RdT N w0 R p bs clT.el (clR bs s)) := by
  have HC := Lib.hid (rword_any ((H.newBlk 95 #[.string ⟨#[]⟩, .string ⟨#[]⟩, .slice none 0 0, .slice none 0 0]).turn (a' := (sepT (crT p bs s) (sepT (blkT W.heap.size 95 #[.string ⟨#[]⟩, .string ⟨#[]⟩, .slice none 0 0, .slice none 0 0]) R))) (by ac_rfl)))
  have hmf : ∀ fn first cap (w : World), (Instr.makeFunc fn first cap).run Try.prog w = .ok (.func fn first cap) w := fun _ _ _ _ => rfl
  clear H hs
  go_enter Try.func67, Try.ntmps67
  go_wp2_with fail
  refine HC.out.mono ?_
  intro e w1 hr
  clear HC
  unfold RdP at hr
  rcases h1 : wordR bs s with f | ⟨a1, s1⟩ <;> rw [h1] at hr
  · obtain ⟨rfl, k, h⟩ := hr
    have HE : Hid (clR bs s = .error f) := Lib.hid (by unfold clR; rw [bind_err h1])
    have HF := Lib.hid (h.turn (a' := (sepT (blkT W.heap.size 95 #[.string ⟨#[]⟩, .string ⟨#[]⟩, .slice none 0 0, .slice none 0 0]) (sepT (crT p bs k) R))) (by ac_rfl)).drop
    clear h h1
    go_wp2_with fail
    refine ⟨rfl, ?_⟩
    rw [HE.out]
    exact ⟨rfl, _, HF.out⟩
  · have H1 := Lib.hid h1
    obtain ⟨rfl, h⟩ := hr
    have HZ1 := Lib.hid (wordR_ok h1)
    have hlt := (h.turn (a' := (sepT (blkT W.heap.size 95 #[.string ⟨#[]⟩, .string ⟨#[]⟩, .slice none 0 0, .slice none 0 0]) (sepT (crT p bs s1) R))) (by ac_rfl)).blk.1.lt
    have hne1 : ¬ w1.heap.size = W.heap.size := by omega
    have hne2 : ¬ W.heap.size = w1.heap.size := by omega
    clear hlt
    have hn := h.newBlk 95 #[.string a1, .string ⟨#[]⟩, .slice none 0 0, .slice none 0 0]
    have HC := Lib.hid (rword_any (hn.turn (a' := (sepT (crT p bs s1) (sepT (blkT W.heap.size 95 #[.string ⟨#[]⟩, .string ⟨#[]⟩, .slice none 0 0, .slice none 0 0]) (sepT (blkT w1.heap.size 95 #[.string a1, .string ⟨#[]⟩, .slice none 0 0, .slice none 0 0]) R)))) (by ac_rfl)))
    clear h h1 hn
    go_wp2_with fail
    refine HC.out.mono ?_
    intro e w2 hr
    clear HC
    unfold RdP at hr
    rcases h1 : wordR bs s1 with f | ⟨a2, s2⟩ <;> rw [h1] at hr
    · obtain ⟨rfl, k, h⟩ := hr
      have HE : Hid (clR bs s = .error f) := Lib.hid (by unfold clR; rw [bind_ok H1.out, bind_err h1])
      have HF := Lib.hid (h.turn (a' := (sepT (blkT W.heap.size 95 #[.string ⟨#[]⟩, .string ⟨#[]⟩, .slice none 0 0, .slice none 0 0]) (sepT (blkT w1.heap.size 95 #[.string a1, .string ⟨#[]⟩, .slice none 0 0, .slice none 0 0]) (sepT (crT p bs k) R)))) (by ac_rfl)).drop.drop
      clear h h1
      go_wp2_with fail
      refine ⟨rfl, ?_⟩
      rw [HE.out]
      exact ⟨rfl, _, HF.out⟩
    · have H2 := Lib.hid h1
      obtain ⟨rfl, h⟩ := hr
      have HZ2 := Lib.hid (wordR_ok h1)
      have hbe := (h.turn (a' := (sepT (blkT w1.heap.size 95 #[.string a1, .string ⟨#[]⟩, .slice none 0 0, .slice none 0 0]) (sepT (crT p bs s2) (sepT (blkT W.heap.size 95 #[.string ⟨#[]⟩, .string ⟨#[]⟩, .slice none 0 0, .slice none 0 0]) R)))) (by ac_rfl)).blk.1
      have e0 := hbe.cell 0
      have ef0 := hbe.frozen 0
      have e1 := hbe.cell 1
      have ef1 := hbe.frozen 1
      have e2 := hbe.cell 2
      have ef2 := hbe.frozen 2
      have e3 := hbe.cell 3
      have ef3 := hbe.frozen 3
      simp at e0 e1 e2 e3
      clear hbe
      have hn := (h.turn (a' := (sepT (blkT w1.heap.size 95 #[.string a1, .string ⟨#[]⟩, .slice none 0 0, .slice none 0 0]) (sepT (crT p bs s2) (sepT (blkT W.heap.size 95 #[.string ⟨#[]⟩, .string ⟨#[]⟩, .slice none 0 0, .slice none 0 0]) R)))) (by ac_rfl)).setBlk 1 (.string a2)
      have HC := Lib.hid (listVr_any 102 (vrR bs) 20 (by decide) (fun _ _ => rfl) (fun W' s' R' _ h => rvar_any h) (HZ2.out.2) (hn.turn (a' := (sepT (crT p bs s2) (sepT (blkT W.heap.size 95 #[.string ⟨#[]⟩, .string ⟨#[]⟩, .slice none 0 0, .slice none 0 0]) (sepT (blkT w1.heap.size 95 #[.string a1, .string a2, .slice none 0 0, .slice none 0 0]) R)))) (by ac_rfl)))
      clear h h1 hn
      go_wp2_with fail
      refine HC.out.mono ?_
      intro e w3 hr
      clear HC e0 e1 e2 e3 ef0 ef1 ef2 ef3
      unfold RdS at hr
      rcases h1 : listR bs 20 (vrR bs) s2 with f | ⟨l3, s3⟩ <;> rw [h1] at hr
      · obtain ⟨rfl, k, h⟩ := hr
        have HE : Hid (clR bs s = .error f) := Lib.hid (by unfold clR; rw [bind_ok H1.out, bind_ok H2.out, bind_err h1])
        have HF := Lib.hid (h.turn (a' := (sepT (blkT W.heap.size 95 #[.string ⟨#[]⟩, .string ⟨#[]⟩, .slice none 0 0, .slice none 0 0]) (sepT (blkT w1.heap.size 95 #[.string a1, .string a2, .slice none 0 0, .slice none 0 0]) (sepT (crT p bs k) R)))) (by ac_rfl)).drop.drop
        clear h h1
        go_wp2_with fail
        refine ⟨rfl, ?_⟩
        rw [HE.out]
        exact ⟨rfl, _, HF.out⟩
      · have H3 := Lib.hid h1
        obtain ⟨h03, A3, c3, rfl, h⟩ := hr
        have HZ3 := Lib.hid h03
        have hbe := (h.turn (a' := (sepT (blkT w1.heap.size 95 #[.string a1, .string a2, .slice none 0 0, .slice none 0 0]) (sepT (crT p bs s3) (sepT (blkT W.heap.size 95 #[.string ⟨#[]⟩, .string ⟨#[]⟩, .slice none 0 0, .slice none 0 0]) (sepT (vrT.slT 151 (.slice A3 l3.length c3) l3) R))))) (by ac_rfl)).blk.1
        have e0 := hbe.cell 0
        have ef0 := hbe.frozen 0
        have e1 := hbe.cell 1
        have ef1 := hbe.frozen 1
        have e2 := hbe.cell 2
        have ef2 := hbe.frozen 2
        have e3 := hbe.cell 3
        have ef3 := hbe.frozen 3
        simp at e0 e1 e2 e3
        clear hbe
        have hn := (h.turn (a' := (sepT (blkT w1.heap.size 95 #[.string a1, .string a2, .slice none 0 0, .slice none 0 0]) (sepT (crT p bs s3) (sepT (blkT W.heap.size 95 #[.string ⟨#[]⟩, .string ⟨#[]⟩, .slice none 0 0, .slice none 0 0]) (sepT (vrT.slT 151 (.slice A3 l3.length c3) l3) R))))) (by ac_rfl)).setBlk 2 (.slice A3 l3.length c3)
        clear h03
        have HC := Lib.hid (listSg_any 104 (sgR bs) 20 (by decide) (fun _ _ => rfl) (fun W' s' R' h0 h => rmeth_any h0 h) (HZ3.out) (hn.turn (a' := (sepT (crT p bs s3) (sepT (blkT W.heap.size 95 #[.string ⟨#[]⟩, .string ⟨#[]⟩, .slice none 0 0, .slice none 0 0]) (sepT (blkT w1.heap.size 95 #[.string a1, .string a2, .slice A3 l3.length c3, .slice none 0 0]) (sepT (vrT.slT 151 (.slice A3 l3.length c3) l3) R))))) (by ac_rfl)))
        clear h h1 hn
        go_wp2_with fail
        refine HC.out.mono ?_
        intro e w4 hr
        clear HC e0 e1 e2 e3 ef0 ef1 ef2 ef3
        unfold RdS at hr
        rcases h1 : listR bs 20 (sgR bs) s3 with f | ⟨l4, s4⟩ <;> rw [h1] at hr
        · obtain ⟨rfl, k, h⟩ := hr
          have HE : Hid (clR bs s = .error f) := Lib.hid (by unfold clR; rw [bind_ok H1.out, bind_ok H2.out, bind_ok H3.out, bind_err h1])
          have HF := Lib.hid (h.turn (a' := (sepT (blkT W.heap.size 95 #[.string ⟨#[]⟩, .string ⟨#[]⟩, .slice none 0 0, .slice none 0 0]) (sepT (blkT w1.heap.size 95 #[.string a1, .string a2, .slice A3 l3.length c3, .slice none 0 0]) (sepT (vrT.slT 151 (.slice A3 l3.length c3) l3) (sepT (crT p bs k) R))))) (by ac_rfl)).drop.drop.drop
          clear h h1
          go_wp2_with fail
          refine ⟨rfl, ?_⟩
          rw [HE.out]
          exact ⟨rfl, _, HF.out⟩
        · have H4 := Lib.hid h1
          obtain ⟨h04, A4, c4, rfl, h⟩ := hr
          have HZ4 := Lib.hid h04
          clear h04
          have hbe := (h.turn (a' := (sepT (blkT w1.heap.size 95 #[.string a1, .string a2, .slice A3 l3.length c3, .slice none 0 0]) (sepT (crT p bs s4) (sepT (blkT W.heap.size 95 #[.string ⟨#[]⟩, .string ⟨#[]⟩, .slice none 0 0, .slice none 0 0]) (sepT (vrT.slT 151 (.slice A3 l3.length c3) l3) (sepT (sgT.slT 136 (.slice A4 l4.length c4) l4) R)))))) (by ac_rfl)).blk.1
          have e0 := hbe.cell 0
          have ef0 := hbe.frozen 0
          have e1 := hbe.cell 1
          have ef1 := hbe.frozen 1
          have e2 := hbe.cell 2
          have ef2 := hbe.frozen 2
          have e3 := hbe.cell 3
          have ef3 := hbe.frozen 3
          simp at e0 e1 e2 e3
          clear hbe
          have hbg := (h.turn (a' := (sepT (blkT W.heap.size 95 #[.string ⟨#[]⟩, .string ⟨#[]⟩, .slice none 0 0, .slice none 0 0]) (sepT (crT p bs s4) (sepT (blkT w1.heap.size 95 #[.string a1, .string a2, .slice A3 l3.length c3, .slice none 0 0]) (sepT (vrT.slT 151 (.slice A3 l3.length c3) l3) (sepT (sgT.slT 136 (.slice A4 l4.length c4) l4) R)))))) (by ac_rfl)).blk.1
          have g0 := hbg.cell 0
          have gf0 := hbg.frozen 0
          have g1 := hbg.cell 1
          have gf1 := hbg.frozen 1
          have g2 := hbg.cell 2
          have gf2 := hbg.frozen 2
          have g3 := hbg.cell 3
          have gf3 := hbg.frozen 3
          simp at g0 g1 g2 g3
          clear hbg
          have HE : Hid (clR bs s = .ok (⟨a1, a2, l3, l4⟩, s4)) := Lib.hid (by unfold clR; rw [bind_ok H1.out, bind_ok H2.out, bind_ok H3.out, bind_ok H4.out]; rfl)
          have h3 := (h.turn (a' := (sepT (blkT w1.heap.size 95 #[.string a1, .string a2, .slice A3 l3.length c3, .slice none 0 0]) (sepT (crT p bs s4) (sepT (blkT W.heap.size 95 #[.string ⟨#[]⟩, .string ⟨#[]⟩, .slice none 0 0, .slice none 0 0]) (sepT (vrT.slT 151 (.slice A3 l3.length c3) l3) (sepT (sgT.slT 136 (.slice A4 l4.length c4) l4) R)))))) (by ac_rfl)).setBlk 3 (.slice A4 l4.length c4)
          have HF : Hid (Lies N w0 _ (sepT (blkT W.heap.size 95 #[.string a1, .string a2, .slice A3 l3.length c3, .slice A4 l4.length c4]) (sepT (crT p bs s4) (sepT (blkT w1.heap.size 95 #[.string a1, .string a2, .slice A3 l3.length c3, .slice A4 l4.length c4]) (sepT (vrT.slT 151 (.slice A3 l3.length c3) l3) (sepT (sgT.slT 136 (.slice A4 l4.length c4) l4) R)))))) := Lib.hid (((((h3.turn (a' := (sepT (blkT W.heap.size 95 #[.string ⟨#[]⟩, .string ⟨#[]⟩, .slice none 0 0, .slice none 0 0]) (sepT (crT p bs s4) (sepT (blkT w1.heap.size 95 #[.string a1, .string a2, .slice A3 l3.length c3, .slice A4 l4.length c4]) (sepT (vrT.slT 151 (.slice A3 l3.length c3) l3) (sepT (sgT.slT 136 (.slice A4 l4.length c4) l4) R)))))) (by ac_rfl)).setBlk 0 (.string a1)).setBlk 1 (.string a2)).setBlk 2 (.slice A3 l3.length c3)).setBlk 3 (.slice A4 l4.length c4))
          clear h h1 h3
          go_wp2_with fail
          refine bodyPost_ret (results_cell_row rfl _ _ W.heap.size 95 #[.string a1, .string a2, .slice A3 l3.length c3, .slice A4 l4.length c4] (0, 0) _ rfl HF.out.blk.1 Try.underlying95 rfl (by kernel_rfl)) rfl ?_
          rw [HE.out]
          have hd := (HF.out.drop.turn (a' := (sepT (blkT w1.heap.size 95 #[.string a1, .string a2, .slice A3 l3.length c3, .slice A4 l4.length c4]) (sepT (vrT.slT 151 (.slice A3 l3.length c3) l3) (sepT (sgT.slT 136 (.slice A4 l4.length c4) l4) (sepT (crT p bs s4) R))))) (by ac_rfl)).drop
          exact ⟨HZ4.out, [.string a1, .string a2, .slice A3 l3.length c3, .slice A4 l4.length c4], rfl, (cl_in (x := ⟨a1, a2, l3, l4⟩) HZ1.out.1 HZ2.out.1 hd).turn (by ac_rfl)⟩
set_option maxRecDepth 100000 in
set_option maxHeartbeats 1600000 in
theorem rfun_any (hs : s.2.1 = 0) (H : Lies N w0 W (sepT (crT p bs s) R)) : Calls Try.prog 73 #[.pointer (some ⟨p, 0, none⟩)] W (RdT N w0 R p bs fuT.el (fuR bs s)) := by
  have HC := Lib.hid (rword_any ((H.newBlk 106 #[.string ⟨#[]⟩, .string ⟨#[]⟩, .slice none 0 0, .slice none 0 0]).turn (a' := (sepT (crT p bs s) (sepT (blkT W.heap.size 106 #[.string ⟨#[]⟩, .string ⟨#[]⟩, .slice none 0 0, .slice none 0 0]) R))) (by ac_rfl)))
  have hmf : ∀ fn first cap (w : World), (Instr.makeFunc fn first cap).run Try.prog w = .ok (.func fn first cap) w := fun _ _ _ _ => rfl
  clear H hs
  go_enter Try.func73, Try.ntmps73
  go_wp2_with fail
  refine HC.out.mono ?_
  intro e w1 hr
  clear HC
  unfold RdP at hr
  rcases h1 : wordR bs s with f | ⟨a1, s1⟩ <;> rw [h1] at hr
  · obtain ⟨rfl, k, h⟩ := hr
    have HE : Hid (fuR bs s = .error f) := Lib.hid (by unfold fuR; rw [bind_err h1])
    have HF := Lib.hid (h.turn (a' := (sepT (blkT W.heap.size 106 #[.string ⟨#[]⟩, .string ⟨#[]⟩, .slice none 0 0, .slice none 0 0]) (sepT (crT p bs k) R))) (by ac_rfl)).drop
    clear h h1
    go_wp2_with fail
    refine ⟨rfl, ?_⟩
    rw [HE.out]
    exact ⟨rfl, _, HF.out⟩
  · have H1 := Lib.hid h1
    obtain ⟨rfl, h⟩ := hr
    have HZ1 := Lib.hid (wordR_ok h1)
    have hlt := (h.turn (a' := (sepT (blkT W.heap.size 106 #[.string ⟨#[]⟩, .string ⟨#[]⟩, .slice none 0 0, .slice none 0 0]) (sepT (crT p bs s1) R))) (by ac_rfl)).blk.1.lt
    have hne1 : ¬ w1.heap.size = W.heap.size := by omega
    have hne2 : ¬ W.heap.size = w1.heap.size := by omega
    clear hlt
    have hn := h.newBlk 106 #[.string a1, .string ⟨#[]⟩, .slice none 0 0, .slice none 0 0]
    have HC := Lib.hid (rword_any (hn.turn (a' := (sepT (crT p bs s1) (sepT (blkT W.heap.size 106 #[.string ⟨#[]⟩, .string ⟨#[]⟩, .slice none 0 0, .slice none 0 0]) (sepT (blkT w1.heap.size 106 #[.string a1, .string ⟨#[]⟩, .slice none 0 0, .slice none 0 0]) R)))) (by ac_rfl)))
    clear h h1 hn
    go_wp2_with fail
    refine HC.out.mono ?_
    intro e w2 hr
    clear HC
    unfold RdP at hr
    rcases h1 : wordR bs s1 with f | ⟨a2, s2⟩ <;> rw [h1] at hr
    · obtain ⟨rfl, k, h⟩ := hr
      have HE : Hid (fuR bs s = .error f) := Lib.hid (by unfold fuR; rw [bind_ok H1.out, bind_err h1])
      have HF := Lib.hid (h.turn (a' := (sepT (blkT W.heap.size 106 #[.string ⟨#[]⟩, .string ⟨#[]⟩, .slice none 0 0, .slice none 0 0]) (sepT (blkT w1.heap.size 106 #[.string a1, .string ⟨#[]⟩, .slice none 0 0, .slice none 0 0]) (sepT (crT p bs k) R)))) (by ac_rfl)).drop.drop
      clear h h1
      go_wp2_with fail
      refine ⟨rfl, ?_⟩
      rw [HE.out]
      exact ⟨rfl, _, HF.out⟩
    · have H2 := Lib.hid h1
      obtain ⟨rfl, h⟩ := hr
      have HZ2 := Lib.hid (wordR_ok h1)
      have hbe := (h.turn (a' := (sepT (blkT w1.heap.size 106 #[.string a1, .string ⟨#[]⟩, .slice none 0 0, .slice none 0 0]) (sepT (crT p bs s2) (sepT (blkT W.heap.size 106 #[.string ⟨#[]⟩, .string ⟨#[]⟩, .slice none 0 0, .slice none 0 0]) R)))) (by ac_rfl)).blk.1
      have e0 := hbe.cell 0
      have ef0 := hbe.frozen 0
      have e1 := hbe.cell 1
      have ef1 := hbe.frozen 1
      have e2 := hbe.cell 2
      have ef2 := hbe.frozen 2
      have e3 := hbe.cell 3
      have ef3 := hbe.frozen 3
      simp at e0 e1 e2 e3
      clear hbe
      have hn := (h.turn (a' := (sepT (blkT w1.heap.size 106 #[.string a1, .string ⟨#[]⟩, .slice none 0 0, .slice none 0 0]) (sepT (crT p bs s2) (sepT (blkT W.heap.size 106 #[.string ⟨#[]⟩, .string ⟨#[]⟩, .slice none 0 0, .slice none 0 0]) R)))) (by ac_rfl)).setBlk 1 (.string a2)
      have HC := Lib.hid (listTx_any 71 (wordR bs) 200 (by decide) (fun _ _ => rfl) (fun W' s' R' _ h => rword_t h) (HZ2.out.2) (hn.turn (a' := (sepT (crT p bs s2) (sepT (blkT W.heap.size 106 #[.string ⟨#[]⟩, .string ⟨#[]⟩, .slice none 0 0, .slice none 0 0]) (sepT (blkT w1.heap.size 106 #[.string a1, .string a2, .slice none 0 0, .slice none 0 0]) R)))) (by ac_rfl)))
      clear h h1 hn
      go_wp2_with fail
      refine HC.out.mono ?_
      intro e w3 hr
      clear HC e0 e1 e2 e3 ef0 ef1 ef2 ef3
      unfold RdS at hr
      rcases h1 : listR bs 200 (wordR bs) s2 with f | ⟨l3, s3⟩ <;> rw [h1] at hr
      · obtain ⟨rfl, k, h⟩ := hr
        have HE : Hid (fuR bs s = .error f) := Lib.hid (by unfold fuR; rw [bind_ok H1.out, bind_ok H2.out, bind_err h1])
        have HF := Lib.hid (h.turn (a' := (sepT (blkT W.heap.size 106 #[.string ⟨#[]⟩, .string ⟨#[]⟩, .slice none 0 0, .slice none 0 0]) (sepT (blkT w1.heap.size 106 #[.string a1, .string a2, .slice none 0 0, .slice none 0 0]) (sepT (crT p bs k) R)))) (by ac_rfl)).drop.drop
        clear h h1
        go_wp2_with fail
        refine ⟨rfl, ?_⟩
        rw [HE.out]
        exact ⟨rfl, _, HF.out⟩
      · have H3 := Lib.hid h1
        obtain ⟨h03, A3, c3, rfl, h⟩ := hr
        have HZ3 := Lib.hid h03
        have hbe := (h.turn (a' := (sepT (blkT w1.heap.size 106 #[.string a1, .string a2, .slice none 0 0, .slice none 0 0]) (sepT (crT p bs s3) (sepT (blkT W.heap.size 106 #[.string ⟨#[]⟩, .string ⟨#[]⟩, .slice none 0 0, .slice none 0 0]) (sepT (txT.slT 9 (.slice A3 l3.length c3) l3) R))))) (by ac_rfl)).blk.1
        have e0 := hbe.cell 0
        have ef0 := hbe.frozen 0
        have e1 := hbe.cell 1
        have ef1 := hbe.frozen 1
        have e2 := hbe.cell 2
        have ef2 := hbe.frozen 2
        have e3 := hbe.cell 3
        have ef3 := hbe.frozen 3
        simp at e0 e1 e2 e3
        clear hbe
        have hn := (h.turn (a' := (sepT (blkT w1.heap.size 106 #[.string a1, .string a2, .slice none 0 0, .slice none 0 0]) (sepT (crT p bs s3) (sepT (blkT W.heap.size 106 #[.string ⟨#[]⟩, .string ⟨#[]⟩, .slice none 0 0, .slice none 0 0]) (sepT (txT.slT 9 (.slice A3 l3.length c3) l3) R))))) (by ac_rfl)).setBlk 2 (.slice A3 l3.length c3)
        clear h03
        have HC := Lib.hid (listIn_any 107 (inR bs) 20000 (by decide) (fun _ _ => rfl) (fun W' s' R' h0 h => rins_any h0 h) (HZ3.out) (hn.turn (a' := (sepT (crT p bs s3) (sepT (blkT W.heap.size 106 #[.string ⟨#[]⟩, .string ⟨#[]⟩, .slice none 0 0, .slice none 0 0]) (sepT (blkT w1.heap.size 106 #[.string a1, .string a2, .slice A3 l3.length c3, .slice none 0 0]) (sepT (txT.slT 9 (.slice A3 l3.length c3) l3) R))))) (by ac_rfl)))
        clear h h1 hn
        go_wp2_with fail
        refine HC.out.mono ?_
        intro e w4 hr
        clear HC e0 e1 e2 e3 ef0 ef1 ef2 ef3
        unfold RdS at hr
        rcases h1 : listR bs 20000 (inR bs) s3 with f | ⟨l4, s4⟩ <;> rw [h1] at hr
        · obtain ⟨rfl, k, h⟩ := hr
          have HE : Hid (fuR bs s = .error f) := Lib.hid (by unfold fuR; rw [bind_ok H1.out, bind_ok H2.out, bind_ok H3.out, bind_err h1])
          have HF := Lib.hid (h.turn (a' := (sepT (blkT W.heap.size 106 #[.string ⟨#[]⟩, .string ⟨#[]⟩, .slice none 0 0, .slice none 0 0]) (sepT (blkT w1.heap.size 106 #[.string a1, .string a2, .slice A3 l3.length c3, .slice none 0 0]) (sepT (txT.slT 9 (.slice A3 l3.length c3) l3) (sepT (crT p bs k) R))))) (by ac_rfl)).drop.drop.drop
          clear h h1
          go_wp2_with fail
          refine ⟨rfl, ?_⟩
          rw [HE.out]
          exact ⟨rfl, _, HF.out⟩
        · have H4 := Lib.hid h1
          obtain ⟨h04, A4, c4, rfl, h⟩ := hr
          have HZ4 := Lib.hid h04
          clear h04
          have hbe := (h.turn (a' := (sepT (blkT w1.heap.size 106 #[.string a1, .string a2, .slice A3 l3.length c3, .slice none 0 0]) (sepT (crT p bs s4) (sepT (blkT W.heap.size 106 #[.string ⟨#[]⟩, .string ⟨#[]⟩, .slice none 0 0, .slice none 0 0]) (sepT (txT.slT 9 (.slice A3 l3.length c3) l3) (sepT (inT.slT 146 (.slice A4 l4.length c4) l4) R)))))) (by ac_rfl)).blk.1
          have e0 := hbe.cell 0
          have ef0 := hbe.frozen 0
          have e1 := hbe.cell 1
          have ef1 := hbe.frozen 1
          have e2 := hbe.cell 2
          have ef2 := hbe.frozen 2
          have e3 := hbe.cell 3
          have ef3 := hbe.frozen 3
          simp at e0 e1 e2 e3
          clear hbe
          have hbg := (h.turn (a' := (sepT (blkT W.heap.size 106 #[.string ⟨#[]⟩, .string ⟨#[]⟩, .slice none 0 0, .slice none 0 0]) (sepT (crT p bs s4) (sepT (blkT w1.heap.size 106 #[.string a1, .string a2, .slice A3 l3.length c3, .slice none 0 0]) (sepT (txT.slT 9 (.slice A3 l3.length c3) l3) (sepT (inT.slT 146 (.slice A4 l4.length c4) l4) R)))))) (by ac_rfl)).blk.1
          have g0 := hbg.cell 0
          have gf0 := hbg.frozen 0
          have g1 := hbg.cell 1
          have gf1 := hbg.frozen 1
          have g2 := hbg.cell 2
          have gf2 := hbg.frozen 2
          have g3 := hbg.cell 3
          have gf3 := hbg.frozen 3
          simp at g0 g1 g2 g3
          clear hbg
          have HE : Hid (fuR bs s = .ok (⟨a1, a2, l3, l4⟩, s4)) := Lib.hid (by unfold fuR; rw [bind_ok H1.out, bind_ok H2.out, bind_ok H3.out, bind_ok H4.out]; rfl)
          have h3 := (h.turn (a' := (sepT (blkT w1.heap.size 106 #[.string a1, .string a2, .slice A3 l3.length c3, .slice none 0 0]) (sepT (crT p bs s4) (sepT (blkT W.heap.size 106 #[.string ⟨#[]⟩, .string ⟨#[]⟩, .slice none 0 0, .slice none 0 0]) (sepT (txT.slT 9 (.slice A3 l3.length c3) l3) (sepT (inT.slT 146 (.slice A4 l4.length c4) l4) R)))))) (by ac_rfl)).setBlk 3 (.slice A4 l4.length c4)
          have HF : Hid (Lies N w0 _ (sepT (blkT W.heap.size 106 #[.string a1, .string a2, .slice A3 l3.length c3, .slice A4 l4.length c4]) (sepT (crT p bs s4) (sepT (blkT w1.heap.size 106 #[.string a1, .string a2, .slice A3 l3.length c3, .slice A4 l4.length c4]) (sepT (txT.slT 9 (.slice A3 l3.length c3) l3) (sepT (inT.slT 146 (.slice A4 l4.length c4) l4) R)))))) := Lib.hid (((((h3.turn (a' := (sepT (blkT W.heap.size 106 #[.string ⟨#[]⟩, .string ⟨#[]⟩, .slice none 0 0, .slice none 0 0]) (sepT (crT p bs s4) (sepT (blkT w1.heap.size 106 #[.string a1, .string a2, .slice A3 l3.length c3, .slice A4 l4.length c4]) (sepT (txT.slT 9 (.slice A3 l3.length c3) l3) (sepT (inT.slT 146 (.slice A4 l4.length c4) l4) R)))))) (by ac_rfl)).setBlk 0 (.string a1)).setBlk 1 (.string a2)).setBlk 2 (.slice A3 l3.length c3)).setBlk 3 (.slice A4 l4.length c4))
          clear h h1 h3
          go_wp2_with fail
          refine bodyPost_ret (results_cell_row rfl _ _ W.heap.size 106 #[.string a1, .string a2, .slice A3 l3.length c3, .slice A4 l4.length c4] (0, 0) _ rfl HF.out.blk.1 Try.underlying106 rfl (by kernel_rfl)) rfl ?_
          rw [HE.out]
          have hd := (HF.out.drop.turn (a' := (sepT (blkT w1.heap.size 106 #[.string a1, .string a2, .slice A3 l3.length c3, .slice A4 l4.length c4]) (sepT (txT.slT 9 (.slice A3 l3.length c3) l3) (sepT (inT.slT 146 (.slice A4 l4.length c4) l4) (sepT (crT p bs s4) R))))) (by ac_rfl)).drop
          exact ⟨HZ4.out, [.string a1, .string a2, .slice A3 l3.length c3, .slice A4 l4.length c4], rfl, (fu_in (x := ⟨a1, a2, l3, l4⟩) HZ1.out.1 HZ2.out.1 hd).turn (by ac_rfl)⟩
set_option maxRecDepth 100000 in
set_option maxHeartbeats 1600000 in
theorem rsite_any (hs : s.2.1 = 0) (H : Lies N w0 W (sepT (crT p bs s) R)) : Calls Try.prog 69 #[.pointer (some ⟨p, 0, none⟩)] W (RdT N w0 R p bs stT.el (stR bs s)) := by
  have HC := Lib.hid (rnum_any hs ((H.newBlk 99 #[.int .i64 0, .string ⟨#[]⟩, .string ⟨#[]⟩]).turn (a' := (sepT (crT p bs s) (sepT (blkT W.heap.size 99 #[.int .i64 0, .string ⟨#[]⟩, .string ⟨#[]⟩]) R))) (by ac_rfl)))
  clear H hs
  go_enter Try.func69, Try.ntmps69
  go_wp2_with fail
  refine HC.out.mono ?_
  intro e w1 hr
  clear HC
  unfold RdP at hr
  rcases h1 : numR bs s with f | ⟨⟨n1, at_⟩, s1⟩ <;> rw [h1] at hr
  · obtain ⟨rfl, k, h⟩ := hr
    have HE : Hid (stR bs s = .error f) := Lib.hid (by unfold stR; rw [bind_err h1])
    have HF := Lib.hid (h.turn (a' := (sepT (blkT W.heap.size 99 #[.int .i64 0, .string ⟨#[]⟩, .string ⟨#[]⟩]) (sepT (crT p bs k) R))) (by ac_rfl)).drop
    clear h h1
    go_wp2_with fail
    refine ⟨rfl, ?_⟩
    rw [HE.out]
    exact ⟨rfl, _, HF.out⟩
  · have H1 := Lib.hid h1
    obtain ⟨rfl, h⟩ := hr
    have HZ1 := Lib.hid (numR_iz h1)
    have HC := Lib.hid (rword_any h)
    clear h h1
    go_wp2_with fail
    refine HC.out.mono ?_
    intro e w2 hr
    clear HC
    unfold RdP at hr
    rcases h1 : wordR bs s1 with f | ⟨a2, s2⟩ <;> rw [h1] at hr
    · obtain ⟨rfl, k, h⟩ := hr
      have HE : Hid (stR bs s = .error f) := Lib.hid (by unfold stR; rw [bind_ok H1.out, bind_err h1])
      have HF := Lib.hid (h.turn (a' := (sepT (blkT W.heap.size 99 #[.int .i64 0, .string ⟨#[]⟩, .string ⟨#[]⟩]) (sepT (crT p bs k) R))) (by ac_rfl)).drop
      clear h h1
      go_wp2_with fail
      refine ⟨rfl, ?_⟩
      rw [HE.out]
      exact ⟨rfl, _, HF.out⟩
    · have H2 := Lib.hid h1
      obtain ⟨rfl, h⟩ := hr
      have HZ2 := Lib.hid (wordR_ok h1)
      have hlt := (h.turn (a' := (sepT (blkT W.heap.size 99 #[.int .i64 0, .string ⟨#[]⟩, .string ⟨#[]⟩]) (sepT (crT p bs s2) R))) (by ac_rfl)).blk.1.lt
      have hne1 : ¬ w2.heap.size = W.heap.size := by omega
      have hne2 : ¬ W.heap.size = w2.heap.size := by omega
      clear hlt
      have hn := h.newBlk 99 #[.int .i64 n1, .string a2, .string ⟨#[]⟩]
      have HC := Lib.hid (rword_any (hn.turn (a' := (sepT (crT p bs s2) (sepT (blkT W.heap.size 99 #[.int .i64 0, .string ⟨#[]⟩, .string ⟨#[]⟩]) (sepT (blkT w2.heap.size 99 #[.int .i64 n1, .string a2, .string ⟨#[]⟩]) R)))) (by ac_rfl)))
      clear h h1 hn
      go_wp2_with fail
      refine HC.out.mono ?_
      intro e w3 hr
      clear HC
      unfold RdP at hr
      rcases h1 : wordR bs s2 with f | ⟨a3, s3⟩ <;> rw [h1] at hr
      · obtain ⟨rfl, k, h⟩ := hr
        have HE : Hid (stR bs s = .error f) := Lib.hid (by unfold stR; rw [bind_ok H1.out, bind_ok H2.out, bind_err h1])
        have HF := Lib.hid (h.turn (a' := (sepT (blkT W.heap.size 99 #[.int .i64 0, .string ⟨#[]⟩, .string ⟨#[]⟩]) (sepT (blkT w2.heap.size 99 #[.int .i64 n1, .string a2, .string ⟨#[]⟩]) (sepT (crT p bs k) R)))) (by ac_rfl)).drop.drop
        clear h h1
        go_wp2_with fail
        refine ⟨rfl, ?_⟩
        rw [HE.out]
        exact ⟨rfl, _, HF.out⟩
      · have H3 := Lib.hid h1
        obtain ⟨rfl, h⟩ := hr
        have HZ3 := Lib.hid (wordR_ok h1)
        have hbe := (h.turn (a' := (sepT (blkT w2.heap.size 99 #[.int .i64 n1, .string a2, .string ⟨#[]⟩]) (sepT (crT p bs s3) (sepT (blkT W.heap.size 99 #[.int .i64 0, .string ⟨#[]⟩, .string ⟨#[]⟩]) R)))) (by ac_rfl)).blk.1
        have e0 := hbe.cell 0
        have ef0 := hbe.frozen 0
        have e1 := hbe.cell 1
        have ef1 := hbe.frozen 1
        have e2 := hbe.cell 2
        have ef2 := hbe.frozen 2
        simp at e0 e1 e2
        clear hbe
        have hbg := (h.turn (a' := (sepT (blkT W.heap.size 99 #[.int .i64 0, .string ⟨#[]⟩, .string ⟨#[]⟩]) (sepT (crT p bs s3) (sepT (blkT w2.heap.size 99 #[.int .i64 n1, .string a2, .string ⟨#[]⟩]) R)))) (by ac_rfl)).blk.1
        have g0 := hbg.cell 0
        have gf0 := hbg.frozen 0
        have g1 := hbg.cell 1
        have gf1 := hbg.frozen 1
        have g2 := hbg.cell 2
        have gf2 := hbg.frozen 2
        simp at g0 g1 g2
        clear hbg
        have HE : Hid (stR bs s = .ok (⟨n1, a2, a3⟩, s3)) := Lib.hid (by unfold stR; rw [bind_ok H1.out, bind_ok H2.out, bind_ok H3.out]; rfl)
        have h3 := (h.turn (a' := (sepT (blkT w2.heap.size 99 #[.int .i64 n1, .string a2, .string ⟨#[]⟩]) (sepT (crT p bs s3) (sepT (blkT W.heap.size 99 #[.int .i64 0, .string ⟨#[]⟩, .string ⟨#[]⟩]) R)))) (by ac_rfl)).setBlk 2 (.string a3)
        have HF : Hid (Lies N w0 _ (sepT (blkT W.heap.size 99 #[.int .i64 n1, .string a2, .string a3]) (sepT (crT p bs s3) (sepT (blkT w2.heap.size 99 #[.int .i64 n1, .string a2, .string a3]) R)))) := Lib.hid ((((h3.turn (a' := (sepT (blkT W.heap.size 99 #[.int .i64 0, .string ⟨#[]⟩, .string ⟨#[]⟩]) (sepT (crT p bs s3) (sepT (blkT w2.heap.size 99 #[.int .i64 n1, .string a2, .string a3]) R)))) (by ac_rfl)).setBlk 0 (.int .i64 n1)).setBlk 1 (.string a2)).setBlk 2 (.string a3))
        clear h h1 h3
        go_wp2_with fail
        refine bodyPost_ret (results_cell_row rfl _ _ W.heap.size 99 #[.int .i64 n1, .string a2, .string a3] (0, 0) _ rfl HF.out.blk.1 Try.underlying99 rfl (by kernel_rfl)) rfl ?_
        rw [HE.out]
        have hd := (HF.out.drop.turn (a' := (sepT (blkT w2.heap.size 99 #[.int .i64 n1, .string a2, .string a3]) (sepT (crT p bs s3) R))) (by ac_rfl)).drop
        exact ⟨HZ3.out.2, [.int .i64 n1, .string a2, .string a3], rfl, (st_in (x := ⟨n1, a2, a3⟩) HZ1.out HZ2.out.1 HZ3.out.1 hd).turn (by ac_rfl)⟩
end
end Go.Proofs.Ytcapdmicekialaa
