/- CodecEncodes, walked. -/
import Derived.Test.YtcapdmicekialaaGreatCoKnAll
import Derived.Test.YtcapdmicekialaaGreatCoXEnc
import Derived.Test.YtcapdmicekialaaGreatCoCopy2
namespace Go.Proofs.YtcapdmicekialaaGreat
open Go.RowKit
set_option linter.unusedVariables false
set_option linter.unusedSimpArgs false
attribute [local go_sem] Oper.semAt_some run_store_func run_store_nilFunc
section
variable {W : World}
theorem empty_told {cs : List Value} {m : Md} (h : mdK.tells W cs m) : mdK.told (At W.heap.size W empT) cs m := mdK.keep h fun W' ⟨R, hW⟩ => ⟨W, rfl, hW.below⟩
theorem empty_lies (W : World) : Lies W.heap.size W W (sepT empT empT) := by rw [sep_empT]; exact Lies.nil W
theorem xenc_reads (cs : List Value) (m : Md) (h : mdK.tells W cs m) : Calls Tryz.prog 9 #[.agg cs.toArray] W fun e w' => ∃ A c, e = .returned (.tuple #[.slice A (encM m).1.length c, .int .i64 (encM m).2]) ∧ Lies W.heap.size W w' (byT A c (encM m).1) := by
  refine (xenc_any cs m (empty_told h) (empty_lies W)).mono ?_
  rintro e w' ⟨A, c, he, h⟩
  exact ⟨A, c, he, by rw [sep_empT, sep_empT] at h; exact h⟩
theorem cp_reads (cs : List Value) (m : Md) (h : mdK.tells W cs m) (hf : fMd m) : Calls Tryz.prog 7 #[.agg cs.toArray] W fun e w' => ∃ (a b c d : Option Addr) (k1 k2 k3 k4 : Nat), e = .returned (.agg #[.slice a m.table.length k1, .slice b m.sites.length k2, .slice c m.pool.length k3, .slice d m.funcs.length k4]) ∧ mdK.tells w' [.slice a m.table.length k1, .slice b m.sites.length k2, .slice c m.pool.length k3, .slice d m.funcs.length k4] m ∧ Below W.heap.size W w' := by
  refine (cpMd_any cs m (empty_told h) hf (empty_lies W)).mono ?_
  rintro e w' ⟨a, b, c, d, k1, k2, k3, k4, he, h⟩
  obtain ⟨M, h1, h2⟩ := mdT.told h
  exact ⟨a, b, c, d, k1, k2, k3, k4, he, Kind.one h2 ⟨_, h1⟩, h.below⟩
theorem enc_short {m : Md} (hi : NumsOk m) : (encM m).1.length ≤ 140737488355328 := by
  by_cases h : (encM m).2 = 0
  · have := enc_len hi h
    rw [(enc_ok hi h).2]
    show (mdF.enc m).length ≤ _
    omega
  · rw [(enc_no h).1]; simp
set_option maxRecDepth 100000 in
set_option maxHeartbeats 3200000 in
theorem encs_any (cs : List Value) (m : Md) (W : World) (hm : mdK.tells W cs m) (hf : fMd m) : Calls Tryz.prog 3 #[.agg cs.toArray] W (RetB true W) := by
  have HNum := Lib.hid (enc_short (nums_told hm))
  have HFt := Lib.hid hf
  have h0 := hm
  obtain ⟨t, s, p, f, rfl, k1, k2, k3, k4⟩ := h0
  obtain ⟨a1, c1, rfl, _⟩ := Kind.sl_form k1
  obtain ⟨a2, c2, rfl, _⟩ := Kind.sl_form k2
  obtain ⟨a3, c3, rfl, _⟩ := Kind.sl_form k3
  obtain ⟨a4, c4, rfl, _⟩ := Kind.sl_form k4
  have hba := below_alloc W (.cells #[.slice a1 m.table.length c1, .slice a2 m.sites.length c2, .slice a3 m.pool.length c3, .slice a4 m.funcs.length c4] 27)
  have HB := Lib.hid hba
  have HM := Lib.hid (Kind.below hm hba)
  have HBk := Lib.hid (Blk.new W 27 #[.slice a1 m.table.length c1, .slice a2 m.sites.length c2, .slice a3 m.pool.length c3, .slice a4 m.funcs.length c4])
  obtain ⟨U0, hU0⟩ : ∃ U0, U0 = W.alloc (.cells #[.slice a1 m.table.length c1, .slice a2 m.sites.length c2, .slice a3 m.pool.length c3, .slice a4 m.funcs.length c4] 27) := ⟨_, rfl⟩
  have HU0 := Lib.hid hU0
  have HC1 : Hid (∀ w', Below U0.heap.size U0 w' → (w'.cell? ⟨W.heap.size, 0, none⟩ = some (.slice a1 m.table.length c1) ∧ w'.cell? ⟨W.heap.size, 1, none⟩ = some (.slice a2 m.sites.length c2) ∧ w'.cell? ⟨W.heap.size, 2, none⟩ = some (.slice a3 m.pool.length c3) ∧ w'.cell? ⟨W.heap.size, 3, none⟩ = some (.slice a4 m.funcs.length c4)) ∧ mdK.tells w' [.slice a1 m.table.length c1, .slice a2 m.sites.length c2, .slice a3 m.pool.length c3, .slice a4 m.funcs.length c4] m ∧ Below W.heap.size W w') :=
    Lib.hid fun w' h => by
      subst hU0
      have hb := HBk.out.below h (by simp)
      exact ⟨⟨hb.cell 0, hb.cell 1, hb.cell 2, hb.cell 3⟩, Kind.below HM.out h, HB.out.trans (h.mono HB.out.size)⟩
  have HL : Hid (∀ w', Below U0.heap.size U0 w' → Calls Tryz.prog 5 #[.agg #[.slice a1 m.table.length c1, .slice a2 m.sites.length c2, .slice a3 m.pool.length c3, .slice a4 m.funcs.length c4]] w' (RetAny w')) := Lib.hid fun w' h => lmod_any (HC1.out w' h).2.1
  have HL0 := Lib.hid (HL.out U0 (Below.refl _ _))
  rw [HU0.out] at HL0
  show Calls Tryz.prog 3 #[.agg #[.slice a1 m.table.length c1, .slice a2 m.sites.length c2, .slice a3 m.pool.length c3, .slice a4 m.funcs.length c4]] W _
  clear hm k1 k2 k3 k4 hba HBk HM HB hU0 hf HL
  go_enter Tryz.func3, Tryz.ntmps3
  go_wp2_with fail
  refine HL0.out.mono ?_
  rintro e w1 ⟨⟨b, rfl⟩, hb⟩
  rw [← HU0.out] at hb
  have HB1 := Lib.hid hb
  obtain ⟨⟨e0, e1, e2, e3⟩, ht, hbw⟩ := HC1.out _ hb
  have HCp := Lib.hid (cp_reads _ m ht HFt.out)
  have HF := Lib.hid hbw
  clear hb HL0 ht hbw
  cases b with
  | true =>
    clear HCp HC1
    go_wp2_with fail
    refine (awake_any w1).mono ?_
    rintro e w2 ⟨rfl, hb⟩
    have HF2 := Lib.hid (HF.out.trans (hb.mono HF.out.size))
    clear hb
    go_wp2_with fail
    go_ret
    exact ⟨rfl, HF2.out⟩
  | false =>
    go_wp2_with fail
    refine HCp.out.mono ?_
    rintro e w2 ⟨i1, i2, i3, i4, q1, q2, q3, q4, rfl, hti, hb⟩
    have HB2 := Lib.hid (HB1.out.trans (hb.mono HB1.out.size))
    have hba := below_alloc w2 (.cells #[.slice i1 m.table.length q1, .slice i2 m.sites.length q2, .slice i3 m.pool.length q3, .slice i4 m.funcs.length q4] 27)
    have HTi := Lib.hid (Kind.below hti hba)
    have HBk := Lib.hid (Blk.new w2 27 #[.slice i1 m.table.length q1, .slice i2 m.sites.length q2, .slice i3 m.pool.length q3, .slice i4 m.funcs.length q4])
    have HB3 := Lib.hid (HB2.out.trans (hba.mono HB2.out.size))
    obtain ⟨U3, hU3⟩ : ∃ U3, U3 = w2.alloc (.cells #[.slice i1 m.table.length q1, .slice i2 m.sites.length q2, .slice i3 m.pool.length q3, .slice i4 m.funcs.length q4] 27) := ⟨_, rfl⟩
    have HU3 := Lib.hid hU3
    have HC3 : Hid (∀ w', Below U3.heap.size U3 w' → (w'.cell? ⟨w2.heap.size, 0, none⟩ = some (.slice i1 m.table.length q1) ∧ w'.cell? ⟨w2.heap.size, 1, none⟩ = some (.slice i2 m.sites.length q2) ∧ w'.cell? ⟨w2.heap.size, 2, none⟩ = some (.slice i3 m.pool.length q3) ∧ w'.cell? ⟨w2.heap.size, 3, none⟩ = some (.slice i4 m.funcs.length q4)) ∧ mdK.tells w' [.slice i1 m.table.length q1, .slice i2 m.sites.length q2, .slice i3 m.pool.length q3, .slice i4 m.funcs.length q4] m ∧ Below U0.heap.size U0 w') :=
      Lib.hid fun w' h => by
        subst hU3
        have hb := HBk.out.below h (by simp)
        exact ⟨⟨hb.cell 0, hb.cell 1, hb.cell 2, hb.cell 3⟩, Kind.below HTi.out h, HB3.out.trans (h.mono HB3.out.size)⟩
    have hte := (HC3.out U3 (Below.refl _ _)).2.1
    have HE := Lib.hid (enc_reads _ m hte)
    rw [HU3.out] at HE
    clear hb hti hba HTi HBk HB3 HB2 HCp HF e0 e1 e2 e3 hU3 hte HB1
    go_wp2_with fail
    refine HE.out.mono ?_
    rintro e w4 ⟨A, c, rfl, h⟩
    rw [← HU3.out] at h
    have HY := Lib.hid h
    obtain ⟨⟨e0, e1, e2, e3⟩, ht, _⟩ := HC1.out _ (HC3.out _ h.below).2.2
    have HX := Lib.hid (xenc_reads _ m ht)
    clear h HE ht
    go_wp2_with fail
    refine HX.out.mono ?_
    rintro e w5 ⟨A5, c5, rfl, h⟩
    have hcalm := HY.out.calm h.below
    have HY5 := Lib.hid hcalm
    have hs := same_any A A5 c c5 (encM m).1 (encM m).1 w5 (by_reads hcalm) (by_reads h)
    rw [decide_eq_true rfl] at hs
    have hov := hcalm.hold1.over 0 rfl HNum.out
    generalize encM m = r at *
    obtain ⟨bs, er⟩ := r
    have HS : Hid (Calls Tryz.prog _ #[.slice A bs.length c, .slice A5 bs.length c5] w5 _) := Lib.hid hs
    have HOv : Hid (Calls Tryz.prog 11 #[.slice A bs.length c] w5 _) := Lib.hid hov
    clear h hcalm hs hov HX HY e0 e1 e2 e3
    go_wp2_with fail
    refine HS.out.mono ?_
    rintro e w6 ⟨rfl, rfl⟩
    clear HS
    go_wp2_with fail
    refine HOv.out.mono ?_
    rintro e w7 ⟨rfl, h⟩
    have HB7 := Lib.hid h.below
    obtain ⟨⟨f0, f1, f2, f3⟩, hti, hbu⟩ := HC3.out _ h.below
    obtain ⟨⟨e0, e1, e2, e3⟩, ht, _⟩ := HC1.out _ hbu
    have hsm := sameMd_any hti ht
    rw [decide_eq_true rfl] at hsm
    have HSm := Lib.hid hsm
    clear h hti hbu ht hsm HOv
    go_wp2_with fail
    refine HSm.out.mono ?_
    rintro e w8 ⟨rfl, hb⟩
    have HF8 := Lib.hid (HC1.out _ (HC3.out _ (HB7.out.trans (hb.mono HB7.out.size))).2.2).2.2
    clear hb HSm e0 e1 e2 e3 f0 f1 f2 f3
    go_wp2_with fail
    refine (awake_any w8).mono ?_
    rintro e w9 ⟨rfl, hb⟩
    have HF9 := Lib.hid (HF8.out.trans (hb.mono HF8.out.size))
    clear hb
    go_wp2_with fail
    go_ret
    exact ⟨rfl, HF9.out⟩
end
end Go.Proofs.YtcapdmicekialaaGreat
