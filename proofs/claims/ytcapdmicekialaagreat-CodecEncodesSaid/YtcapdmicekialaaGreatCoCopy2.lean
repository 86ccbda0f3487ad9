/- CopyClass, CopyTable, CopyModule. Printed by gen_copy.py. -/
import Derived.Test.YtcapdmicekialaaGreatCoCopy
import Derived.Test.YtcapdmicekialaaGreatCoDec
import Derived.Test.YtcapdmicekialaaGreatCoOpen
namespace Go.Proofs.YtcapdmicekialaaGreat
open Go.RowKit
set_option linter.unusedVariables false
set_option linter.unusedSimpArgs false
attribute [local go_sem] Oper.semAt_some run_store_func run_store_nilFunc
section
variable {N : Nat} {w0 W : World} {R M : Thing}
set_option maxRecDepth 100000 in
set_option maxHeartbeats 6400000 in
theorem cpCl_any (cs : List Value) (x : Cl) (h : clK.told (At N w0 M) cs x) (hf : fCl x) (H : Lies N w0 W (sepT M R)) : Calls Tryz.prog 71 #[.agg cs.toArray] W fun e W' => ∃ (a b : Option Addr) (c d : Nat), e = .returned (.agg #[.string x.name, .string x.super, .slice a x.fields.length c, .slice b x.methods.length d]) ∧ Lies N w0 W' (sepT (clT.el [.string x.name, .string x.super, .slice a x.fields.length c, .slice b x.methods.length d] x) (sepT M R)) := by
  obtain ⟨fs, ms, rfl, z1, z2, f1, f3⟩ := h
  obtain ⟨A5, c5, css5, rfl, hr5, ho5, hall5, hl5⟩ := leaf_out vrL f1
  obtain ⟨A7, c7, rfl, hl7⟩ := Kind.sl_form f3
  obtain ⟨hf1, hf2, hf3⟩ := hf
  have HF3 := Lib.hid hf3
  have HAll5 := Lib.hid hall5
  have HZ := Lib.hid (And.intro z1 z2)
  obtain ⟨k, hk⟩ : ∃ k, k = x.methods.length := ⟨_, rfl⟩
  obtain ⟨kf, hkf⟩ : ∃ k, k = x.fields.length := ⟨_, rfl⟩
  have HK := Lib.hid (And.intro hk hkf)
  have F3 : Hid (sgK.slS (At N w0 M) (.slice A7 k c7) x.methods) := Lib.hid (by rw [hk]; exact f3)
  rw [← hkf] at hr5 hl5 hf1
  rw [← hk] at hl7 hf2
  rw [← hk, ← hkf]
  have hb := ((H.newBlk 66 #[.string x.name, .string x.super, .slice A5 kf c5, .slice A7 k c7]).newBlk 66 #[.string ⟨#[]⟩, .string ⟨#[]⟩, .slice none 0 0, .slice none 0 0])
  rw [show (W.alloc (.cells #[.string x.name, .string x.super, .slice A5 kf c5, .slice A7 k c7] 66)).heap.size = W.heap.size + 1 by simp] at hb
  have HH := Lib.hid (hb.turn (a' := (sepT M (sepT (blkT W.heap.size 66 #[.string x.name, .string x.super, .slice A5 kf c5, .slice A7 k c7]) (sepT (blkT (W.heap.size + 1) 66 #[.string ⟨#[]⟩, .string ⟨#[]⟩, .slice none 0 0, .slice none 0 0]) R)))) (by ac_rfl))
  have HX := Lib.hid (hr5 _ ⟨_, HH.out.alloc (.cells #[] 140)⟩)
  have HO := Lib.hid (empty_own ((W.alloc (.cells #[.string x.name, .string x.super, .slice A5 kf c5, .slice A7 k c7] 66)).alloc (.cells #[.string ⟨#[]⟩, .string ⟨#[]⟩, .slice none 0 0, .slice none 0 0] 66)) 140 2)
  rw [show ((W.alloc (.cells #[.string x.name, .string x.super, .slice A5 kf c5, .slice A7 k c7] 66)).alloc (.cells #[.string ⟨#[]⟩, .string ⟨#[]⟩, .slice none 0 0, .slice none 0 0] 66)).heap.size = W.heap.size + 1 + 1 by simp] at HO
  have hms := @HF3
  obtain ⟨i0, hi0, hz0, hz1, hz2⟩ := info_parts info_lVr
  clear hms H hb hr5 hall5 z1 z2 hf3 f1 f3 hk hkf
  show Calls Tryz.prog 71 #[.agg #[.string x.name, .string x.super, .slice A5 kf c5, .slice A7 k c7]] W _
  go_enter Tryz.func71, Tryz.ntmps71
  go_wp2_with (at_builtin; refine wpList_append_any _ rfl (.tmp 6) (.tmp 8) _ rfl (W.heap.size + 1 + 1) 140 i0 _ 2 32 Tryz.underlying63 hi0 hz0 hz1 hz2 rfl (by decide) (.slice (some ⟨W.heap.size + 1 + 1, 0, none⟩) 0 0) 0 [] rfl HO.out _ A5 kf c5 css5.flatten rfl HX.out ho5 (by simp only [maxLen]; omega) (by omega) (by simp) ?_; go_must (intro v1 w1 hown hgrow hat; rw [Nat.zero_add, List.nil_append] at hown; obtain ⟨A1, c1, rfl, _⟩ := gro_form hown; have h1 := copied_at (T := vrT) (l := x.fields) (css := css5) (v' := .slice A1 kf c1) HH.out (by simp) HK.out.2 rfl hl5 HAll5.out hown hgrow; have hbx := (h1.turn (a' := (sepT (blkT W.heap.size 66 #[.string x.name, .string x.super, .slice A5 kf c5, .slice A7 k c7]) (sepT (vrT.slT 140 (.slice A1 kf c1) x.fields) (sepT M (sepT (blkT (W.heap.size + 1) 66 #[.string ⟨#[]⟩, .string ⟨#[]⟩, .slice none 0 0, .slice none 0 0]) R))))) (by ac_rfl)); have e0 := hbx.blk.1.cell 0; have e1 := hbx.blk.1.cell 1; have e2 := hbx.blk.1.cell 2; have e3 := hbx.blk.1.cell 3; have fz2 := hbx.blk.1.frozen 2; simp at e0 e1 e2 e3; have HH2 := Lib.hid (hbx.setBlk 2 (.slice A1 kf c1)); clear hbx h1 hown hgrow hat hi0 hz0 hz1 hz2 ho5))
  go_loopw [3, 4] (fun out ix wr => ∃ (i : Nat) (A : Option Addr) (c : Nat) (css : List (List Value)), out = .slice A i c ∧ ix = .int .i64 i ∧ i ≤ k ∧ Lies N w0 wr (sepT (sgT.gro 120 (.slice A i c) css (x.methods.take i)) (sepT (blkT W.heap.size 66 #[.string x.name, .string x.super, .slice A1 kf c1, .slice A7 k c7]) (sepT (vrT.slT 140 (.slice A1 kf c1) x.fields) (sepT M (sepT (blkT (W.heap.size + 1) 66 #[.string ⟨#[]⟩, .string ⟨#[]⟩, .slice none 0 0, .slice none 0 0]) R)))))) (fun _ ix _ => k - (intOf ix).toNat)
  case atStart => exact ⟨0, none, 0, [], rfl, rfl, Nat.zero_le _, sgT.gro_nil 120 HH2.out⟩
  case round =>
    clear HH2 e0 e1 e2 e3 fz2
    obtain ⟨i, A, c, css, rfl, rfl, hi, hh⟩ := hrel
    have HH := Lib.hid hh
    clear hh
    have hbx := (HH.out.turn (a' := (sepT (blkT W.heap.size 66 #[.string x.name, .string x.super, .slice A1 kf c1, .slice A7 k c7]) (sepT (sgT.gro 120 (.slice A i c) css (x.methods.take i)) (sepT (vrT.slT 140 (.slice A1 kf c1) x.fields) (sepT M (sepT (blkT (W.heap.size + 1) 66 #[.string ⟨#[]⟩, .string ⟨#[]⟩, .slice none 0 0, .slice none 0 0]) R)))))) (by ac_rfl))
    have e0 := hbx.blk.1.cell 0
    have e1 := hbx.blk.1.cell 1
    have e2 := hbx.blk.1.cell 2
    have e3 := hbx.blk.1.cell 3
    have fz3 := hbx.blk.1.frozen 3
    simp at e0 e1 e2 e3
    clear hbx
    by_cases hlt : i < k
    · have hlt' : (i : Int) < (k : Int) := by omega
      have hix : i < x.methods.length := by have := HK.out.1; omega
      have HTL : Hid ((x.methods.take i).length = i) := Lib.hid (by rw [List.length_take]; omega)
      have hAt : At N w0 M wr := ⟨_, (HH.out.turn (a' := (sepT M (sepT (sgT.gro 120 (.slice A i c) css (x.methods.take i)) (sepT (blkT W.heap.size 66 #[.string x.name, .string x.super, .slice A1 kf c1, .slice A7 k c7]) (sepT (vrT.slT 140 (.slice A1 kf c1) x.fields) (sepT (blkT (W.heap.size + 1) 66 #[.string ⟨#[]⟩, .string ⟨#[]⟩, .slice none 0 0, .slice none 0 0]) R)))))) (by ac_rfl))⟩
      obtain ⟨b2, o2, d2, cs2, hv2, ht2, hat2⟩ := Kind.sl_atS (by have h := F3.out; have e := HK.out.1; rw [e] at h ⊢; exact h : sgK.slS (At N w0 M) (.slice A7 k c7) x.methods) (by decide) hAt i hix
      obtain rfl : A7 = some ⟨b2, o2, none⟩ := by injection hv2
      have HTk : Hid (x.methods.take (i + 1) = x.methods.take i ++ [x.methods[i]]) := Lib.hid (List.take_succ_eq_append_getElem hix)
      have hfy := HF3.out x.methods[i] (List.getElem_mem hix)
      generalize x.methods[i] = y at *
      obtain ⟨ps, rfl, y1, y2, f5⟩ := ht2
      obtain ⟨A9, c9, css9, rfl, hr9, ho9, hall9, hl9⟩ := leaf_out vrL f5
      obtain ⟨ny, hny⟩ : ∃ n, n = y.params.length := ⟨_, rfl⟩
      have HNy := Lib.hid hny
      unfold fSg at hfy
      have r0 := hat2 wr hAt 0 _ rfl
      have r1 := hat2 wr hAt 1 _ rfl
      have r2 := hat2 wr hAt 2 _ rfl
      rw [show sgK.size = 3 from rfl] at r0 r1 r2
      rw [Nat.add_zero] at r0
      rw [← hny] at hr9 hl9 hfy r1
      have HYz := Lib.hid (And.intro y1 y2)
      have HAll9 := Lib.hid hall9
      have hv := (HH.out.newBlk 120 #[.string y.name, .slice A9 ny c9, .string y.result]).turn (a' := (sepT (blkT wr.heap.size 120 #[.string y.name, .slice A9 ny c9, .string y.result]) (sepT (sgT.gro 120 (.slice A i c) css (x.methods.take i)) (sepT (blkT W.heap.size 66 #[.string x.name, .string x.super, .slice A1 kf c1, .slice (some ⟨b2, o2, none⟩) k c7]) (sepT (vrT.slT 140 (.slice A1 kf c1) x.fields) (sepT M (sepT (blkT (W.heap.size + 1) 66 #[.string ⟨#[]⟩, .string ⟨#[]⟩, .slice none 0 0, .slice none 0 0]) R))))))) (by ac_rfl)
      have HV := Lib.hid hv
      have HX9 := Lib.hid (hr9 _ ⟨_, ((HV.out.alloc (.cells #[] 140)).turn (a' := (sepT M (sepT (blkT wr.heap.size 120 #[.string y.name, .slice A9 ny c9, .string y.result]) (sepT (sgT.gro 120 (.slice A i c) css (x.methods.take i)) (sepT (blkT W.heap.size 66 #[.string x.name, .string x.super, .slice A1 kf c1, .slice (some ⟨b2, o2, none⟩) k c7]) (sepT (vrT.slT 140 (.slice A1 kf c1) x.fields) (sepT (blkT (W.heap.size + 1) 66 #[.string ⟨#[]⟩, .string ⟨#[]⟩, .slice none 0 0, .slice none 0 0]) R))))))) (by ac_rfl))⟩)
      have HO9 := Lib.hid (empty_own (wr.alloc (.cells #[.string y.name, .slice A9 ny c9, .string y.result] 120)) 140 2)
      rw [show (wr.alloc (.cells #[.string y.name, .slice A9 ny c9, .string y.result] 120)).heap.size = wr.heap.size + 1 by simp] at HO9
      obtain ⟨i0, hi0, hz0, hz1, hz2⟩ := info_parts info_lVr
      obtain ⟨j0, hj0, hw0, hw1, hw2⟩ := info_parts info_lSg
      clear hv hAt hv2 hat2 hr9 hall9 y1 y2 f5 hny HH
      go_wp2_with (first | (at_builtin; refine wpList_append_any _ rfl (.tmp 23) (.tmp 25) _ rfl (wr.heap.size + 1) 140 i0 _ 2 32 Tryz.underlying63 hi0 hz0 hz1 hz2 rfl (by decide) (.slice (some ⟨wr.heap.size + 1, 0, none⟩) 0 0) 0 [] rfl HO9.out _ A9 ny c9 css9.flatten rfl HX9.out ho9 (by simp only [maxLen]; omega) (by omega) (by simp) ?_; go_must (intro v1 w2 hown hgrow hat; rw [Nat.zero_add, List.nil_append] at hown; obtain ⟨A10, c10, rfl, _⟩ := gro_form hown; have h1 := copied_at (T := vrT) (l := y.params) (css := css9) (v' := .slice A10 ny c10) HV.out (by simp) HNy.out rfl hl9 HAll9.out hown hgrow; have hbx := (h1.turn (a' := (sepT (blkT wr.heap.size 120 #[.string y.name, .slice A9 ny c9, .string y.result]) (sepT (vrT.slT 140 (.slice A10 ny c10) y.params) (sepT (sgT.gro 120 (.slice A i c) css (x.methods.take i)) (sepT (blkT W.heap.size 66 #[.string x.name, .string x.super, .slice A1 kf c1, .slice (some ⟨b2, o2, none⟩) k c7]) (sepT (vrT.slT 140 (.slice A1 kf c1) x.fields) (sepT M (sepT (blkT (W.heap.size + 1) 66 #[.string ⟨#[]⟩, .string ⟨#[]⟩, .slice none 0 0, .slice none 0 0]) R)))))))) (by ac_rfl)); have q0 := hbx.blk.1.cell 0; have q1 := hbx.blk.1.cell 1; have q2 := hbx.blk.1.cell 2; have qf := hbx.blk.1.frozen 1; simp at q0 q1 q2; have h2 := (hbx.setBlk 1 (.slice A10 ny c10)); have h3 : Lies N w0 (w2.setCell ⟨wr.heap.size, 1, none⟩ (.slice A10 ny c10)) (sepT (vrT.slT 140 (.slice A10 ny c10) y.params) (sepT (sgT.gro 120 (.slice A i c) css (x.methods.take i)) (sepT (blkT W.heap.size 66 #[.string x.name, .string x.super, .slice A1 kf c1, .slice (some ⟨b2, o2, none⟩) k c7]) (sepT (vrT.slT 140 (.slice A1 kf c1) x.fields) (sepT M (sepT (blkT (W.heap.size + 1) 66 #[.string ⟨#[]⟩, .string ⟨#[]⟩, .slice none 0 0, .slice none 0 0]) R)))))) := h2.drop; have HG := Lib.hid ((sg_in (x := y) (A := A10) (c := c10) HYz.out.1 HYz.out.2 (by rw [← HNy.out]; exact h3)).turn (a' := (sepT (sgT.gro 120 (.slice A i c) css (x.methods.take i)) (sepT (sgT.el [.string y.name, .slice A10 y.params.length c10, .string y.result] y) (sepT (blkT W.heap.size 66 #[.string x.name, .string x.super, .slice A1 kf c1, .slice (some ⟨b2, o2, none⟩) k c7]) (sepT (vrT.slT 140 (.slice A1 kf c1) x.fields) (sepT M (sepT (blkT (W.heap.size + 1) 66 #[.string ⟨#[]⟩, .string ⟨#[]⟩, .slice none 0 0, .slice none 0 0]) R))))))) (by ac_rfl)); have hca := cells_arr (w2.setCell ⟨wr.heap.size, 1, none⟩ (.slice A10 ny c10)) #[.string y.name, .slice A10 ny c10, .string y.result] 120; rw [show (w2.setCell ⟨wr.heap.size, 1, none⟩ (.slice A10 ny c10)).heap.size = w2.heap.size by simp] at hca; have HCA := Lib.hid hca; clear hca; have hrow := sgT.gro_row (HG.out.alloc (.cells #[.string y.name, .slice A10 ny c10, .string y.result] 120)); rw [HTL.out] at hrow; have HRow := Lib.hid hrow; clear hbx h1 h2 h3 hrow hown hgrow hat hi0 hz0 hz1 hz2 ho9)) | (at_builtin; refine wpList_append_own_at _ rfl (.tmp 28) (.tmp 30) 64 rfl 0 120 j0 (.agg #[.string ⟨#[]⟩, .slice none 0 0, .string ⟨#[]⟩]) 3 56 Tryz.underlying64 hj0 hw0 hw1 hw2 rfl (by decide) (.slice A i c) i _ rfl HRow.out ⟨w2.heap.size, 0, none⟩ 1 1 [.string y.name, .slice A10 ny c10, .string y.result] rfl rfl HCA.out (by simp [Value.oneCell']) (by simp only [maxLen]; omega) (by omega) (Nat.zero_le _) ?_; go_must (intro v' w4 hown' hgrow' _ hat'; obtain ⟨B', d', rfl, _⟩ := gro_form hown')))
      have hga := sgT.gro_app (HG.out.alloc (.cells #[.string y.name, .slice A10 ny c10, .string y.result] 120)) (by rw [HTL.out, ← HNy.out]; exact hown') hgrow' hat'
      rw [← HTk.out] at hga
      refine ⟨⟨i + 1, B', d', css ++ [[.string y.name, .slice A10 y.params.length c10, .string y.result]], rfl, by go_num, by omega, hga⟩, by simp [intOf]; omega⟩
    · have hlt' : ¬ (i : Int) < (k : Int) := by omega
      obtain rfl : i = k := by omega
      have hh := HH.out
      rw [show x.methods.take i = x.methods from by rw [HK.out.1, List.take_length]] at hh
      have h1 := sgT.gro_sl (by rw [← HK.out.1]; exact hl7) hh
      have hbx := (h1.turn (a' := (sepT (blkT (W.heap.size + 1) 66 #[.string ⟨#[]⟩, .string ⟨#[]⟩, .slice none 0 0, .slice none 0 0]) (sepT (sgT.slT 120 (.slice A i c) x.methods) (sepT (blkT W.heap.size 66 #[.string x.name, .string x.super, .slice A1 kf c1, .slice A7 i c7]) (sepT (vrT.slT 140 (.slice A1 kf c1) x.fields) (sepT M R)))))) (by ac_rfl))
      have g0 := hbx.blk.1.cell 0
      have gf0 := hbx.blk.1.frozen 0
      have g1 := hbx.blk.1.cell 1
      have gf1 := hbx.blk.1.frozen 1
      have g2 := hbx.blk.1.cell 2
      have gf2 := hbx.blk.1.frozen 2
      have g3 := hbx.blk.1.cell 3
      have gf3 := hbx.blk.1.frozen 3
      simp at g0 g1 g2 g3
      have h2 := (hbx.turn (a' := (sepT (blkT W.heap.size 66 #[.string x.name, .string x.super, .slice A1 kf c1, .slice A7 i c7]) (sepT (sgT.slT 120 (.slice A i c) x.methods) (sepT (blkT (W.heap.size + 1) 66 #[.string ⟨#[]⟩, .string ⟨#[]⟩, .slice none 0 0, .slice none 0 0]) (sepT (vrT.slT 140 (.slice A1 kf c1) x.fields) (sepT M R)))))) (by ac_rfl)).setBlk 3 (.slice A i c)
      have hne1 : ¬ W.heap.size = W.heap.size + 1 := by omega
      have hne2 : ¬ W.heap.size + 1 = W.heap.size := by omega
      have HF : Hid (Lies N w0 _ (sepT (blkT (W.heap.size + 1) 66 #[.string x.name, .string x.super, .slice A1 kf c1, .slice A i c]) (sepT (blkT W.heap.size 66 #[.string x.name, .string x.super, .slice A1 kf c1, .slice A i c]) (sepT (sgT.slT 120 (.slice A i c) x.methods) (sepT (vrT.slT 140 (.slice A1 kf c1) x.fields) (sepT M R)))))) := Lib.hid (((((h2.turn (a' := (sepT (blkT (W.heap.size + 1) 66 #[.string ⟨#[]⟩, .string ⟨#[]⟩, .slice none 0 0, .slice none 0 0]) (sepT (blkT W.heap.size 66 #[.string x.name, .string x.super, .slice A1 kf c1, .slice A i c]) (sepT (sgT.slT 120 (.slice A i c) x.methods) (sepT (vrT.slT 140 (.slice A1 kf c1) x.fields) (sepT M R)))))) (by show sepT (blkT W.heap.size 66 #[.string x.name, .string x.super, .slice A1 kf c1, .slice A i c]) _ = _; ac_rfl)).setBlk 0 (.string x.name)).setBlk 1 (.string x.super)).setBlk 2 (.slice A1 kf c1)).setBlk 3 (.slice A i c))
      clear hh h1 h2 hbx HH
      go_wp2_with fail
      refine bodyPost_ret (results_cell_row rfl _ _ (W.heap.size + 1) 66 #[.string x.name, .string x.super, .slice A1 kf c1, .slice A i c] (0, 0) _ rfl HF.out.blk.1 Tryz.underlying66 rfl (by kernel_rfl)) rfl ?_
      refine ⟨A1, A, c1, c, rfl, ?_⟩
      have hd := (HF.out.drop.drop.turn (a' := (sepT (vrT.slT 140 (.slice A1 kf c1) x.fields) (sepT (sgT.slT 120 (.slice A i c) x.methods) (sepT M R)))) (by ac_rfl))
      have e1 := HK.out.1
      have e2 := HK.out.2
      skip
      have hfin := cl_in (x := x) (A := A1) (B := A) (c := c1) (d := c) HZ.out.1 HZ.out.2 (by rw [← HK.out.1, ← HK.out.2]; exact hd)
      rw [← HK.out.1, ← HK.out.2] at hfin
      exact hfin
set_option maxRecDepth 100000 in
set_option maxHeartbeats 3200000 in
theorem cpTb_any (l : List Cl) (v : Value) (hf : ∀ y ∈ l, fCl y) (hb : l.length * 80 ≤ 140737488355328) (hM : clK.slS (At N w0 M) v l) (H : Lies N w0 W (sepT M R)) : Calls Tryz.prog 21 #[v] W fun e W' => ∃ A c, e = .returned (.slice A l.length c) ∧ Lies N w0 W' (sepT (clT.slT 66 (.slice A l.length c) l) (sepT M R)) := by
  obtain ⟨A0, c0, rfl, hl⟩ := Kind.sl_form hM
  have HF := Lib.hid hf
  obtain ⟨k, hk⟩ : ∃ k, k = l.length := ⟨_, rfl⟩
  have HK := Lib.hid hk
  have HS : Hid (clK.slS (At N w0 M) (.slice A0 k c0) l) := Lib.hid (by rw [hk]; exact hM)
  rw [← hk] at hl hb ⊢
  have HH := Lib.hid (clT.gro_nil 66 H)
  clear hM hf hk H
  go_enter Tryz.func21, Tryz.ntmps21
  go_wp2_with fail
  go_loopw [3, 4] (fun out ix wr => ∃ (i : Nat) (A : Option Addr) (c : Nat) (css : List (List Value)), out = .slice A i c ∧ ix = .int .i64 i ∧ i ≤ k ∧ Lies N w0 wr (sepT (clT.gro 66 (.slice A i c) css (l.take i)) (sepT M R))) (fun _ ix _ => k - (intOf ix).toNat)
  case atStart => exact ⟨0, none, 0, [], rfl, rfl, Nat.zero_le _, HH.out⟩
  case round =>
    clear HH
    obtain ⟨i, A, c, css, rfl, rfl, hi, hh⟩ := hrel
    have HH := Lib.hid hh
    clear hh
    by_cases hlt : i < k
    · have hlt' : (i : Int) < (k : Int) := by omega
      have hix : i < l.length := by have := HK.out; omega
      have HTL : Hid ((l.take i).length = i) := Lib.hid (by rw [List.length_take]; omega)
      have hAt : At N w0 M wr := ⟨_, HH.out.turn (a' := sepT M (sepT (clT.gro 66 (.slice A i c) css (l.take i)) R)) (by ac_rfl)⟩
      obtain ⟨b2, o2, d2, cs2, hv2, ht2, hat2⟩ := Kind.sl_atS (by have h := HS.out; have e := HK.out; rw [e] at h ⊢; exact h : clK.slS (At N w0 M) (.slice A0 k c0) l) (by decide) hAt i hix
      obtain rfl : A0 = some ⟨b2, o2, none⟩ := by injection hv2
      have HTk : Hid (l.take (i + 1) = l.take i ++ [l[i]]) := Lib.hid (List.take_succ_eq_append_getElem hix)
      have hfy := HF.out l[i] (List.getElem_mem hix)
      have hc := cpCl_any cs2 l[i] ht2 hfy (HH.out.turn (a' := sepT M (sepT (clT.gro 66 (.slice A i c) css (l.take i)) R)) (by ac_rfl))
      generalize l[i] = x at *
      obtain ⟨fs, ms, rfl, _, _, f1, f3⟩ := ht2
      obtain ⟨A5, c5, rfl, _⟩ := Kind.sl_form f1
      obtain ⟨A7, c7, rfl, _⟩ := Kind.sl_form f3
      have HC : Hid (Calls Tryz.prog 71 #[.agg #[.string x.name, .string x.super, .slice A5 x.fields.length c5, .slice A7 x.methods.length c7]] wr fun e W' => ∃ (a b : Option Addr) (c' d : Nat), e = .returned (.agg #[.string x.name, .string x.super, .slice a x.fields.length c', .slice b x.methods.length d]) ∧ Lies N w0 W' (sepT (clT.el [.string x.name, .string x.super, .slice a x.fields.length c', .slice b x.methods.length d] x) (sepT M (sepT (clT.gro 66 (.slice A i c) css (l.take i)) R)))) := Lib.hid hc
      have r0 := hat2 wr hAt 0 _ rfl
      have r1 := hat2 wr hAt 1 _ rfl
      have r2 := hat2 wr hAt 2 _ rfl
      have r3 := hat2 wr hAt 3 _ rfl
      rw [show clK.size = 4 from rfl] at r0 r1 r2 r3
      rw [Nat.add_zero] at r0
      clear hc hat2 hv2 hAt f1 f3 HH hfy
      go_wp2_with fail
      refine HC.out.mono ?_
      rintro e w2 ⟨a1, b1, n1, n2, rfl, h⟩
      have HG := Lib.hid (h.turn (a' := sepT (clT.gro 66 (.slice A i c) css (l.take i)) (sepT (clT.el [.string x.name, .string x.super, .slice a1 x.fields.length n1, .slice b1 x.methods.length n2] x) (sepT M R))) (by ac_rfl))
      have hrow := clT.gro_row (HG.out.alloc (.cells #[.string x.name, .string x.super, .slice a1 x.fields.length n1, .slice b1 x.methods.length n2] 66))
      rw [HTL.out] at hrow
      have HRow := Lib.hid hrow
      obtain ⟨j0, hj0, hw0, hw1, hw2⟩ := info_parts info_lCl
      clear h hrow HC r0 r1 r2 r3
      go_wp2_with (at_builtin; refine wpList_append_own_at _ rfl (.tmp 11) (.tmp 17) 22 rfl 0 66 j0 (.agg #[.string ⟨#[]⟩, .string ⟨#[]⟩, .slice none 0 0, .slice none 0 0]) 4 80 Tryz.underlying22 hj0 hw0 hw1 hw2 rfl (by decide) (.slice A i c) i _ rfl HRow.out ⟨w2.heap.size, 0, none⟩ 1 1 [.string x.name, .string x.super, .slice a1 x.fields.length n1, .slice b1 x.methods.length n2] rfl rfl (cells_arr _ #[.string x.name, .string x.super, .slice a1 x.fields.length n1, .slice b1 x.methods.length n2] _) (by simp [Value.oneCell']) (by simp only [maxLen]; omega) (by omega) (Nat.zero_le _) ?_; go_must (intro v' w4 hown' hgrow' _ hat'; obtain ⟨B', d', rfl, _⟩ := gro_form hown'))
      have hga := clT.gro_app (HG.out.alloc (.cells #[.string x.name, .string x.super, .slice a1 x.fields.length n1, .slice b1 x.methods.length n2] 66)) (by rw [HTL.out]; exact hown') hgrow' hat'
      rw [← HTk.out] at hga
      refine ⟨⟨i + 1, B', d', css ++ [[.string x.name, .string x.super, .slice a1 x.fields.length n1, .slice b1 x.methods.length n2]], rfl, by go_num, by omega, hga⟩, by simp [intOf]; omega⟩
    · have hlt' : ¬ (i : Int) < (k : Int) := by omega
      obtain rfl : i = k := by omega
      have hh := HH.out
      rw [show l.take i = l from by rw [HK.out, List.take_length]] at hh
      have HF2 := Lib.hid (clT.gro_sl (by rw [← HK.out]; exact hl) hh)
      clear hh HH
      go_wp2_with fail
      go_ret
      exact ⟨A, c, rfl, HF2.out⟩
set_option maxRecDepth 100000 in
set_option maxHeartbeats 6400000 in
theorem cpMd_any (cs : List Value) (m : Md) (h : mdK.told (At N w0 M) cs m) (hf : fMd m) (H : Lies N w0 W (sepT M R)) : Calls Tryz.prog 7 #[.agg cs.toArray] W fun e W' => ∃ (a b c d : Option Addr) (k1 k2 k3 k4 : Nat), e = .returned (.agg #[.slice a m.table.length k1, .slice b m.sites.length k2, .slice c m.pool.length k3, .slice d m.funcs.length k4]) ∧ Lies N w0 W' (sepT (mdT.el [.slice a m.table.length k1, .slice b m.sites.length k2, .slice c m.pool.length k3, .slice d m.funcs.length k4] m) (sepT M R)) := by
  obtain ⟨t, s, q, f, rfl, h1, h2, h3, h4⟩ := h
  obtain ⟨a1, c1, rfl, hl1⟩ := Kind.sl_form h1
  obtain ⟨a2, c2, rfl, hl2⟩ := Kind.sl_form h2
  obtain ⟨a3, c3, rfl, hl3⟩ := Kind.sl_form h3
  obtain ⟨a4, c4, rfl, hl4⟩ := Kind.sl_form h4
  obtain ⟨⟨f1, f2⟩, f3, f4, f5, f6⟩ := hf
  obtain ⟨n1, hn1⟩ : ∃ n, n = m.table.length := ⟨_, rfl⟩
  obtain ⟨n2, hn2⟩ : ∃ n, n = m.sites.length := ⟨_, rfl⟩
  obtain ⟨n3, hn3⟩ : ∃ n, n = m.pool.length := ⟨_, rfl⟩
  obtain ⟨n4, hn4⟩ : ∃ n, n = m.funcs.length := ⟨_, rfl⟩
  have H4 : Hid (fuK.slS (At N w0 M) (.slice a4 n4 c4) m.funcs) := Lib.hid (by rw [hn4]; exact h4)
  have HCp : Hid (∀ W' R', Lies N w0 W' (sepT M R') → Calls Tryz.prog 21 #[.slice a1 n1 c1] W' fun e W2 => ∃ A c, e = .returned (.slice A n1 c) ∧ Lies N w0 W2 (sepT (clT.slT 66 (.slice A n1 c) m.table) (sepT M R'))) := Lib.hid fun W' R' h => by rw [hn1]; exact cpTb_any m.table _ f2 f1 h1 h
  have HCs : Hid (∀ W' R', Lies N w0 W' (sepT M R') → Calls Tryz.prog 22 #[.slice a2 n2 c2] W' fun e W2 => ∃ A c, e = .returned (.slice A n2 c) ∧ Lies N w0 W2 (sepT (stT.slT 70 (.slice A n2 c) m.sites) (sepT M R'))) := Lib.hid fun W' R' h => by rw [hn2]; exact cpSt_any m.sites _ f3 h2 h
  have HCx : Hid (∀ W' R', Lies N w0 W' (sepT M R') → Calls Tryz.prog 23 #[.slice a3 n3 c3] W' fun e W2 => ∃ A c, e = .returned (.slice A n3 c) ∧ Lies N w0 W2 (sepT (txT.slT 9 (.slice A n3 c) m.pool) (sepT M R'))) := Lib.hid fun W' R' h => by rw [hn3]; exact cpTx_any m.pool _ f4 h3 h
  have HF6 := Lib.hid f6
  rw [← hn1] at hl1
  rw [← hn2] at hl2
  rw [← hn3] at hl3
  rw [← hn4] at hl4 f5
  rw [← hn1, ← hn2, ← hn3, ← hn4]
  have HN := Lib.hid (And.intro hn1 (And.intro hn2 (And.intro hn3 hn4)))
  have hb := ((H.newBlk 27 #[.slice a1 n1 c1, .slice a2 n2 c2, .slice a3 n3 c3, .slice a4 n4 c4]).newBlk 27 #[.slice none 0 0, .slice none 0 0, .slice none 0 0, .slice none 0 0])
  rw [show (W.alloc (.cells #[.slice a1 n1 c1, .slice a2 n2 c2, .slice a3 n3 c3, .slice a4 n4 c4] 27)).heap.size = W.heap.size + 1 by simp] at hb
  have HH := Lib.hid (hb.turn (a' := (sepT M (sepT (blkT W.heap.size 27 #[.slice a1 n1 c1, .slice a2 n2 c2, .slice a3 n3 c3, .slice a4 n4 c4]) (sepT (blkT (W.heap.size + 1) 27 #[.slice none 0 0, .slice none 0 0, .slice none 0 0, .slice none 0 0]) R)))) (by ac_rfl))
  clear H hb h1 h2 h3 h4 f1 f2 f3 f4 f6 hn1 hn2 hn3 hn4
  go_enter Tryz.func7, Tryz.ntmps7
  have HC := Lib.hid (HCp.out _ _ HH.out)
  clear HH
  go_wp2_with fail
  refine HC.out.mono ?_
  rintro e x1 ⟨b1, d1, rfl, h⟩
  have hbx := h.turn (a' := (sepT (blkT W.heap.size 27 #[.slice a1 n1 c1, .slice a2 n2 c2, .slice a3 n3 c3, .slice a4 n4 c4]) (sepT (clT.slT 66 (.slice b1 n1 d1) m.table) (sepT M (sepT (blkT (W.heap.size + 1) 27 #[.slice none 0 0, .slice none 0 0, .slice none 0 0, .slice none 0 0]) R))))) (by ac_rfl)
  have e0 := hbx.blk.1.cell 0
  have e1 := hbx.blk.1.cell 1
  have e2 := hbx.blk.1.cell 2
  have e3 := hbx.blk.1.cell 3
  have fz := hbx.blk.1.frozen 0
  simp at e0 e1 e2 e3
  have HH : Hid (Lies N w0 _ (sepT M (sepT (blkT W.heap.size 27 #[.slice b1 n1 d1, .slice a2 n2 c2, .slice a3 n3 c3, .slice a4 n4 c4]) (sepT (blkT (W.heap.size + 1) 27 #[.slice none 0 0, .slice none 0 0, .slice none 0 0, .slice none 0 0]) (sepT (clT.slT 66 (.slice b1 n1 d1) m.table) R))))) := Lib.hid ((hbx.setBlk 0 (.slice b1 n1 d1)).turn (by show sepT (blkT W.heap.size 27 #[.slice b1 n1 d1, .slice a2 n2 c2, .slice a3 n3 c3, .slice a4 n4 c4]) _ = _; ac_rfl))
  clear h hbx HC
  skip
  have HC := Lib.hid (HCs.out _ _ HH.out)
  clear HH
  go_wp2_with fail
  refine HC.out.mono ?_
  rintro e x2 ⟨b2, d2, rfl, h⟩
  have hbx := h.turn (a' := (sepT (blkT W.heap.size 27 #[.slice b1 n1 d1, .slice a2 n2 c2, .slice a3 n3 c3, .slice a4 n4 c4]) (sepT (stT.slT 70 (.slice b2 n2 d2) m.sites) (sepT M (sepT (blkT (W.heap.size + 1) 27 #[.slice none 0 0, .slice none 0 0, .slice none 0 0, .slice none 0 0]) (sepT (clT.slT 66 (.slice b1 n1 d1) m.table) R)))))) (by ac_rfl)
  have e0 := hbx.blk.1.cell 0
  have e1 := hbx.blk.1.cell 1
  have e2 := hbx.blk.1.cell 2
  have e3 := hbx.blk.1.cell 3
  have fz := hbx.blk.1.frozen 1
  simp at e0 e1 e2 e3
  have HH : Hid (Lies N w0 _ (sepT M (sepT (blkT W.heap.size 27 #[.slice b1 n1 d1, .slice b2 n2 d2, .slice a3 n3 c3, .slice a4 n4 c4]) (sepT (blkT (W.heap.size + 1) 27 #[.slice none 0 0, .slice none 0 0, .slice none 0 0, .slice none 0 0]) (sepT (clT.slT 66 (.slice b1 n1 d1) m.table) (sepT (stT.slT 70 (.slice b2 n2 d2) m.sites) R)))))) := Lib.hid ((hbx.setBlk 1 (.slice b2 n2 d2)).turn (by show sepT (blkT W.heap.size 27 #[.slice b1 n1 d1, .slice b2 n2 d2, .slice a3 n3 c3, .slice a4 n4 c4]) _ = _; ac_rfl))
  clear h hbx HC
  have HC := Lib.hid (HCx.out _ _ HH.out)
  clear HH
  go_wp2_with fail
  refine HC.out.mono ?_
  rintro e x3 ⟨b3, d3, rfl, h⟩
  have hbx := h.turn (a' := (sepT (blkT W.heap.size 27 #[.slice b1 n1 d1, .slice b2 n2 d2, .slice a3 n3 c3, .slice a4 n4 c4]) (sepT (txT.slT 9 (.slice b3 n3 d3) m.pool) (sepT M (sepT (blkT (W.heap.size + 1) 27 #[.slice none 0 0, .slice none 0 0, .slice none 0 0, .slice none 0 0]) (sepT (clT.slT 66 (.slice b1 n1 d1) m.table) (sepT (stT.slT 70 (.slice b2 n2 d2) m.sites) R))))))) (by ac_rfl)
  have e0 := hbx.blk.1.cell 0
  have e1 := hbx.blk.1.cell 1
  have e2 := hbx.blk.1.cell 2
  have e3 := hbx.blk.1.cell 3
  have fz := hbx.blk.1.frozen 2
  simp at e0 e1 e2 e3
  have HH : Hid (Lies N w0 _ (sepT M (sepT (blkT W.heap.size 27 #[.slice b1 n1 d1, .slice b2 n2 d2, .slice b3 n3 d3, .slice a4 n4 c4]) (sepT (blkT (W.heap.size + 1) 27 #[.slice none 0 0, .slice none 0 0, .slice none 0 0, .slice none 0 0]) (sepT (clT.slT 66 (.slice b1 n1 d1) m.table) (sepT (stT.slT 70 (.slice b2 n2 d2) m.sites) (sepT (txT.slT 9 (.slice b3 n3 d3) m.pool) R))))))) := Lib.hid ((hbx.setBlk 2 (.slice b3 n3 d3)).turn (by show sepT (blkT W.heap.size 27 #[.slice b1 n1 d1, .slice b2 n2 d2, .slice b3 n3 d3, .slice a4 n4 c4]) _ = _; ac_rfl))
  clear h hbx HC
  go_wp2_with fail
  go_loopw [3, 4] (fun out ix wr => ∃ (i : Nat) (A : Option Addr) (c : Nat) (css : List (List Value)), out = .slice A i c ∧ ix = .int .i64 i ∧ i ≤ n4 ∧ Lies N w0 wr (sepT (fuT.gro 48 (.slice A i c) css (m.funcs.take i)) (sepT M (sepT (blkT W.heap.size 27 #[.slice b1 n1 d1, .slice b2 n2 d2, .slice b3 n3 d3, .slice a4 n4 c4]) (sepT (blkT (W.heap.size + 1) 27 #[.slice none 0 0, .slice none 0 0, .slice none 0 0, .slice none 0 0]) (sepT (clT.slT 66 (.slice b1 n1 d1) m.table) (sepT (stT.slT 70 (.slice b2 n2 d2) m.sites) (sepT (txT.slT 9 (.slice b3 n3 d3) m.pool) R)))))))) (fun _ ix _ => n4 - (intOf ix).toNat)
  case atStart => exact ⟨0, none, 0, [], rfl, rfl, Nat.zero_le _, fuT.gro_nil 48 HH.out⟩
  case round =>
    clear HH e0 e1 e2 e3 fz
    obtain ⟨i, A, c, css, rfl, rfl, hi, hh⟩ := hrel
    have HH := Lib.hid hh
    clear hh
    have hbx := HH.out.turn (a' := (sepT (blkT W.heap.size 27 #[.slice b1 n1 d1, .slice b2 n2 d2, .slice b3 n3 d3, .slice a4 n4 c4]) (sepT (fuT.gro 48 (.slice A i c) css (m.funcs.take i)) (sepT M (sepT (blkT (W.heap.size + 1) 27 #[.slice none 0 0, .slice none 0 0, .slice none 0 0, .slice none 0 0]) (sepT (clT.slT 66 (.slice b1 n1 d1) m.table) (sepT (stT.slT 70 (.slice b2 n2 d2) m.sites) (sepT (txT.slT 9 (.slice b3 n3 d3) m.pool) R)))))))) (by ac_rfl)
    have e0 := hbx.blk.1.cell 0
    have e1 := hbx.blk.1.cell 1
    have e2 := hbx.blk.1.cell 2
    have e3 := hbx.blk.1.cell 3
    have fz := hbx.blk.1.frozen 3
    simp at e0 e1 e2 e3
    clear hbx
    by_cases hlt : i < n4
    · have hlt' : (i : Int) < (n4 : Int) := by omega
      have hix : i < m.funcs.length := by have := HN.out.2.2.2; omega
      have HTL : Hid ((m.funcs.take i).length = i) := Lib.hid (by rw [List.length_take]; omega)
      have hAt : At N w0 M wr := ⟨_, HH.out.turn (a' := (sepT M (sepT (fuT.gro 48 (.slice A i c) css (m.funcs.take i)) (sepT (blkT W.heap.size 27 #[.slice b1 n1 d1, .slice b2 n2 d2, .slice b3 n3 d3, .slice a4 n4 c4]) (sepT (blkT (W.heap.size + 1) 27 #[.slice none 0 0, .slice none 0 0, .slice none 0 0, .slice none 0 0]) (sepT (clT.slT 66 (.slice b1 n1 d1) m.table) (sepT (stT.slT 70 (.slice b2 n2 d2) m.sites) (sepT (txT.slT 9 (.slice b3 n3 d3) m.pool) R)))))))) (by ac_rfl)⟩
      obtain ⟨b5, o2, d5, cs2, hv2, ht2, hat2⟩ := Kind.sl_atS (by have h := H4.out; have e := HN.out.2.2.2; rw [e] at h ⊢; exact h : fuK.slS (At N w0 M) (.slice a4 n4 c4) m.funcs) (by decide) hAt i hix
      obtain rfl : a4 = some ⟨b5, o2, none⟩ := by injection hv2
      have HTk : Hid (m.funcs.take (i + 1) = m.funcs.take i ++ [m.funcs[i]]) := Lib.hid (List.take_succ_eq_append_getElem hix)
      have hfy := HF6.out m.funcs[i] (List.getElem_mem hix)
      generalize m.funcs[i] = y at *
      obtain ⟨ls, cd, rfl, y1, y2, g1, g2⟩ := ht2
      obtain ⟨A5, c5, rfl, hl5⟩ := Kind.sl_form g1
      obtain ⟨A9, c9, css9, rfl, hr9, ho9, hall9, hl9⟩ := leaf_out inL g2
      obtain ⟨hfy1, hfy2⟩ := hfy
      obtain ⟨nl, hnl⟩ : ∃ n, n = y.locals.length := ⟨_, rfl⟩
      obtain ⟨nc, hnc⟩ : ∃ n, n = y.code.length := ⟨_, rfl⟩
      have HCy : Hid (∀ W' R', Lies N w0 W' (sepT M R') → Calls Tryz.prog 23 #[.slice A5 nl c5] W' fun e W2 => ∃ A c, e = .returned (.slice A nl c) ∧ Lies N w0 W2 (sepT (txT.slT 9 (.slice A nl c) y.locals) (sepT M R'))) := Lib.hid fun W' R' h => by rw [hnl]; exact cpTx_any y.locals _ hfy1 g1 h
      have HNy := Lib.hid (And.intro hnl hnc)
      have r0 := hat2 wr hAt 0 _ rfl
      have r1 := hat2 wr hAt 1 _ rfl
      have r2 := hat2 wr hAt 2 _ rfl
      have r3 := hat2 wr hAt 3 _ rfl
      rw [show fuK.size = 4 from rfl] at r0 r1 r2 r3
      rw [Nat.add_zero] at r0
      rw [← hnc] at hr9 hl9 hfy2 r3
      rw [← hnl] at hl5 r2
      have HYz := Lib.hid (And.intro y1 y2)
      have HAll9 := Lib.hid hall9
      have HR9 := Lib.hid hr9
      have hv := (HH.out.newBlk 48 #[.string y.cls, .string y.name, .slice A5 nl c5, .slice A9 nc c9]).turn (a' := (sepT M (sepT (blkT wr.heap.size 48 #[.string y.cls, .string y.name, .slice A5 nl c5, .slice A9 nc c9]) (sepT (fuT.gro 48 (.slice A i c) css (m.funcs.take i)) (sepT (blkT W.heap.size 27 #[.slice b1 n1 d1, .slice b2 n2 d2, .slice b3 n3 d3, .slice (some ⟨b5, o2, none⟩) n4 c4]) (sepT (blkT (W.heap.size + 1) 27 #[.slice none 0 0, .slice none 0 0, .slice none 0 0, .slice none 0 0]) (sepT (clT.slT 66 (.slice b1 n1 d1) m.table) (sepT (stT.slT 70 (.slice b2 n2 d2) m.sites) (sepT (txT.slT 9 (.slice b3 n3 d3) m.pool) R))))))))) (by ac_rfl)
      have HC := Lib.hid (HCy.out _ _ hv)
      clear hv hAt hv2 hat2 hr9 hall9 y1 y2 g1 g2 hnl hnc HH HCy hfy1
      go_wp2_with fail
      refine HC.out.mono ?_
      rintro e w2 ⟨A10, c10, rfl, h⟩
      have hbx := h.turn (a' := (sepT (blkT wr.heap.size 48 #[.string y.cls, .string y.name, .slice A5 nl c5, .slice A9 nc c9]) (sepT (txT.slT 9 (.slice A10 nl c10) y.locals) (sepT M (sepT (fuT.gro 48 (.slice A i c) css (m.funcs.take i)) (sepT (blkT W.heap.size 27 #[.slice b1 n1 d1, .slice b2 n2 d2, .slice b3 n3 d3, .slice (some ⟨b5, o2, none⟩) n4 c4]) (sepT (blkT (W.heap.size + 1) 27 #[.slice none 0 0, .slice none 0 0, .slice none 0 0, .slice none 0 0]) (sepT (clT.slT 66 (.slice b1 n1 d1) m.table) (sepT (stT.slT 70 (.slice b2 n2 d2) m.sites) (sepT (txT.slT 9 (.slice b3 n3 d3) m.pool) R)))))))))) (by ac_rfl)
      have q0 := hbx.blk.1.cell 0
      have q1 := hbx.blk.1.cell 1
      have q2 := hbx.blk.1.cell 2
      have q3 := hbx.blk.1.cell 3
      have qf2 := hbx.blk.1.frozen 2
      have qf3 := hbx.blk.1.frozen 3
      simp at q0 q1 q2 q3
      have HV : Hid (Lies N w0 (w2.setCell ⟨wr.heap.size, 2, none⟩ (.slice A10 nl c10)) (sepT M (sepT (blkT wr.heap.size 48 #[.string y.cls, .string y.name, .slice A10 nl c10, .slice A9 nc c9]) (sepT (txT.slT 9 (.slice A10 nl c10) y.locals) (sepT (fuT.gro 48 (.slice A i c) css (m.funcs.take i)) (sepT (blkT W.heap.size 27 #[.slice b1 n1 d1, .slice b2 n2 d2, .slice b3 n3 d3, .slice (some ⟨b5, o2, none⟩) n4 c4]) (sepT (blkT (W.heap.size + 1) 27 #[.slice none 0 0, .slice none 0 0, .slice none 0 0, .slice none 0 0]) (sepT (clT.slT 66 (.slice b1 n1 d1) m.table) (sepT (stT.slT 70 (.slice b2 n2 d2) m.sites) (sepT (txT.slT 9 (.slice b3 n3 d3) m.pool) R)))))))))) := Lib.hid ((hbx.setBlk 2 (.slice A10 nl c10)).turn (by show sepT (blkT wr.heap.size 48 #[.string y.cls, .string y.name, .slice A10 nl c10, .slice A9 nc c9]) _ = _; ac_rfl))
      have hq3 := (HV.out.turn (a' := (sepT (blkT wr.heap.size 48 #[.string y.cls, .string y.name, .slice A10 nl c10, .slice A9 nc c9]) (sepT M (sepT (txT.slT 9 (.slice A10 nl c10) y.locals) (sepT (fuT.gro 48 (.slice A i c) css (m.funcs.take i)) (sepT (blkT W.heap.size 27 #[.slice b1 n1 d1, .slice b2 n2 d2, .slice b3 n3 d3, .slice (some ⟨b5, o2, none⟩) n4 c4]) (sepT (blkT (W.heap.size + 1) 27 #[.slice none 0 0, .slice none 0 0, .slice none 0 0, .slice none 0 0]) (sepT (clT.slT 66 (.slice b1 n1 d1) m.table) (sepT (stT.slT 70 (.slice b2 n2 d2) m.sites) (sepT (txT.slT 9 (.slice b3 n3 d3) m.pool) R)))))))))) (by ac_rfl)).blk.1.cell 3
      have q3a := fun o => cell_alloc ((HV.out.turn (a' := (sepT (blkT wr.heap.size 48 #[.string y.cls, .string y.name, .slice A10 nl c10, .slice A9 nc c9]) (sepT M (sepT (txT.slT 9 (.slice A10 nl c10) y.locals) (sepT (fuT.gro 48 (.slice A i c) css (m.funcs.take i)) (sepT (blkT W.heap.size 27 #[.slice b1 n1 d1, .slice b2 n2 d2, .slice b3 n3 d3, .slice (some ⟨b5, o2, none⟩) n4 c4]) (sepT (blkT (W.heap.size + 1) 27 #[.slice none 0 0, .slice none 0 0, .slice none 0 0, .slice none 0 0]) (sepT (clT.slT 66 (.slice b1 n1 d1) m.table) (sepT (stT.slT 70 (.slice b2 n2 d2) m.sites) (sepT (txT.slT 9 (.slice b3 n3 d3) m.pool) R)))))))))) (by ac_rfl)).blk.1.cell 3) o
      have q3a : ∀ o, ((w2.setCell ⟨wr.heap.size, 2, none⟩ (.slice A10 nl c10)).alloc o).cell? ⟨wr.heap.size, 3, none⟩ = some (.slice A9 nc c9) := q3a
      clear hq3
      have HX9 := Lib.hid (HR9.out _ ⟨_, HV.out.alloc (.cells #[] 117)⟩)
      have HO9 := Lib.hid (empty_own (w2.setCell ⟨wr.heap.size, 2, none⟩ (.slice A10 nl c10)) 117 4)
      rw [show (w2.setCell ⟨wr.heap.size, 2, none⟩ (.slice A10 nl c10)).heap.size = w2.heap.size by simp] at HO9
      obtain ⟨i0, hi0, hz0, hz1, hz2⟩ := info_parts info_lIn
      obtain ⟨j0, hj0, hw0, hw1, hw2⟩ := info_parts info_lFu
      clear h hbx HC r0 r1 r2 r3 e0 e1 e2 e3 fz
      go_wp2_with (first | (at_builtin; refine wpList_append_any _ rfl (.tmp 34) (.tmp 36) _ rfl w2.heap.size 117 i0 _ 4 32 Tryz.underlying46 hi0 hz0 hz1 hz2 rfl (by decide) (.slice (some ⟨w2.heap.size, 0, none⟩) 0 0) 0 [] rfl HO9.out _ A9 nc c9 css9.flatten rfl HX9.out ho9 (by simp only [maxLen]; omega) (by omega) (by simp) ?_; go_must (intro v1 w3 hown hgrow hat; rw [Nat.zero_add, List.nil_append] at hown; obtain ⟨A11, c11, rfl, _⟩ := gro_form hown; have h1 := copied_at (T := inT) (l := y.code) (css := css9) (v' := .slice A11 nc c11) HV.out (by simp) HNy.out.2 rfl hl9 HAll9.out hown hgrow; have hbx := (h1.turn (a' := (sepT (blkT wr.heap.size 48 #[.string y.cls, .string y.name, .slice A10 nl c10, .slice A9 nc c9]) (sepT (inT.slT 117 (.slice A11 nc c11) y.code) (sepT M (sepT (txT.slT 9 (.slice A10 nl c10) y.locals) (sepT (fuT.gro 48 (.slice A i c) css (m.funcs.take i)) (sepT (blkT W.heap.size 27 #[.slice b1 n1 d1, .slice b2 n2 d2, .slice b3 n3 d3, .slice (some ⟨b5, o2, none⟩) n4 c4]) (sepT (blkT (W.heap.size + 1) 27 #[.slice none 0 0, .slice none 0 0, .slice none 0 0, .slice none 0 0]) (sepT (clT.slT 66 (.slice b1 n1 d1) m.table) (sepT (stT.slT 70 (.slice b2 n2 d2) m.sites) (sepT (txT.slT 9 (.slice b3 n3 d3) m.pool) R))))))))))) (by ac_rfl)); have t0 := hbx.blk.1.cell 0; have t1 := hbx.blk.1.cell 1; have t2 := hbx.blk.1.cell 2; have t3 := hbx.blk.1.cell 3; have tf := hbx.blk.1.frozen 3; simp at t0 t1 t2 t3; have h2 := (hbx.setBlk 3 (.slice A11 nc c11)); have h3 : Lies N w0 (w3.setCell ⟨wr.heap.size, 3, none⟩ (.slice A11 nc c11)) (sepT (inT.slT 117 (.slice A11 nc c11) y.code) (sepT M (sepT (txT.slT 9 (.slice A10 nl c10) y.locals) (sepT (fuT.gro 48 (.slice A i c) css (m.funcs.take i)) (sepT (blkT W.heap.size 27 #[.slice b1 n1 d1, .slice b2 n2 d2, .slice b3 n3 d3, .slice (some ⟨b5, o2, none⟩) n4 c4]) (sepT (blkT (W.heap.size + 1) 27 #[.slice none 0 0, .slice none 0 0, .slice none 0 0, .slice none 0 0]) (sepT (clT.slT 66 (.slice b1 n1 d1) m.table) (sepT (stT.slT 70 (.slice b2 n2 d2) m.sites) (sepT (txT.slT 9 (.slice b3 n3 d3) m.pool) R))))))))) := h2.drop; have h4 := (h3.turn (a' := (sepT (txT.slT 9 (.slice A10 nl c10) y.locals) (sepT (inT.slT 117 (.slice A11 nc c11) y.code) (sepT M (sepT (fuT.gro 48 (.slice A i c) css (m.funcs.take i)) (sepT (blkT W.heap.size 27 #[.slice b1 n1 d1, .slice b2 n2 d2, .slice b3 n3 d3, .slice (some ⟨b5, o2, none⟩) n4 c4]) (sepT (blkT (W.heap.size + 1) 27 #[.slice none 0 0, .slice none 0 0, .slice none 0 0, .slice none 0 0]) (sepT (clT.slT 66 (.slice b1 n1 d1) m.table) (sepT (stT.slT 70 (.slice b2 n2 d2) m.sites) (sepT (txT.slT 9 (.slice b3 n3 d3) m.pool) R)))))))))) (by ac_rfl)); have HG := Lib.hid ((fu_in (x := y) (A := A10) (B := A11) (c := c10) (d := c11) HYz.out.1 HYz.out.2 (by rw [← HNy.out.1, ← HNy.out.2]; exact h4)).turn (a' := (sepT (fuT.gro 48 (.slice A i c) css (m.funcs.take i)) (sepT (fuT.el [.string y.cls, .string y.name, .slice A10 y.locals.length c10, .slice A11 y.code.length c11] y) (sepT M (sepT (blkT W.heap.size 27 #[.slice b1 n1 d1, .slice b2 n2 d2, .slice b3 n3 d3, .slice (some ⟨b5, o2, none⟩) n4 c4]) (sepT (blkT (W.heap.size + 1) 27 #[.slice none 0 0, .slice none 0 0, .slice none 0 0, .slice none 0 0]) (sepT (clT.slT 66 (.slice b1 n1 d1) m.table) (sepT (stT.slT 70 (.slice b2 n2 d2) m.sites) (sepT (txT.slT 9 (.slice b3 n3 d3) m.pool) R))))))))) (by ac_rfl)); have hca := cells_arr (w3.setCell ⟨wr.heap.size, 3, none⟩ (.slice A11 nc c11)) #[.string y.cls, .string y.name, .slice A10 nl c10, .slice A11 nc c11] 48; rw [show (w3.setCell ⟨wr.heap.size, 3, none⟩ (.slice A11 nc c11)).heap.size = w3.heap.size by simp] at hca; have HCA := Lib.hid hca; clear hca; have hrow := fuT.gro_row (HG.out.alloc (.cells #[.string y.cls, .string y.name, .slice A10 nl c10, .slice A11 nc c11] 48)); rw [HTL.out] at hrow; have HRow := Lib.hid hrow; clear hbx h1 h2 h3 h4 hrow hown hgrow hat hi0 hz0 hz1 hz2 ho9)) | (at_builtin; refine wpList_append_own_at _ rfl (.tmp 39) (.tmp 41) 25 rfl 0 48 j0 (.agg #[.string ⟨#[]⟩, .string ⟨#[]⟩, .slice none 0 0, .slice none 0 0]) 4 80 Tryz.underlying25 hj0 hw0 hw1 hw2 rfl (by decide) (.slice A i c) i _ rfl HRow.out ⟨w3.heap.size, 0, none⟩ 1 1 [.string y.cls, .string y.name, .slice A10 nl c10, .slice A11 nc c11] rfl rfl HCA.out (by simp [Value.oneCell']) (by simp only [maxLen]; omega) (by omega) (Nat.zero_le _) ?_; go_must (intro v' w4 hown' hgrow' _ hat'; obtain ⟨B', d', rfl, _⟩ := gro_form hown')))
      have hga := fuT.gro_app (HG.out.alloc (.cells #[.string y.cls, .string y.name, .slice A10 nl c10, .slice A11 nc c11] 48)) (by rw [HTL.out, ← HNy.out.1, ← HNy.out.2]; exact hown') hgrow' hat'
      rw [← HTk.out] at hga
      refine ⟨⟨i + 1, B', d', css ++ [[.string y.cls, .string y.name, .slice A10 y.locals.length c10, .slice A11 y.code.length c11]], rfl, by go_num, by omega, hga.turn (by ac_rfl)⟩, by simp [intOf]; omega⟩
    · have hlt' : ¬ (i : Int) < (n4 : Int) := by omega
      obtain rfl : i = n4 := by omega
      have hh := HH.out
      rw [show m.funcs.take i = m.funcs from by rw [HN.out.2.2.2, List.take_length]] at hh
      have h1 := fuT.gro_sl (by rw [← HN.out.2.2.2]; exact hl4) hh
      have hbx := (h1.turn (a' := (sepT (blkT (W.heap.size + 1) 27 #[.slice none 0 0, .slice none 0 0, .slice none 0 0, .slice none 0 0]) (sepT (fuT.slT 48 (.slice A i c) m.funcs) (sepT (blkT W.heap.size 27 #[.slice b1 n1 d1, .slice b2 n2 d2, .slice b3 n3 d3, .slice a4 i c4]) (sepT M (sepT (clT.slT 66 (.slice b1 n1 d1) m.table) (sepT (stT.slT 70 (.slice b2 n2 d2) m.sites) (sepT (txT.slT 9 (.slice b3 n3 d3) m.pool) R)))))))) (by ac_rfl))
      have g0 := hbx.blk.1.cell 0
      have gf0 := hbx.blk.1.frozen 0
      have g1 := hbx.blk.1.cell 1
      have gf1 := hbx.blk.1.frozen 1
      have g2 := hbx.blk.1.cell 2
      have gf2 := hbx.blk.1.frozen 2
      have g3 := hbx.blk.1.cell 3
      have gf3 := hbx.blk.1.frozen 3
      simp at g0 g1 g2 g3
      have h2 := (hbx.turn (a' := (sepT (blkT W.heap.size 27 #[.slice b1 n1 d1, .slice b2 n2 d2, .slice b3 n3 d3, .slice a4 i c4]) (sepT (fuT.slT 48 (.slice A i c) m.funcs) (sepT (blkT (W.heap.size + 1) 27 #[.slice none 0 0, .slice none 0 0, .slice none 0 0, .slice none 0 0]) (sepT M (sepT (clT.slT 66 (.slice b1 n1 d1) m.table) (sepT (stT.slT 70 (.slice b2 n2 d2) m.sites) (sepT (txT.slT 9 (.slice b3 n3 d3) m.pool) R)))))))) (by ac_rfl)).setBlk 3 (.slice A i c)
      have hne1 : ¬ W.heap.size = W.heap.size + 1 := by omega
      have hne2 : ¬ W.heap.size + 1 = W.heap.size := by omega
      have HF : Hid (Lies N w0 _ (sepT (blkT (W.heap.size + 1) 27 #[.slice b1 n1 d1, .slice b2 n2 d2, .slice b3 n3 d3, .slice A i c]) (sepT (blkT W.heap.size 27 #[.slice b1 n1 d1, .slice b2 n2 d2, .slice b3 n3 d3, .slice A i c]) (sepT (fuT.slT 48 (.slice A i c) m.funcs) (sepT M (sepT (clT.slT 66 (.slice b1 n1 d1) m.table) (sepT (stT.slT 70 (.slice b2 n2 d2) m.sites) (sepT (txT.slT 9 (.slice b3 n3 d3) m.pool) R)))))))) := Lib.hid (((((h2.turn (a' := (sepT (blkT (W.heap.size + 1) 27 #[.slice none 0 0, .slice none 0 0, .slice none 0 0, .slice none 0 0]) (sepT (blkT W.heap.size 27 #[.slice b1 n1 d1, .slice b2 n2 d2, .slice b3 n3 d3, .slice A i c]) (sepT (fuT.slT 48 (.slice A i c) m.funcs) (sepT M (sepT (clT.slT 66 (.slice b1 n1 d1) m.table) (sepT (stT.slT 70 (.slice b2 n2 d2) m.sites) (sepT (txT.slT 9 (.slice b3 n3 d3) m.pool) R)))))))) (by show sepT (blkT W.heap.size 27 #[.slice b1 n1 d1, .slice b2 n2 d2, .slice b3 n3 d3, .slice A i c]) _ = _; ac_rfl)).setBlk 0 (.slice b1 n1 d1)).setBlk 1 (.slice b2 n2 d2)).setBlk 2 (.slice b3 n3 d3)).setBlk 3 (.slice A i c))
      clear hh h1 h2 hbx HH HCp HCs HCx
      go_wp2_with fail
      refine bodyPost_ret (results_cell_row rfl _ _ (W.heap.size + 1) 27 #[.slice b1 n1 d1, .slice b2 n2 d2, .slice b3 n3 d3, .slice A i c] (0, 0) _ rfl HF.out.blk.1 Tryz.underlying27 rfl (by kernel_rfl)) rfl ?_
      refine ⟨b1, b2, b3, A, d1, d2, d3, c, rfl, ?_⟩
      have hd := (HF.out.drop.drop.turn (a' := (sepT (clT.slT 66 (.slice b1 n1 d1) m.table) (sepT (stT.slT 70 (.slice b2 n2 d2) m.sites) (sepT (txT.slT 9 (.slice b3 n3 d3) m.pool) (sepT (fuT.slT 48 (.slice A i c) m.funcs) (sepT M R)))))) (by ac_rfl))
      have hfin := md_in (x := m) (A := b1) (B := b2) (C := b3) (D := A) (a := d1) (b := d2) (c := d3) (d := c) (by rw [← HN.out.1, ← HN.out.2.1, ← HN.out.2.2.1, ← HN.out.2.2.2]; exact hd)
      rw [← HN.out.1, ← HN.out.2.1, ← HN.out.2.2.1, ← HN.out.2.2.2] at hfin
      exact hfin
end
end Go.Proofs.YtcapdmicekialaaGreat
