/- chaperonref22.writer.all: a module, as the codec writes it. Printed by gen_xall.py. -/
import Derived.Test.YtcapdmicekialaaGreatCoXWr
namespace Go.Proofs.YtcapdmicekialaaGreat
open Go.RowKit
set_option linter.unusedVariables false
set_option linter.unusedSimpArgs false
attribute [local go_sem] Oper.semAt_some run_store_func run_store_nilFunc
def lo0 (i : Nat) : Nat := 0
def upAt (c i : Nat) : Nat := if i = c then 1 else 0
def loXs (i : Nat) : Nat := if i = 14 then 1 else 0
def upXs (i : Nat) : Nat := [1, 0, 0, 0, 0, 0, 0, 0, 0, 0, 0, 0, 0, 1, 2].getD i 0
theorem put_all {α : Type} (one : CS → α → CS) (st : CS) (l : List α) (i n : Nat) (hi : i = l.length) (hn : n = l.length) : (l.take i).foldl one (numC st (n : Int)) = putC one st l := by
  subst hi
  subst hn
  rw [List.take_length]
  rfl
set_option maxRecDepth 100000 in
set_option maxHeartbeats 12800000 in
theorem xall_any {N : Nat} {w0 W : World} {R M : Thing} {p oo : Nat} {st : CS} (cs : List Value) (m : Md) (h : mdK.told (At N w0 M) cs m) (H : Lies N w0 W (sepT (xcT p oo st) (sepT M R))) :
    Calls Tryz.prog 40 #[.pointer (some ⟨p, 0, none⟩), .agg cs.toArray] W fun e W' => e = .returned (.tuple #[]) ∧ Lies N w0 W' (sepT (xcT p oo (putC fuC (putC wordC (putC stC (putC clC (numC (numC st 67) 1) m.table) m.sites) m.pool) m.funcs)) (sepT M R)) := by
  obtain ⟨t, s, q, f, rfl, h1, h2, h3, h4⟩ := h
  obtain ⟨a1, c1, rfl, hl1⟩ := Kind.sl_form h1
  obtain ⟨a2, c2, rfl, hl2⟩ := Kind.sl_form h2
  obtain ⟨a3, c3, rfl, hl3⟩ := Kind.sl_form h3
  obtain ⟨a4, c4, rfl, hl4⟩ := Kind.sl_form h4
  obtain ⟨n1, hn1⟩ : ∃ n, n = m.table.length := ⟨_, rfl⟩
  obtain ⟨n2, hn2⟩ : ∃ n, n = m.sites.length := ⟨_, rfl⟩
  obtain ⟨n3, hn3⟩ : ∃ n, n = m.pool.length := ⟨_, rfl⟩
  obtain ⟨n4, hn4⟩ : ∃ n, n = m.funcs.length := ⟨_, rfl⟩
  have H1 : Hid (clK.slS (At N w0 M) (.slice a1 n1 c1) m.table) := Lib.hid (by rw [hn1]; exact h1)
  have H2 : Hid (stK.slS (At N w0 M) (.slice a2 n2 c2) m.sites) := Lib.hid (by rw [hn2]; exact h2)
  have H3 : Hid (txK.slS (At N w0 M) (.slice a3 n3 c3) m.pool) := Lib.hid (by rw [hn3]; exact h3)
  have H4 : Hid (fuK.slS (At N w0 M) (.slice a4 n4 c4) m.funcs) := Lib.hid (by rw [hn4]; exact h4)
  rw [← hn1] at hl1
  rw [← hn2] at hl2
  rw [← hn3] at hl3
  rw [← hn4] at hl4
  rw [← hn1, ← hn2, ← hn3, ← hn4]
  have HN := Lib.hid (And.intro hn1 (And.intro hn2 (And.intro hn3 hn4)))
  clear hn1 hn2 hn3 hn4 h1 h2 h3 h4
  have HH := Lib.hid ((H.newBlk 27 #[.slice a1 n1 c1, .slice a2 n2 c2, .slice a3 n3 c3, .slice a4 n4 c4]).turn (a' := (sepT (xcT p oo st) (sepT M (sepT (blkT W.heap.size 27 #[.slice a1 n1 c1, .slice a2 n2 c2, .slice a3 n3 c3, .slice a4 n4 c4]) R)))) (by ac_rfl))
  clear H
  go_enter Tryz.func40, Tryz.ntmps40
  obtain ⟨o, c0, hc⟩ := xc_num HH.out
  have HC := Lib.hid (hc (67) (by unfold iz; decide))
  clear hc HH
  go_wp2_with fail
  refine HC.out.mono ?_
  rintro e w1 ⟨⟨E, rfl⟩, h⟩
  have HH := Lib.hid h
  clear h HC c0 
  obtain ⟨o, c0, hc⟩ := xc_num HH.out
  have HC := Lib.hid (hc (1) (by unfold iz; decide))
  clear hc HH
  go_wp2_with fail
  refine HC.out.mono ?_
  rintro e w2 ⟨⟨E, rfl⟩, h⟩
  have HH := Lib.hid h
  clear h HC c0 
  generalize hs0 : numC (numC st 67) 1 = s0 at *
  have HS0 := Lib.hid hs0
  clear hs0
  have e0 := (HH.out.turn (a' := (sepT (blkT W.heap.size 27 #[.slice a1 n1 c1, .slice a2 n2 c2, .slice a3 n3 c3, .slice a4 n4 c4]) (sepT (xcT p oo _) (sepT M R)))) (by ac_rfl)).blk.1.cell 0
  simp at e0
  obtain ⟨o, c0, hc⟩ := xc_num HH.out.drew
  have HC := Lib.hid (hc ((n1 : Int)) (by unfold iz; omega))
  clear hc HH
  go_wp2_with fail
  refine wp_region_text [7] lo0 (upAt 7) (by kernel_rfl) (by kernel_rfl) (by kernel_rfl) (by kernel_rfl) (by kernel_rfl) ?_
  repeat (refine wpTx_now (by rfl) (by rfl) (by rfl) (fun K hK => ?_); go_simp; refine hK _ ?_; clear hK K)
  refine wpTx_eff (by rfl) (fun K hK => ?_)
  go_simp
  refine HC.out.mono ?_
  rintro e w3 ⟨⟨E, rfl⟩, h⟩
  have HH := Lib.hid h
  refine ⟨_, rfl, hK _ _ (by simp [lateOK]) ?_⟩
  clear hK K h HC c0 e0
  refine wpTx_nil ?_
  go_wp2_with fail
  go_loopw [4] (fun ix wq => ∃ i : Nat, ix = .int .i64 i ∧ i ≤ n1 ∧ Lies N w0 wq (sepT (xcT p oo ((m.table.take i).foldl clC (numC s0 n1))) (sepT M (sepT (blkT W.heap.size 27 #[.slice a1 n1 c1, .slice a2 n2 c2, .slice a3 n3 c3, .slice a4 n4 c4]) R)))) (fun ix _ => n1 - (intOf ix).toNat)
  case atStart => exact ⟨0, rfl, Nat.zero_le _, HH.out⟩
  case round =>
    obtain ⟨i, rfl, hi, hh⟩ := hrel
    clear HH
    have HH := Lib.hid hh
    clear hh
    have e0 := (HH.out.turn (a' := (sepT (blkT W.heap.size 27 #[.slice a1 n1 c1, .slice a2 n2 c2, .slice a3 n3 c3, .slice a4 n4 c4]) (sepT (xcT p oo _) (sepT M R)))) (by ac_rfl)).blk.1.cell 0
    simp at e0
    by_cases hlt : i < n1
    · have hlt' : (i : Int) < (n1 : Int) := by omega
      have hix : i < m.table.length := by have := HN.out.1; omega
      have hAt : At N w0 M wr := ⟨_, HH.out.turn (a' := (sepT M (sepT (xcT p oo _) (sepT (blkT W.heap.size 27 #[.slice a1 n1 c1, .slice a2 n2 c2, .slice a3 n3 c3, .slice a4 n4 c4]) R)))) (by ac_rfl)⟩
      obtain ⟨b1, o1, d1, cs1, hv1, ht1, hat1⟩ := Kind.sl_atS (by have h := H1.out; have e := HN.out.1; rw [e] at h ⊢; exact h : clK.slS (At N w0 M) (.slice a1 n1 c1) m.table) (by decide) hAt i hix
      obtain rfl : a1 = some ⟨b1, o1, none⟩ := by injection hv1
      have HPut := Lib.hid (put_take clC (numC s0 n1) m.table i hix)
      generalize m.table[i] = x at *
      obtain ⟨fs, ms, rfl, z1, z2, f1, f3⟩ := ht1
      obtain ⟨A5, c5, rfl, hlf⟩ := Kind.sl_form f1
      obtain ⟨A7, c7, rfl, hlm⟩ := Kind.sl_form f3
      have p0 := hat1 wr hAt 0 _ rfl
      have p1 := hat1 wr hAt 1 _ rfl
      have p2 := hat1 wr hAt 2 _ rfl
      have p3 := hat1 wr hAt 3 _ rfl
      rw [show clK.size = 4 from rfl] at p0 p1 p2 p3
      rw [Nat.add_zero] at p0
      clear hat1 hv1 hAt
      obtain ⟨k, hk⟩ : ∃ k, k = x.methods.length := ⟨_, rfl⟩
      have HK := Lib.hid hk
      have F3 : Hid (sgK.slS (At N w0 M) (.slice A7 k c7) x.methods) := Lib.hid (by rw [hk]; exact f3)
      have F1 := Lib.hid f1
      rw [← hk] at p3 hlm
      clear f1 f3 hk
      generalize hsi : (m.table.take i).foldl clC (numC s0 n1) = si at *
      have HSi := Lib.hid hsi
      clear hsi
      obtain ⟨wo, hwo⟩ : ∃ wo, wo = wr := ⟨_, rfl⟩
      subst hwo
      have hb := (HH.out.newBlk 66 #[.string x.name, .string x.super, .slice A5 x.fields.length c5, .slice A7 k c7]).newBlk 9 #[.string x.name, .string x.super]
      rw [show (wo.alloc (.cells #[.string x.name, .string x.super, .slice A5 x.fields.length c5, .slice A7 k c7] 66)).heap.size = wo.heap.size + 1 by simp] at hb
      have HZ := Lib.hid (And.intro z1 z2)
      clear z1 z2
      have HC := Lib.hid (xwords2 (wo.heap.size + 1) 9 x.name x.super HZ.out.1 HZ.out.2 (hb.turn (a' := (sepT (xcT p oo si) (sepT (blkT (wo.heap.size + 1) 9 #[.string x.name, .string x.super]) (sepT M (sepT (blkT W.heap.size 27 #[.slice (some ⟨b1, o1, none⟩) n1 c1, .slice a2 n2 c2, .slice a3 n3 c3, .slice a4 n4 c4]) (sepT (blkT wo.heap.size 66 #[.string x.name, .string x.super, .slice A5 x.fields.length c5, .slice A7 k c7]) R)))))) (by ac_rfl)))
      clear HH
      go_wp2_with fail
      refine HC.out.mono ?_
      rintro e w4 ⟨rfl, h⟩
      have HH := Lib.hid h
      clear h HC hb p0 p1 p2 p3 e0
      have g2 := (HH.out.turn (a' := (sepT (blkT wo.heap.size 66 #[.string x.name, .string x.super, .slice A5 x.fields.length c5, .slice A7 k c7]) (sepT (xcT p oo _) (sepT M (sepT (blkT W.heap.size 27 #[.slice (some ⟨b1, o1, none⟩) n1 c1, .slice a2 n2 c2, .slice a3 n3 c3, .slice a4 n4 c4]) R))))) (by ac_rfl)).blk.1.cell 2
      simp at g2
      have HC := Lib.hid (xvars_any x.fields _ F1.out HH.out)
      clear HH
      go_wp2_with fail
      refine HC.out.mono ?_
      rintro e w5 ⟨rfl, h⟩
      have HH := Lib.hid h
      clear h HC g2
      have g3 := (HH.out.turn (a' := (sepT (blkT wo.heap.size 66 #[.string x.name, .string x.super, .slice A5 x.fields.length c5, .slice A7 k c7]) (sepT (xcT p oo _) (sepT M (sepT (blkT W.heap.size 27 #[.slice (some ⟨b1, o1, none⟩) n1 c1, .slice a2 n2 c2, .slice a3 n3 c3, .slice a4 n4 c4]) R))))) (by ac_rfl)).blk.1.cell 3
      simp at g3
      obtain ⟨o, c0, hc⟩ := xc_num HH.out.drew
      have HC := Lib.hid (hc ((k : Int)) (by unfold iz; omega))
      clear hc HH
      go_wp2_with fail
      refine wp_region_text [7] lo0 (upAt 7) (by kernel_rfl) (by kernel_rfl) (by kernel_rfl) (by kernel_rfl) (by kernel_rfl) ?_
      repeat (refine wpTx_now (by rfl) (by rfl) (by rfl) (fun K hK => ?_); go_simp; refine hK _ ?_; clear hK K)
      refine wpTx_eff (by rfl) (fun K hK => ?_)
      go_simp
      refine HC.out.mono ?_
      rintro e w6 ⟨⟨E, rfl⟩, h⟩
      have HH := Lib.hid h
      refine ⟨_, rfl, hK _ _ (by simp [lateOK]) ?_⟩
      clear hK K h HC c0 g3
      refine wpTx_nil ?_
      generalize hsj : putC vrC (wordsC si [x.name, x.super]) x.fields = sj at *
      have HSj := Lib.hid hsj
      clear hsj
      go_wp2_with fail
      go_loopw [6] (fun ix wq => ∃ i : Nat, ix = .int .i64 i ∧ i ≤ k ∧ Lies N w0 wq (sepT (xcT p oo ((x.methods.take i).foldl sgC (numC sj k))) (sepT M (sepT (blkT W.heap.size 27 #[.slice (some ⟨b1, o1, none⟩) n1 c1, .slice a2 n2 c2, .slice a3 n3 c3, .slice a4 n4 c4]) (sepT (blkT wo.heap.size 66 #[.string x.name, .string x.super, .slice A5 x.fields.length c5, .slice A7 k c7]) R))))) (fun ix _ => k - (intOf ix).toNat)
      case atStart => exact ⟨0, rfl, Nat.zero_le _, HH.out⟩
      case round =>
        obtain ⟨j, rfl, hj, hh⟩ := hrel
        clear HH
        have HH := Lib.hid hh
        clear hh
        have g3 := (HH.out.turn (a' := (sepT (blkT wo.heap.size 66 #[.string x.name, .string x.super, .slice A5 x.fields.length c5, .slice A7 k c7]) (sepT (xcT p oo _) (sepT M (sepT (blkT W.heap.size 27 #[.slice (some ⟨b1, o1, none⟩) n1 c1, .slice a2 n2 c2, .slice a3 n3 c3, .slice a4 n4 c4]) R))))) (by ac_rfl)).blk.1.cell 3
        simp at g3
        by_cases hjt : j < k
        · have hjt' : (j : Int) < (k : Int) := by omega
          have hjx : j < x.methods.length := by have := HK.out; omega
          have hAt : At N w0 M wr := ⟨_, HH.out.turn (a' := (sepT M (sepT (xcT p oo _) (sepT (blkT W.heap.size 27 #[.slice (some ⟨b1, o1, none⟩) n1 c1, .slice a2 n2 c2, .slice a3 n3 c3, .slice a4 n4 c4]) (sepT (blkT wo.heap.size 66 #[.string x.name, .string x.super, .slice A5 x.fields.length c5, .slice A7 k c7]) R))))) (by ac_rfl)⟩
          obtain ⟨b2, o2, d2, cs2, hv2, ht2, hat2⟩ := Kind.sl_atS (by have h := F3.out; have e := HK.out; rw [e] at h ⊢; exact h : sgK.slS (At N w0 M) (.slice A7 k c7) x.methods) (by decide) hAt j hjx
          obtain rfl : A7 = some ⟨b2, o2, none⟩ := by injection hv2
          have HPut2 := Lib.hid (put_take sgC (numC sj k) x.methods j hjx)
          generalize x.methods[j] = y at *
          obtain ⟨ps, rfl, y1, y2, f5⟩ := ht2
          obtain ⟨A9, c9, rfl, _⟩ := Kind.sl_form f5
          have HY := Lib.hid (And.intro y1 (And.intro y2 f5))
          clear y1 y2 f5
          have HAt2 : Hid (∀ w, At N w0 M w → w.cell? ⟨b2, o2 + j * 3, none⟩ = some (.string y.name) ∧ w.cell? ⟨b2, o2 + j * 3 + 1, none⟩ = some (.slice A9 y.params.length c9) ∧ w.cell? ⟨b2, o2 + j * 3 + 2, none⟩ = some (.string y.result)) := Lib.hid fun w hw => ⟨hat2 w hw 0 _ rfl, hat2 w hw 1 _ rfl, hat2 w hw 2 _ rfl⟩
          obtain ⟨r0, r1, r2⟩ := HAt2.out wr hAt
          clear hat2 hv2 hAt
          generalize hsk : (x.methods.take j).foldl sgC (numC sj k) = sk at *
          have HSk := Lib.hid hsk
          clear hsk
          have hb := HH.out.newBlk 9 #[.string y.name]
          have HC := Lib.hid (xwords1 wr.heap.size 9 y.name HY.out.1 (hb.turn (a' := (sepT (xcT p oo _) (sepT (blkT wr.heap.size 9 #[.string y.name]) (sepT M (sepT (blkT W.heap.size 27 #[.slice (some ⟨b1, o1, none⟩) n1 c1, .slice a2 n2 c2, .slice a3 n3 c3, .slice a4 n4 c4]) (sepT (blkT wo.heap.size 66 #[.string x.name, .string x.super, .slice A5 x.fields.length c5, .slice (some ⟨b2, o2, none⟩) k c7]) R)))))) (by ac_rfl)))
          clear HH
          go_wp2_with fail
          refine HC.out.mono ?_
          rintro e w7 ⟨rfl, h⟩
          have HH := Lib.hid h
          clear h HC hb r0 r1 r2 g3
          have g3 := (HH.out.turn (a' := (sepT (blkT wo.heap.size 66 #[.string x.name, .string x.super, .slice A5 x.fields.length c5, .slice (some ⟨b2, o2, none⟩) k c7]) (sepT (xcT p oo _) (sepT M (sepT (blkT W.heap.size 27 #[.slice (some ⟨b1, o1, none⟩) n1 c1, .slice a2 n2 c2, .slice a3 n3 c3, .slice a4 n4 c4]) R))))) (by ac_rfl)).blk.1.cell 3
          simp at g3
          obtain ⟨r0, r1, r2⟩ := HAt2.out w7 ⟨_, HH.out.turn (a' := (sepT M (sepT (xcT p oo _) (sepT (blkT W.heap.size 27 #[.slice (some ⟨b1, o1, none⟩) n1 c1, .slice a2 n2 c2, .slice a3 n3 c3, .slice a4 n4 c4]) (sepT (blkT wo.heap.size 66 #[.string x.name, .string x.super, .slice A5 x.fields.length c5, .slice (some ⟨b2, o2, none⟩) k c7]) R))))) (by ac_rfl)⟩
          have HC := Lib.hid (xvars_any y.params _ HY.out.2.2 HH.out)
          clear HH
          go_wp2_with fail
          refine HC.out.mono ?_
          rintro e w8 ⟨rfl, h⟩
          have HH := Lib.hid h
          clear h HC r0 r1 r2 g3
          have g3 := (HH.out.turn (a' := (sepT (blkT wo.heap.size 66 #[.string x.name, .string x.super, .slice A5 x.fields.length c5, .slice (some ⟨b2, o2, none⟩) k c7]) (sepT (xcT p oo _) (sepT M (sepT (blkT W.heap.size 27 #[.slice (some ⟨b1, o1, none⟩) n1 c1, .slice a2 n2 c2, .slice a3 n3 c3, .slice a4 n4 c4]) R))))) (by ac_rfl)).blk.1.cell 3
          simp at g3
          obtain ⟨r0, r1, r2⟩ := HAt2.out w8 ⟨_, HH.out.turn (a' := (sepT M (sepT (xcT p oo _) (sepT (blkT W.heap.size 27 #[.slice (some ⟨b1, o1, none⟩) n1 c1, .slice a2 n2 c2, .slice a3 n3 c3, .slice a4 n4 c4]) (sepT (blkT wo.heap.size 66 #[.string x.name, .string x.super, .slice A5 x.fields.length c5, .slice (some ⟨b2, o2, none⟩) k c7]) R))))) (by ac_rfl)⟩
          have hb := HH.out.newBlk 9 #[.string y.result]
          have HC := Lib.hid (xwords1 w8.heap.size 9 y.result HY.out.2.1 (hb.turn (a' := (sepT (xcT p oo _) (sepT (blkT w8.heap.size 9 #[.string y.result]) (sepT M (sepT (blkT W.heap.size 27 #[.slice (some ⟨b1, o1, none⟩) n1 c1, .slice a2 n2 c2, .slice a3 n3 c3, .slice a4 n4 c4]) (sepT (blkT wo.heap.size 66 #[.string x.name, .string x.super, .slice A5 x.fields.length c5, .slice (some ⟨b2, o2, none⟩) k c7]) R)))))) (by ac_rfl)))
          clear HH
          go_wp2_with fail
          refine HC.out.mono ?_
          rintro e w9 ⟨rfl, h⟩
          have HH := Lib.hid h
          clear h HC hb r0 r1 r2 g3
          have HF : Hid (Lies N w0 w9 (sepT (xcT p oo ((x.methods.take (j + 1)).foldl sgC (numC sj k))) (sepT M (sepT (blkT W.heap.size 27 #[.slice (some ⟨b1, o1, none⟩) n1 c1, .slice a2 n2 c2, .slice a3 n3 c3, .slice a4 n4 c4]) (sepT (blkT wo.heap.size 66 #[.string x.name, .string x.super, .slice A5 x.fields.length c5, .slice (some ⟨b2, o2, none⟩) k c7]) R))))) := Lib.hid (by rw [HPut2.out]; exact HH.out)
          clear HH
          go_wp2
          go_roundw
          case rel => exact ⟨j + 1, by go_num, by omega, HF.out⟩
          case measure => simp [intOf]; omega
        · have hjt' : ¬ (j : Int) < (k : Int) := by omega
          have hh := HH.out
          rw [put_all sgC sj x.methods j k (by have := HK.out; omega) HK.out] at hh
          have h5 : putC sgC sj x.methods = clC si x := by rw [← HSj.out]; rfl
          rw [h5] at hh
          have hd := (hh.turn (a' := (sepT (blkT wo.heap.size 66 #[.string x.name, .string x.super, .slice A5 x.fields.length c5, .slice A7 k c7]) (sepT (xcT p oo (clC si x)) (sepT M (sepT (blkT W.heap.size 27 #[.slice (some ⟨b1, o1, none⟩) n1 c1, .slice a2 n2 c2, .slice a3 n3 c3, .slice a4 n4 c4]) R))))) (by ac_rfl)).drop
          have HF : Hid (Lies N w0 wr (sepT (xcT p oo ((m.table.take (i + 1)).foldl clC (numC s0 n1))) (sepT M (sepT (blkT W.heap.size 27 #[.slice (some ⟨b1, o1, none⟩) n1 c1, .slice a2 n2 c2, .slice a3 n3 c3, .slice a4 n4 c4]) R)))) := Lib.hid (by rw [HPut.out]; exact hd)
          clear hh hd h5 HH
          go_wp2
          go_roundw
          case rel => exact ⟨i + 1, by go_num, by omega, HF.out⟩
          case measure => simp [intOf]; omega
    · have hlt' : ¬ (i : Int) < (n1 : Int) := by omega
      have hh := HH.out
      rw [put_all clC s0 m.table i n1 (by have := HN.out.1; omega) HN.out.1] at hh
      clear HH
      have HH := Lib.hid hh
      clear hh
      generalize hs1 : putC clC s0 m.table = s1 at *
      have HS1 := Lib.hid hs1
      clear hs1
      obtain ⟨wo, hwo⟩ : ∃ wo, wo = wr := ⟨_, rfl⟩
      subst hwo
      have e1 := (HH.out.turn (a' := (sepT (blkT W.heap.size 27 #[.slice a1 n1 c1, .slice a2 n2 c2, .slice a3 n3 c3, .slice a4 n4 c4]) (sepT (xcT p oo _) (sepT M R)))) (by ac_rfl)).blk.1.cell 1
      simp at e1
      obtain ⟨o, c0, hc⟩ := xc_num HH.out.drew
      have HC := Lib.hid (hc ((n2 : Int)) (by unfold iz; omega))
      clear hc HH
      go_wp2_with fail
      refine wp_region_text [7] lo0 (upAt 7) (by kernel_rfl) (by kernel_rfl) (by kernel_rfl) (by kernel_rfl) (by kernel_rfl) ?_
      repeat (refine wpTx_now (by rfl) (by rfl) (by rfl) (fun K hK => ?_); go_simp; refine hK _ ?_; clear hK K)
      refine wpTx_eff (by rfl) (fun K hK => ?_)
      go_simp
      refine HC.out.mono ?_
      rintro e w10 ⟨⟨E, rfl⟩, h⟩
      have HH := Lib.hid h
      refine ⟨_, rfl, hK _ _ (by simp [lateOK]) ?_⟩
      clear hK K h HC c0 e1 e0
      refine wpTx_nil ?_
      go_wp2_with fail
      go_loopw [7] (fun ix wq => ∃ i : Nat, ix = .int .i64 i ∧ i ≤ n2 ∧ Lies N w0 wq (sepT (xcT p oo ((m.sites.take i).foldl stC (numC s1 n2))) (sepT M (sepT (blkT W.heap.size 27 #[.slice a1 n1 c1, .slice a2 n2 c2, .slice a3 n3 c3, .slice a4 n4 c4]) R)))) (fun ix _ => n2 - (intOf ix).toNat)
      case atStart => exact ⟨0, rfl, Nat.zero_le _, HH.out⟩
      case round =>
        obtain ⟨i2, rfl, hi2, hh⟩ := hrel
        clear HH
        have HH := Lib.hid hh
        clear hh
        have e1 := (HH.out.turn (a' := (sepT (blkT W.heap.size 27 #[.slice a1 n1 c1, .slice a2 n2 c2, .slice a3 n3 c3, .slice a4 n4 c4]) (sepT (xcT p oo _) (sepT M R)))) (by ac_rfl)).blk.1.cell 1
        simp at e1
        by_cases hlt2 : i2 < n2
        · have hlt2' : (i2 : Int) < (n2 : Int) := by omega
          have hix : i2 < m.sites.length := by have := HN.out.2.1; omega
          have hAt : At N w0 M wr := ⟨_, HH.out.turn (a' := (sepT M (sepT (xcT p oo _) (sepT (blkT W.heap.size 27 #[.slice a1 n1 c1, .slice a2 n2 c2, .slice a3 n3 c3, .slice a4 n4 c4]) R)))) (by ac_rfl)⟩
          obtain ⟨b1, o1, d1, cs1, hv1, ht1, hat1⟩ := Kind.sl_atS (by have h := H2.out; have e := HN.out.2.1; rw [e] at h ⊢; exact h : stK.slS (At N w0 M) (.slice a2 n2 c2) m.sites) (by decide) hAt i2 hix
          obtain rfl : a2 = some ⟨b1, o1, none⟩ := by injection hv1
          have HPut := Lib.hid (put_take stC (numC s1 n2) m.sites i2 hix)
          generalize m.sites[i2] = x at *
          obtain ⟨rfl, x1, x2, x3⟩ := ht1
          have HX := Lib.hid (And.intro x1 (And.intro x2 x3))
          clear x1 x2 x3
          have HAt2 : Hid (∀ w, At N w0 M w → w.cell? ⟨b1, o1 + i2 * 3, none⟩ = some (.int .i64 x.what) ∧ w.cell? ⟨b1, o1 + i2 * 3 + 1, none⟩ = some (.string x.src) ∧ w.cell? ⟨b1, o1 + i2 * 3 + 2, none⟩ = some (.string x.dst)) := Lib.hid fun w hw => ⟨hat1 w hw 0 _ rfl, hat1 w hw 1 _ rfl, hat1 w hw 2 _ rfl⟩
          obtain ⟨r0, r1, r2⟩ := HAt2.out wr hAt
          clear hat1 hv1 hAt
          generalize hsk : (m.sites.take i2).foldl stC (numC s1 n2) = sk at *
          have HSk := Lib.hid hsk
          clear hsk
          obtain ⟨o, c0, hc⟩ := xc_num HH.out.drew
          have HC := Lib.hid (hc (x.what) (HX.out.1))
          clear hc HH
          go_wp2_with fail
          refine wp_region_text [10] lo0 (upAt 10) (by kernel_rfl) (by kernel_rfl) (by kernel_rfl) (by kernel_rfl) (by kernel_rfl) ?_
          repeat (refine wpTx_now (by rfl) (by rfl) (by rfl) (fun K hK => ?_); go_simp; refine hK _ ?_; clear hK K)
          refine wpTx_eff (by rfl) (fun K hK => ?_)
          go_simp
          refine HC.out.mono ?_
          rintro e w11 ⟨⟨E, rfl⟩, h⟩
          have HH := Lib.hid h
          refine ⟨_, rfl, hK _ _ (by simp [lateOK]) ?_⟩
          clear hK K h HC c0 r0 r1 r2 e1
          refine wpTx_nil ?_
          have e1 := (HH.out.turn (a' := (sepT (blkT W.heap.size 27 #[.slice a1 n1 c1, .slice (some ⟨b1, o1, none⟩) n2 c2, .slice a3 n3 c3, .slice a4 n4 c4]) (sepT (xcT p oo _) (sepT M R)))) (by ac_rfl)).blk.1.cell 1
          simp at e1
          obtain ⟨r0, r1, r2⟩ := HAt2.out w11 ⟨_, HH.out.turn (a' := (sepT M (sepT (xcT p oo _) (sepT (blkT W.heap.size 27 #[.slice a1 n1 c1, .slice (some ⟨b1, o1, none⟩) n2 c2, .slice a3 n3 c3, .slice a4 n4 c4]) R)))) (by ac_rfl)⟩
          have hb := (HH.out.newBlk 9 #[.string x.src, .string x.dst]).drew
          have HC := Lib.hid (xwords2 w11.heap.size 9 x.src x.dst HX.out.2.1 HX.out.2.2 (hb.turn (a' := (sepT (xcT p oo (numC sk x.what)) (sepT (blkT w11.heap.size 9 #[.string x.src, .string x.dst]) (sepT M (sepT (blkT W.heap.size 27 #[.slice a1 n1 c1, .slice (some ⟨b1, o1, none⟩) n2 c2, .slice a3 n3 c3, .slice a4 n4 c4]) R))))) (by ac_rfl)))
          clear hb HH
          go_wp2_with fail
          refine wp_region_text [13, 14] loXs upXs (by kernel_rfl) (by kernel_rfl) (by kernel_rfl) (by kernel_rfl) (by kernel_rfl) ?_
          repeat (first | (refine wpTx_now (by rfl) (by rfl) (by rfl) (fun K hK => ?_); go_simp; refine hK _ ?_; clear hK K) | (refine wpTx_late [] (by rfl) (by rfl) (by rfl) (fun K hK => ?_); go_simp; refine hK _ _ ?_; clear hK K))
          refine wpTx_eff (by rfl) (fun K hK => ?_)
          go_simp
          refine hK _ _ ?_ ?_
          · repeat (first | exact lateOK_nil | refine lateOK_skip (by rfl) ?_ | refine lateOK_cons (by go_simp) ?_)
          clear hK K
          refine wpTx_eff (by rfl) (fun K hK => ?_)
          go_simp
          refine HC.out.mono ?_
          rintro e w12 ⟨rfl, h⟩
          have HF : Hid (Lies N w0 w12 (sepT (xcT p oo ((m.sites.take (i2 + 1)).foldl stC (numC s1 n2))) (sepT M (sepT (blkT W.heap.size 27 #[.slice a1 n1 c1, .slice (some ⟨b1, o1, none⟩) n2 c2, .slice a3 n3 c3, .slice a4 n4 c4]) R)))) := Lib.hid (by rw [HPut.out]; exact h)
          refine ⟨_, rfl, hK _ _ (by repeat (first | exact lateOK_nil | refine lateOK_skip (by rfl) ?_ | refine lateOK_cons (by go_simp) ?_)) ?_⟩
          clear hK K h HC r0 r1 r2 e1
          refine wpTx_nil ?_
          go_wp2_with fail
          go_roundw
          case rel => exact ⟨i2 + 1, by go_num, by omega, HF.out⟩
          case measure => simp [intOf]; omega
        · have hlt2' : ¬ (i2 : Int) < (n2 : Int) := by omega
          have hh := HH.out
          rw [put_all stC s1 m.sites i2 n2 (by have := HN.out.2.1; omega) HN.out.2.1] at hh
          clear HH
          have HH := Lib.hid hh
          clear hh
          generalize hs2 : putC stC s1 m.sites = s2 at *
          have HS2 := Lib.hid hs2
          clear hs2
          obtain ⟨wo2, hwo⟩ : ∃ wo, wo = wr := ⟨_, rfl⟩
          subst hwo
          have e2 := (HH.out.turn (a' := (sepT (blkT W.heap.size 27 #[.slice a1 n1 c1, .slice a2 n2 c2, .slice a3 n3 c3, .slice a4 n4 c4]) (sepT (xcT p oo _) (sepT M R)))) (by ac_rfl)).blk.1.cell 2
          simp at e2
          obtain ⟨o, c0, hc⟩ := xc_num HH.out.drew
          have HC := Lib.hid (hc ((n3 : Int)) (by unfold iz; omega))
          clear hc HH
          go_wp2_with fail
          refine wp_region_text [7] lo0 (upAt 7) (by kernel_rfl) (by kernel_rfl) (by kernel_rfl) (by kernel_rfl) (by kernel_rfl) ?_
          repeat (refine wpTx_now (by rfl) (by rfl) (by rfl) (fun K hK => ?_); go_simp; refine hK _ ?_; clear hK K)
          refine wpTx_eff (by rfl) (fun K hK => ?_)
          go_simp
          refine HC.out.mono ?_
          rintro e w13 ⟨⟨E, rfl⟩, h⟩
          have HH := Lib.hid h
          refine ⟨_, rfl, hK _ _ (by simp [lateOK]) ?_⟩
          clear hK K h HC c0 e2 e1
          refine wpTx_nil ?_
          have e2 := (HH.out.turn (a' := (sepT (blkT W.heap.size 27 #[.slice a1 n1 c1, .slice a2 n2 c2, .slice a3 n3 c3, .slice a4 n4 c4]) (sepT (xcT p oo _) (sepT M R)))) (by ac_rfl)).blk.1.cell 2
          simp at e2
          have HPl : Hid (wordsC (numC s2 n3) m.pool = putC wordC s2 m.pool) := Lib.hid (by rw [HN.out.2.2.1]; rfl)
          have hpl := xwords_any m.pool _ H3.out HH.out
          rw [HPl.out] at hpl
          have HC := Lib.hid (hpl)
          clear HH
          go_wp2_with fail
          refine HC.out.mono ?_
          rintro e w14 ⟨rfl, h⟩
          have HH := Lib.hid h
          clear h HC e2 hpl
          generalize hs3 : putC wordC s2 m.pool = s3 at *
          have HS3 := Lib.hid hs3
          clear hs3 HPl
          have e3 := (HH.out.turn (a' := (sepT (blkT W.heap.size 27 #[.slice a1 n1 c1, .slice a2 n2 c2, .slice a3 n3 c3, .slice a4 n4 c4]) (sepT (xcT p oo _) (sepT M R)))) (by ac_rfl)).blk.1.cell 3
          simp at e3
          obtain ⟨o, c0, hc⟩ := xc_num HH.out.drew
          have HC := Lib.hid (hc ((n4 : Int)) (by unfold iz; omega))
          clear hc HH
          go_wp2_with fail
          refine wp_region_text [7] lo0 (upAt 7) (by kernel_rfl) (by kernel_rfl) (by kernel_rfl) (by kernel_rfl) (by kernel_rfl) ?_
          repeat (refine wpTx_now (by rfl) (by rfl) (by rfl) (fun K hK => ?_); go_simp; refine hK _ ?_; clear hK K)
          refine wpTx_eff (by rfl) (fun K hK => ?_)
          go_simp
          refine HC.out.mono ?_
          rintro e w15 ⟨⟨E, rfl⟩, h⟩
          have HH := Lib.hid h
          refine ⟨_, rfl, hK _ _ (by simp [lateOK]) ?_⟩
          clear hK K h HC c0 e3
          refine wpTx_nil ?_
          go_wp2_with fail
          go_loopw [8] (fun ix wq => ∃ i : Nat, ix = .int .i64 i ∧ i ≤ n4 ∧ Lies N w0 wq (sepT (xcT p oo ((m.funcs.take i).foldl fuC (numC s3 n4))) (sepT M (sepT (blkT W.heap.size 27 #[.slice a1 n1 c1, .slice a2 n2 c2, .slice a3 n3 c3, .slice a4 n4 c4]) R)))) (fun ix _ => n4 - (intOf ix).toNat)
          case atStart => exact ⟨0, rfl, Nat.zero_le _, HH.out⟩
          case round =>
            obtain ⟨i3, rfl, hi3, hh⟩ := hrel
            clear HH
            have HH := Lib.hid hh
            clear hh
            have e3 := (HH.out.turn (a' := (sepT (blkT W.heap.size 27 #[.slice a1 n1 c1, .slice a2 n2 c2, .slice a3 n3 c3, .slice a4 n4 c4]) (sepT (xcT p oo _) (sepT M R)))) (by ac_rfl)).blk.1.cell 3
            simp at e3
            by_cases hlt3 : i3 < n4
            · have hlt3' : (i3 : Int) < (n4 : Int) := by omega
              have hix : i3 < m.funcs.length := by have := HN.out.2.2.2; omega
              have hAt : At N w0 M wr := ⟨_, HH.out.turn (a' := (sepT M (sepT (xcT p oo _) (sepT (blkT W.heap.size 27 #[.slice a1 n1 c1, .slice a2 n2 c2, .slice a3 n3 c3, .slice a4 n4 c4]) R)))) (by ac_rfl)⟩
              obtain ⟨b1, o1, d1, cs1, hv1, ht1, hat1⟩ := Kind.sl_atS (by have h := H4.out; have e := HN.out.2.2.2; rw [e] at h ⊢; exact h : fuK.slS (At N w0 M) (.slice a4 n4 c4) m.funcs) (by decide) hAt i3 hix
              obtain rfl : a4 = some ⟨b1, o1, none⟩ := by injection hv1
              have HPut := Lib.hid (put_take fuC (numC s3 n4) m.funcs i3 hix)
              generalize m.funcs[i3] = x at *
              obtain ⟨ls, cd, rfl, z1, z2, f1, f3⟩ := ht1
              obtain ⟨A5, c5, rfl, hlf⟩ := Kind.sl_form f1
              obtain ⟨A7, c7, rfl, hlm⟩ := Kind.sl_form f3
              have p0 := hat1 wr hAt 0 _ rfl
              have p1 := hat1 wr hAt 1 _ rfl
              have p2 := hat1 wr hAt 2 _ rfl
              have p3 := hat1 wr hAt 3 _ rfl
              rw [show fuK.size = 4 from rfl] at p0 p1 p2 p3
              rw [Nat.add_zero] at p0
              clear hat1 hv1 hAt
              obtain ⟨k, hk⟩ : ∃ k, k = x.code.length := ⟨_, rfl⟩
              obtain ⟨kl, hkl⟩ : ∃ k, k = x.locals.length := ⟨_, rfl⟩
              have HK := Lib.hid (And.intro hk hkl)
              have F3 : Hid (inK.slS (At N w0 M) (.slice A7 k c7) x.code) := Lib.hid (by rw [hk]; exact f3)
              have F1 : Hid (txK.slS (At N w0 M) (.slice A5 kl c5) x.locals) := Lib.hid (by rw [hkl]; exact f1)
              rw [← hk] at p3 hlm
              rw [← hkl] at p2 hlf
              clear f1 f3 hk hkl
              generalize hsi : (m.funcs.take i3).foldl fuC (numC s3 n4) = si at *
              have HSi := Lib.hid hsi
              clear hsi
              obtain ⟨wo3, hwo⟩ : ∃ wo, wo = wr := ⟨_, rfl⟩
              subst hwo
              have hb := (HH.out.newBlk 48 #[.string x.cls, .string x.name, .slice A5 kl c5, .slice A7 k c7]).newBlk 9 #[.string x.cls, .string x.name]
              rw [show (wo3.alloc (.cells #[.string x.cls, .string x.name, .slice A5 kl c5, .slice A7 k c7] 48)).heap.size = wo3.heap.size + 1 by simp] at hb
              have HZ := Lib.hid (And.intro z1 z2)
              clear z1 z2
              have HC := Lib.hid (xwords2 (wo3.heap.size + 1) 9 x.cls x.name HZ.out.1 HZ.out.2 (hb.turn (a' := (sepT (xcT p oo si) (sepT (blkT (wo3.heap.size + 1) 9 #[.string x.cls, .string x.name]) (sepT M (sepT (blkT W.heap.size 27 #[.slice a1 n1 c1, .slice a2 n2 c2, .slice a3 n3 c3, .slice (some ⟨b1, o1, none⟩) n4 c4]) (sepT (blkT wo3.heap.size 48 #[.string x.cls, .string x.name, .slice A5 kl c5, .slice A7 k c7]) R)))))) (by ac_rfl)))
              clear HH
              go_wp2_with fail
              refine HC.out.mono ?_
              rintro e w16 ⟨rfl, h⟩
              have HH := Lib.hid h
              clear h HC hb p0 p1 p2 p3 e3
              have g2 := (HH.out.turn (a' := (sepT (blkT wo3.heap.size 48 #[.string x.cls, .string x.name, .slice A5 kl c5, .slice A7 k c7]) (sepT (xcT p oo _) (sepT M (sepT (blkT W.heap.size 27 #[.slice a1 n1 c1, .slice a2 n2 c2, .slice a3 n3 c3, .slice (some ⟨b1, o1, none⟩) n4 c4]) R))))) (by ac_rfl)).blk.1.cell 2
              simp at g2
              obtain ⟨o, c0, hc⟩ := xc_num HH.out.drew
              have HC := Lib.hid (hc ((kl : Int)) (by unfold iz; omega))
              clear hc HH
              go_wp2_with fail
              refine wp_region_text [7] lo0 (upAt 7) (by kernel_rfl) (by kernel_rfl) (by kernel_rfl) (by kernel_rfl) (by kernel_rfl) ?_
              repeat (refine wpTx_now (by rfl) (by rfl) (by rfl) (fun K hK => ?_); go_simp; refine hK _ ?_; clear hK K)
              refine wpTx_eff (by rfl) (fun K hK => ?_)
              go_simp
              refine HC.out.mono ?_
              rintro e w17 ⟨⟨E, rfl⟩, h⟩
              have HH := Lib.hid h
              refine ⟨_, rfl, hK _ _ (by simp [lateOK]) ?_⟩
              clear hK K h HC c0 g2
              refine wpTx_nil ?_
              have g2 := (HH.out.turn (a' := (sepT (blkT wo3.heap.size 48 #[.string x.cls, .string x.name, .slice A5 kl c5, .slice A7 k c7]) (sepT (xcT p oo _) (sepT M (sepT (blkT W.heap.size 27 #[.slice a1 n1 c1, .slice a2 n2 c2, .slice a3 n3 c3, .slice (some ⟨b1, o1, none⟩) n4 c4]) R))))) (by ac_rfl)).blk.1.cell 2
              simp at g2
              have HPl : Hid (wordsC (numC (wordsC si [x.cls, x.name]) kl) x.locals = putC wordC (wordsC si [x.cls, x.name]) x.locals) := Lib.hid (by rw [HK.out.2]; rfl)
              have hpl := xwords_any x.locals _ F1.out HH.out
              rw [HPl.out] at hpl
              have HC := Lib.hid (hpl)
              clear HH
              go_wp2_with fail
              refine HC.out.mono ?_
              rintro e w18 ⟨rfl, h⟩
              have HH := Lib.hid h
              clear h HC g2 hpl
              have g3 := (HH.out.turn (a' := (sepT (blkT wo3.heap.size 48 #[.string x.cls, .string x.name, .slice A5 kl c5, .slice A7 k c7]) (sepT (xcT p oo _) (sepT M (sepT (blkT W.heap.size 27 #[.slice a1 n1 c1, .slice a2 n2 c2, .slice a3 n3 c3, .slice (some ⟨b1, o1, none⟩) n4 c4]) R))))) (by ac_rfl)).blk.1.cell 3
              simp at g3
              obtain ⟨o, c0, hc⟩ := xc_num HH.out.drew
              have HC := Lib.hid (hc ((k : Int)) (by unfold iz; omega))
              clear hc HH
              go_wp2_with fail
              refine wp_region_text [7] lo0 (upAt 7) (by kernel_rfl) (by kernel_rfl) (by kernel_rfl) (by kernel_rfl) (by kernel_rfl) ?_
              repeat (refine wpTx_now (by rfl) (by rfl) (by rfl) (fun K hK => ?_); go_simp; refine hK _ ?_; clear hK K)
              refine wpTx_eff (by rfl) (fun K hK => ?_)
              go_simp
              refine HC.out.mono ?_
              rintro e w19 ⟨⟨E, rfl⟩, h⟩
              have HH := Lib.hid h
              refine ⟨_, rfl, hK _ _ (by simp [lateOK]) ?_⟩
              clear hK K h HC c0 g3
              refine wpTx_nil ?_
              generalize hsj : putC wordC (wordsC si [x.cls, x.name]) x.locals = sj at *
              have HSj := Lib.hid hsj
              clear hsj HPl
              go_wp2_with fail
              go_loopw [10] (fun ix wq => ∃ i : Nat, ix = .int .i64 i ∧ i ≤ k ∧ Lies N w0 wq (sepT (xcT p oo ((x.code.take i).foldl inC (numC sj k))) (sepT M (sepT (blkT W.heap.size 27 #[.slice a1 n1 c1, .slice a2 n2 c2, .slice a3 n3 c3, .slice (some ⟨b1, o1, none⟩) n4 c4]) (sepT (blkT wo3.heap.size 48 #[.string x.cls, .string x.name, .slice A5 kl c5, .slice A7 k c7]) R))))) (fun ix _ => k - (intOf ix).toNat)
              case atStart => exact ⟨0, rfl, Nat.zero_le _, HH.out⟩
              case round =>
                obtain ⟨j, rfl, hj, hh⟩ := hrel
                clear HH
                have HH := Lib.hid hh
                clear hh
                have g3 := (HH.out.turn (a' := (sepT (blkT wo3.heap.size 48 #[.string x.cls, .string x.name, .slice A5 kl c5, .slice A7 k c7]) (sepT (xcT p oo _) (sepT M (sepT (blkT W.heap.size 27 #[.slice a1 n1 c1, .slice a2 n2 c2, .slice a3 n3 c3, .slice (some ⟨b1, o1, none⟩) n4 c4]) R))))) (by ac_rfl)).blk.1.cell 3
                simp at g3
                by_cases hjt : j < k
                · have hjt' : (j : Int) < (k : Int) := by omega
                  have hjx : j < x.code.length := by have := HK.out.1; omega
                  have hAt : At N w0 M wr := ⟨_, HH.out.turn (a' := (sepT M (sepT (xcT p oo _) (sepT (blkT W.heap.size 27 #[.slice a1 n1 c1, .slice a2 n2 c2, .slice a3 n3 c3, .slice (some ⟨b1, o1, none⟩) n4 c4]) (sepT (blkT wo3.heap.size 48 #[.string x.cls, .string x.name, .slice A5 kl c5, .slice A7 k c7]) R))))) (by ac_rfl)⟩
                  obtain ⟨b2, o2, d2, cs2, hv2, ht2, hat2⟩ := Kind.sl_atS (by have h := F3.out; have e := HK.out.1; rw [e] at h ⊢; exact h : inK.slS (At N w0 M) (.slice A7 k c7) x.code) (by decide) hAt j hjx
                  obtain rfl : A7 = some ⟨b2, o2, none⟩ := by injection hv2
                  have HPut2 := Lib.hid (put_take inC (numC sj k) x.code j hjx)
                  generalize x.code[j] = y at *
                  obtain ⟨rfl, y0, y1, y2, y3⟩ := ht2
                  have HY := Lib.hid (And.intro y0 (And.intro y1 (And.intro y2 y3)))
                  clear y0 y1 y2 y3
                  have HAt2 : Hid (∀ w, At N w0 M w → w.cell? ⟨b2, o2 + j * 4, none⟩ = some (.int .i64 y.op) ∧ w.cell? ⟨b2, o2 + j * 4 + 1, none⟩ = some (.int .i64 y.a) ∧ w.cell? ⟨b2, o2 + j * 4 + 2, none⟩ = some (.int .i64 y.b) ∧ w.cell? ⟨b2, o2 + j * 4 + 3, none⟩ = some (.int .i64 y.c)) := Lib.hid fun w hw => ⟨hat2 w hw 0 _ rfl, hat2 w hw 1 _ rfl, hat2 w hw 2 _ rfl, hat2 w hw 3 _ rfl⟩
                  obtain ⟨r0, r1, r2, r3⟩ := HAt2.out wr hAt
                  clear hat2 hv2 hAt
                  generalize hsk : (x.code.take j).foldl inC (numC sj k) = sk at *
                  have HSk := Lib.hid hsk
                  clear hsk
                  obtain ⟨o, c0, hc⟩ := xc_num HH.out.drew
                  have HC := Lib.hid (hc (y.op) (HY.out.1))
                  clear hc HH
                  go_wp2_with fail
                  refine wp_region_text [10] lo0 (upAt 10) (by kernel_rfl) (by kernel_rfl) (by kernel_rfl) (by kernel_rfl) (by kernel_rfl) ?_
                  repeat (refine wpTx_now (by rfl) (by rfl) (by rfl) (fun K hK => ?_); go_simp; refine hK _ ?_; clear hK K)
                  refine wpTx_eff (by rfl) (fun K hK => ?_)
                  go_simp
                  refine HC.out.mono ?_
                  rintro e w20 ⟨⟨E, rfl⟩, h⟩
                  have HH := Lib.hid h
                  refine ⟨_, rfl, hK _ _ (by simp [lateOK]) ?_⟩
                  clear hK K h HC c0 r0 r1 r2 r3 g3
                  refine wpTx_nil ?_
                  have g3 := (HH.out.turn (a' := (sepT (blkT wo3.heap.size 48 #[.string x.cls, .string x.name, .slice A5 kl c5, .slice (some ⟨b2, o2, none⟩) k c7]) (sepT (xcT p oo _) (sepT M (sepT (blkT W.heap.size 27 #[.slice a1 n1 c1, .slice a2 n2 c2, .slice a3 n3 c3, .slice (some ⟨b1, o1, none⟩) n4 c4]) R))))) (by ac_rfl)).blk.1.cell 3
                  simp at g3
                  obtain ⟨r0, r1, r2, r3⟩ := HAt2.out w20 ⟨_, HH.out.turn (a' := (sepT M (sepT (xcT p oo _) (sepT (blkT W.heap.size 27 #[.slice a1 n1 c1, .slice a2 n2 c2, .slice a3 n3 c3, .slice (some ⟨b1, o1, none⟩) n4 c4]) (sepT (blkT wo3.heap.size 48 #[.string x.cls, .string x.name, .slice A5 kl c5, .slice (some ⟨b2, o2, none⟩) k c7]) R))))) (by ac_rfl)⟩
                  have HC := Lib.hid (xop_any y.a HY.out.2.1 HH.out)
                  clear HH
                  go_wp2_with fail
                  refine HC.out.mono ?_
                  rintro e w21 ⟨rfl, h⟩
                  have HH := Lib.hid h
                  clear h HC r0 r1 r2 r3 g3
                  have g3 := (HH.out.turn (a' := (sepT (blkT wo3.heap.size 48 #[.string x.cls, .string x.name, .slice A5 kl c5, .slice (some ⟨b2, o2, none⟩) k c7]) (sepT (xcT p oo _) (sepT M (sepT (blkT W.heap.size 27 #[.slice a1 n1 c1, .slice a2 n2 c2, .slice a3 n3 c3, .slice (some ⟨b1, o1, none⟩) n4 c4]) R))))) (by ac_rfl)).blk.1.cell 3
                  simp at g3
                  obtain ⟨r0, r1, r2, r3⟩ := HAt2.out w21 ⟨_, HH.out.turn (a' := (sepT M (sepT (xcT p oo _) (sepT (blkT W.heap.size 27 #[.slice a1 n1 c1, .slice a2 n2 c2, .slice a3 n3 c3, .slice (some ⟨b1, o1, none⟩) n4 c4]) (sepT (blkT wo3.heap.size 48 #[.string x.cls, .string x.name, .slice A5 kl c5, .slice (some ⟨b2, o2, none⟩) k c7]) R))))) (by ac_rfl)⟩
                  have HC := Lib.hid (xop_any y.b HY.out.2.2.1 HH.out)
                  clear HH
                  go_wp2_with fail
                  refine HC.out.mono ?_
                  rintro e w22 ⟨rfl, h⟩
                  have HH := Lib.hid h
                  clear h HC r0 r1 r2 r3 g3
                  have g3 := (HH.out.turn (a' := (sepT (blkT wo3.heap.size 48 #[.string x.cls, .string x.name, .slice A5 kl c5, .slice (some ⟨b2, o2, none⟩) k c7]) (sepT (xcT p oo _) (sepT M (sepT (blkT W.heap.size 27 #[.slice a1 n1 c1, .slice a2 n2 c2, .slice a3 n3 c3, .slice (some ⟨b1, o1, none⟩) n4 c4]) R))))) (by ac_rfl)).blk.1.cell 3
                  simp at g3
                  obtain ⟨r0, r1, r2, r3⟩ := HAt2.out w22 ⟨_, HH.out.turn (a' := (sepT M (sepT (xcT p oo _) (sepT (blkT W.heap.size 27 #[.slice a1 n1 c1, .slice a2 n2 c2, .slice a3 n3 c3, .slice (some ⟨b1, o1, none⟩) n4 c4]) (sepT (blkT wo3.heap.size 48 #[.string x.cls, .string x.name, .slice A5 kl c5, .slice (some ⟨b2, o2, none⟩) k c7]) R))))) (by ac_rfl)⟩
                  have HC := Lib.hid (xop_any y.c HY.out.2.2.2 HH.out)
                  clear HH
                  go_wp2_with fail
                  refine HC.out.mono ?_
                  rintro e w23 ⟨rfl, h⟩
                  have HH := Lib.hid h
                  clear h HC r0 r1 r2 r3 g3
                  have HF : Hid (Lies N w0 w23 (sepT (xcT p oo ((x.code.take (j + 1)).foldl inC (numC sj k))) (sepT M (sepT (blkT W.heap.size 27 #[.slice a1 n1 c1, .slice a2 n2 c2, .slice a3 n3 c3, .slice (some ⟨b1, o1, none⟩) n4 c4]) (sepT (blkT wo3.heap.size 48 #[.string x.cls, .string x.name, .slice A5 kl c5, .slice (some ⟨b2, o2, none⟩) k c7]) R))))) := Lib.hid (by rw [HPut2.out]; exact HH.out)
                  clear HH
                  go_wp2
                  go_roundw
                  case rel => exact ⟨j + 1, by go_num, by omega, HF.out⟩
                  case measure => simp [intOf]; omega
                · have hjt' : ¬ (j : Int) < (k : Int) := by omega
                  have hh := HH.out
                  rw [put_all inC sj x.code j k (by have := HK.out.1; omega) HK.out.1] at hh
                  have h5 : putC inC sj x.code = fuC si x := by rw [← HSj.out]; rfl
                  rw [h5] at hh
                  have hd := (hh.turn (a' := (sepT (blkT wo3.heap.size 48 #[.string x.cls, .string x.name, .slice A5 kl c5, .slice A7 k c7]) (sepT (xcT p oo (fuC si x)) (sepT M (sepT (blkT W.heap.size 27 #[.slice a1 n1 c1, .slice a2 n2 c2, .slice a3 n3 c3, .slice (some ⟨b1, o1, none⟩) n4 c4]) R))))) (by ac_rfl)).drop
                  have HF : Hid (Lies N w0 wr (sepT (xcT p oo ((m.funcs.take (i3 + 1)).foldl fuC (numC s3 n4))) (sepT M (sepT (blkT W.heap.size 27 #[.slice a1 n1 c1, .slice a2 n2 c2, .slice a3 n3 c3, .slice (some ⟨b1, o1, none⟩) n4 c4]) R)))) := Lib.hid (by rw [HPut.out]; exact hd)
                  clear hh hd h5 HH
                  go_wp2
                  go_roundw
                  case rel => exact ⟨i3 + 1, by go_num, by omega, HF.out⟩
                  case measure => simp [intOf]; omega
            · have hlt3' : ¬ (i3 : Int) < (n4 : Int) := by omega
              have hh := HH.out
              rw [put_all fuC s3 m.funcs i3 n4 (by have := HN.out.2.2.2; omega) HN.out.2.2.2] at hh
              have HF := Lib.hid (hh.turn (a' := (sepT (blkT W.heap.size 27 #[.slice a1 n1 c1, .slice a2 n2 c2, .slice a3 n3 c3, .slice a4 n4 c4]) (sepT (xcT p oo (putC fuC s3 m.funcs)) (sepT M R)))) (by ac_rfl)).drop
              clear hh HH
              go_wp2_with fail
              go_end0
              have hf := HF.out
              rw [← HS3.out, ← HS2.out, ← HS1.out, ← HS0.out] at hf
              exact ⟨rfl, hf⟩
end Go.Proofs.YtcapdmicekialaaGreat
