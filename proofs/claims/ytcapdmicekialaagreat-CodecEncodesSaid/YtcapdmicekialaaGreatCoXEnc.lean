/- chaperonref22.Encode. -/
import Derived.Test.YtcapdmicekialaaGreatCoXAll
namespace Go.Proofs.YtcapdmicekialaaGreat
open Go.RowKit
set_option linter.unusedVariables false
set_option linter.unusedSimpArgs false
attribute [local go_sem] Oper.semAt_some run_store_func run_store_nilFunc
section
variable {N : Nat} {w0 W W' : World} {R M : Thing} {p oo : Nat} {st : CS}
theorem Lies.xnew (H : Lies N w0 W R) (n : Int) (h0 : 0 ≤ n) (h1 : n ≤ 1048576) : Calls Tryz.prog 39 #[.int .i64 n] W fun e W' => ∃ o, e = .returned (.tuple #[.pointer (some ⟨o, 0, none⟩), .int .i64 0]) ∧ Lies N w0 W' (sepT (rwT o n ([], 0)) R) :=
  (Hold.xnew H.hold1 n h0 h1).mono fun e W' ⟨o, he, h⟩ => ⟨o, he, (Hold.lies h).turn (by ac_rfl)⟩
theorem xc_bytes (H : Lies N w0 W (sepT (xcT p oo st) R)) : Calls Tryz.prog 41 #[.pointer (some ⟨oo, 0, none⟩)] W fun e W' => ∃ A c, e = .returned (.tuple #[.slice A (if st.1.2 = 0 then st.1.1 else []).length c, .int .i64 st.1.2]) ∧ Lies N w0 W' (sepT (byT A c (if st.1.2 = 0 then st.1.1 else [])) (sepT (xcT p oo st) R)) := by
  have h := xc_out H
  refine (Hold.xbytes (h.turn (a' := sepT (rwT oo 1048576 st.1) (sepT (blkT p 82 #[.pointer (some ⟨oo, 0, none⟩), .bool st.2]) R)) (by ac_rfl)).hold 0 rfl).mono ?_
  rintro e W' ⟨A, c, he, h', _⟩
  refine ⟨A, c, he, ?_⟩
  have h3 := xc_in (p := p) (st := st) (oo := oo) (R := sepT (byT A c (if st.1.2 = 0 then st.1.1 else [])) R) ((Hold.lies3 h').turn (by ac_rfl))
  exact h3.turn (by ac_rfl)
set_option maxRecDepth 100000 in
set_option maxHeartbeats 3200000 in
theorem xenc_any (cs : List Value) (m : Md) (h : mdK.told (At N w0 M) cs m) (H : Lies N w0 W (sepT M R)) : Calls Tryz.prog 9 #[.agg cs.toArray] W fun e w' => ∃ A c, e = .returned (.tuple #[.slice A (encM m).1.length c, .int .i64 (encM m).2]) ∧ Lies N w0 w' (sepT (byT A c (encM m).1) (sepT M R)) := by
  have HT := Lib.hid h
  obtain ⟨t, s, q, f, rfl, h1, h2, h3, h4⟩ := h
  obtain ⟨At_, ct, ht, hlt⟩ := Kind.sl_form h1
  obtain ⟨As, c2, hs, hls⟩ := Kind.sl_form h2
  obtain ⟨Ap, cp, hp, hlp⟩ := Kind.sl_form h3
  obtain ⟨Af, cf, hf, hlf⟩ := Kind.sl_form h4
  subst ht hs hp hf
  have hb := (H.newBlk 27 #[.slice At_ m.table.length ct, .slice As m.sites.length c2, .slice Ap m.pool.length cp, .slice Af m.funcs.length cf]).turn (a' := sepT M (sepT (blkT W.heap.size 27 #[.slice At_ m.table.length ct, .slice As m.sites.length c2, .slice Ap m.pool.length cp, .slice Af m.funcs.length cf]) R)) (by ac_rfl)
  have HM : Hid (∀ W', Lies N w0 W' (sepT M (sepT (blkT W.heap.size 27 #[.slice At_ m.table.length ct, .slice As m.sites.length c2, .slice Ap m.pool.length cp, .slice Af m.funcs.length cf]) R)) → Calls Tryz.prog 37 #[.agg #[.slice At_ m.table.length ct, .slice As m.sites.length c2, .slice Ap m.pool.length cp, .slice Af m.funcs.length cf]] W' (RetB (manyM m) W')) := Lib.hid fun W' h => xmany_any _ m (Kind.one HT.out ⟨_, h⟩)
  have HB : Hid (∀ W', Lies N w0 W' (sepT M (sepT (blkT W.heap.size 27 #[.slice At_ m.table.length ct, .slice As m.sites.length c2, .slice Ap m.pool.length cp, .slice Af m.funcs.length cf]) R)) → Calls Tryz.prog 38 #[.agg #[.slice At_ m.table.length ct, .slice As m.sites.length c2, .slice Ap m.pool.length cp, .slice Af m.funcs.length cf]] W' (RetB (belowM m) W')) := Lib.hid fun W' h => xbelow_any _ m (Kind.one HT.out ⟨_, h⟩)
  have HH := Lib.hid hb
  clear H hb h1 h2 h3 h4
  show Calls Tryz.prog 9 #[.agg #[.slice At_ m.table.length ct, .slice As m.sites.length c2, .slice Ap m.pool.length cp, .slice Af m.funcs.length cf]] W _
  have HM1 := Lib.hid (HM.out _ HH.out)
  by_cases g1 : manyM m = true
  · have HE : Hid (encM m = ([], 12)) := Lib.hid (if_pos g1)
    rw [g1] at HM1
    rw [HE.out]
    clear HM HB g1
    go_enter Tryz.func9, Tryz.ntmps9
    go_wp2_with fail
    refine HM1.out.mono ?_
    rintro e w1 ⟨rfl, hb⟩
    have HF := Lib.hid ((HH.out.calm hb).turn (a' := sepT (blkT W.heap.size 27 #[.slice At_ m.table.length ct, .slice As m.sites.length c2, .slice Ap m.pool.length cp, .slice Af m.funcs.length cf]) (sepT M R)) (by ac_rfl)).drop
    clear hb HM1 HH
    go_wp2_with fail
    go_ret2
    exact ⟨none, 0, rfl, by_nil HF.out⟩
  have gf1 : manyM m = false := by simpa using g1
  rw [gf1] at HM1
  by_cases g2 : belowM m = true
  · have HE : Hid (encM m = ([], 3)) := Lib.hid (by unfold encM; rw [if_neg g1, if_pos g2])
    rw [HE.out]
    rw [g2] at HB
    clear HM g1 gf1 g2
    go_enter Tryz.func9, Tryz.ntmps9
    go_wp2_with fail
    refine HM1.out.mono ?_
    rintro e w1 ⟨rfl, hb⟩
    have h1 := HH.out.calm hb
    have hbl := (h1.turn (a' := sepT (blkT W.heap.size 27 #[.slice At_ m.table.length ct, .slice As m.sites.length c2, .slice Ap m.pool.length cp, .slice Af m.funcs.length cf]) (sepT M R)) (by ac_rfl)).blk.1
    have d0 := hbl.cell 0
    have d1 := hbl.cell 1
    have d2 := hbl.cell 2
    have d3 := hbl.cell 3
    simp at d0 d1 d2 d3
    have HB1 := Lib.hid (HB.out _ h1)
    have HH1 := Lib.hid h1
    clear hb HM1 HH hbl h1 HB
    go_wp2_with fail
    refine HB1.out.mono ?_
    rintro e w2 ⟨rfl, hb⟩
    have HF := Lib.hid ((HH1.out.calm hb).turn (a' := sepT (blkT W.heap.size 27 #[.slice At_ m.table.length ct, .slice As m.sites.length c2, .slice Ap m.pool.length cp, .slice Af m.funcs.length cf]) (sepT M R)) (by ac_rfl)).drop
    clear hb HB1 HH1 d0 d1 d2 d3
    go_wp2_with fail
    go_ret2
    exact ⟨none, 0, rfl, by_nil HF.out⟩
  have gf2 : belowM m = false := by simpa using g2
  have HE : Hid (encM m = if (mdC m).2 then ([], 4) else if (mdC m).1.2 ≠ 0 then ([], 4) else ((mdC m).1.1, 0)) := Lib.hid (by unfold encM; rw [if_neg g1, if_neg g2])
  obtain ⟨res, hres⟩ : ∃ res, res = encM m := ⟨_, rfl⟩
  rw [← hres]
  have HRes := Lib.hid (hres.trans HE.out)
  rw [gf2] at HB
  clear HM g1 gf1 g2 gf2 HE hres
  go_enter Tryz.func9, Tryz.ntmps9
  go_wp2_with fail
  refine HM1.out.mono ?_
  rintro e w1 ⟨rfl, hb⟩
  have h1 := HH.out.calm hb
  have hbl := (h1.turn (a' := sepT (blkT W.heap.size 27 #[.slice At_ m.table.length ct, .slice As m.sites.length c2, .slice Ap m.pool.length cp, .slice Af m.funcs.length cf]) (sepT M R)) (by ac_rfl)).blk.1
  have d0 := hbl.cell 0
  have d1 := hbl.cell 1
  have d2 := hbl.cell 2
  have d3 := hbl.cell 3
  simp at d0 d1 d2 d3
  have HB1 := Lib.hid (HB.out _ h1)
  have HH1 := Lib.hid h1
  clear hb HM1 HH hbl h1 HB
  go_wp2_with fail
  refine HB1.out.mono ?_
  rintro e w2 ⟨rfl, hb⟩
  have HN := Lib.hid (Lies.xnew (HH1.out.calm hb) 1048576 (by decide) (by decide))
  clear hb HB1 HH1 d0 d1 d2 d3
  go_wp2_with fail
  refine HN.out.mono ?_
  rintro e w3 ⟨o, rfl, h⟩
  have h1 := xc_in (p := w3.heap.size) (st := st0) (oo := o) ((h.newBlk 82 #[.pointer (some ⟨o, 0, none⟩), .bool false]).turn (a' := sepT (blkT w3.heap.size 82 #[.pointer (some ⟨o, 0, none⟩), .bool false]) (sepT (rwT o 1048576 ([], 0)) (sepT M (sepT (blkT W.heap.size 27 #[.slice At_ m.table.length ct, .slice As m.sites.length c2, .slice Ap m.pool.length cp, .slice Af m.funcs.length cf]) R)))) (by ac_rfl))
  have hbl := (h1.turn (a' := sepT (blkT W.heap.size 27 #[.slice At_ m.table.length ct, .slice As m.sites.length c2, .slice Ap m.pool.length cp, .slice Af m.funcs.length cf]) (sepT (xcT w3.heap.size o st0) (sepT M R))) (by ac_rfl)).blk.1
  have d0 := hbl.cell 0
  have d1 := hbl.cell 1
  have d2 := hbl.cell 2
  have d3 := hbl.cell 3
  simp at d0 d1 d2 d3
  have HC := Lib.hid (xall_any _ m HT.out h1)
  clear h h1 HN hbl
  go_wp2_with fail
  refine HC.out.mono ?_
  rintro e w9 ⟨rfl, h⟩
  have h : Lies N w0 w9 (sepT (xcT w3.heap.size o (mdC m)) (sepT M (sepT (blkT W.heap.size 27 #[.slice At_ m.table.length ct, .slice As m.sites.length c2, .slice Ap m.pool.length cp, .slice Af m.funcs.length cf]) R))) := h
  have hby := xc_bytes h
  obtain ⟨out, hout⟩ : ∃ out, out = (if (mdC m).1.2 = 0 then (mdC m).1.1 else []) := ⟨_, rfl⟩
  rw [← hout] at hby
  have HY := Lib.hid hby
  have HO := Lib.hid hout
  clear h hby HC d0 d1 d2 d3 hout
  generalize mdC m = st at *
  go_wp2_with fail
  refine HY.out.mono ?_
  rintro e w10 ⟨A, c, rfl, h⟩
  have hx := xc_out (h.turn (a' := sepT (xcT w3.heap.size o st) (sepT (byT A c out) (sepT M (sepT (blkT W.heap.size 27 #[.slice At_ m.table.length ct, .slice As m.sites.length c2, .slice Ap m.pool.length cp, .slice Af m.funcs.length cf]) R)))) (by ac_rfl))
  have c1 := hx.blk.1.cell 1
  simp at c1
  have HF := Lib.hid ((((h.turn (a' := sepT (xcT w3.heap.size o st) (sepT (blkT W.heap.size 27 #[.slice At_ m.table.length ct, .slice As m.sites.length c2, .slice Ap m.pool.length cp, .slice Af m.funcs.length cf]) (sepT (byT A c out) (sepT M R)))) (by ac_rfl)).drop).drop))
  clear h HY hx
  obtain ⟨⟨bs, er⟩, lg⟩ := st
  by_cases hlg : lg = true
  · subst hlg
    have HR2 : Hid (res = ([], 4)) := Lib.hid HRes.out
    clear HRes HO
    go_wp2_with fail
    go_ret2
    rw [HR2.out]
    exact ⟨none, 0, rfl, by_nil HF.out.drop⟩
  · have hlf : lg = false := by simpa using hlg
    subst hlf
    by_cases ge : er = 0
    · subst ge
      have HR2 : Hid (res = (out, 0)) := Lib.hid (by rw [HRes.out, HO.out]; rfl)
      clear HRes HO hlg
      go_wp2_with fail
      go_ret2
      rw [HR2.out]
      exact ⟨A, c, rfl, HF.out⟩
    · have HR2 : Hid (res = ([], 4)) := Lib.hid (by rw [HRes.out]; simp [ge])
      clear HRes HO hlg
      go_wp2_with fail
      go_ret2
      rw [HR2.out]
      exact ⟨none, 0, rfl, by_nil HF.out.drop⟩
end
end Go.Proofs.YtcapdmicekialaaGreat
