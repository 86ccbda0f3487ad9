/- codec.Encode. -/
import Derived.Test.YtcapdmicekialaaCoWr2
namespace Go.Proofs.Ytcapdmicekialaa
open Go.RowKit
set_option linter.unusedVariables false
set_option linter.unusedSimpArgs false
attribute [local go_sem] Oper.semAt_some run_store_func run_store_nilFunc
def st0 : CS := (([], 0), false)
def mdC (m : Md) : CS := putC fuC (putC wordC (putC stC (putC clC (numC (numC st0 67) 1) m.table) m.sites) m.pool) m.funcs
/-- What Encode tells. -/
def encM (m : Md) : List UInt8 × Int := if manyM m then ([], 12) else if belowM m then ([], 3) else if (mdC m).2 then ([], 4) else if (mdC m).1.2 ≠ 0 then ([], 4) else ((mdC m).1.1, 0)
section
variable {N : Nat} {w0 W W' : World} {R M : Thing} {p : Nat} {st : CS}
theorem Lies.calm (h : Lies N w0 W R) (hb : Below W.heap.size W W') : Lies N w0 W' R := h.quiet (Only.of_below hb fun b hb hn => by omega)
theorem by_nil (H : Lies N w0 W R) : Lies N w0 W (sepT (byT none 0 []) R) :=
  H.add _ (Only.refl _ _) ⟨_, ⟨World.ownsRow_nil _ _ _ _, rfl⟩, fun b hb => by simp [Value.ownBlock] at hb⟩
theorem Lies.wnew (H : Lies N w0 W R) (n : Int) (h0 : 0 ≤ n) (h1 : n ≤ 1048576) : Calls Try.prog 11 #[.int .i64 n] W fun e W' => ∃ o, e = .returned (.tuple #[.pointer (some ⟨o, 0, none⟩), .int .i64 0]) ∧ Lies N w0 W' (sepT (wrT o n ([], 0)) R) :=
  (Hold.wnew H.hold1 n h0 h1).mono fun e W' ⟨o, he, h⟩ => ⟨o, he, (Hold.lies h).turn (by ac_rfl)⟩
theorem cw_bytes (H : Lies N w0 W (sepT (cwT p st) R)) : ∃ o, W.cell? ⟨p, 0, none⟩ = some (.pointer (some ⟨o, 0, none⟩)) ∧ Calls Try.prog 21 #[.pointer (some ⟨o, 0, none⟩)] W fun e W' => ∃ A c, e = .returned (.tuple #[.slice A (if st.1.2 = 0 then st.1.1 else []).length c, .int .i64 st.1.2]) ∧ Lies N w0 W' (sepT (byT A c (if st.1.2 = 0 then st.1.1 else [])) (sepT (cwT p st) R)) := by
  obtain ⟨o, h⟩ := cw_out H
  refine ⟨o, h.blk.1.cell 0, (Hold.wbytes (h.turn (a' := sepT (wrT o 1048576 st.1) (sepT (blkT p 90 #[.pointer (some ⟨o, 0, none⟩), .bool st.2]) R)) (by ac_rfl)).hold 0 rfl).mono ?_⟩
  rintro e W' ⟨A, c, he, h', _⟩
  refine ⟨A, c, he, ?_⟩
  have h3 := cw_in (p := p) (st := st) (o := o) (R := sepT (byT A c (if st.1.2 = 0 then st.1.1 else [])) R) ((Hold.lies3 h').turn (by ac_rfl))
  exact h3.turn (by ac_rfl)
theorem cw_long (H : Lies N w0 W (sepT (cwT p st) R)) : W.cell? ⟨p, 1, none⟩ = some (.bool st.2) := by
  obtain ⟨o, h⟩ := cw_out H
  exact h.blk.1.cell 1
set_option maxRecDepth 100000 in
set_option maxHeartbeats 3200000 in
theorem enc_any (cs : List Value) (m : Md) (h : mdK.told (At N w0 M) cs m) (H : Lies N w0 W (sepT M R)) : Calls Try.prog 36 #[.agg cs.toArray] W fun e w' => ∃ A c, e = .returned (.tuple #[.slice A (encM m).1.length c, .int .i64 (encM m).2]) ∧ Lies N w0 w' (sepT (byT A c (encM m).1) (sepT M R)) := by
  have HT := Lib.hid h
  obtain ⟨t, s, q, f, rfl, h1, h2, h3, h4⟩ := h
  obtain ⟨At_, ct, ht, hlt⟩ := Kind.sl_form h1
  obtain ⟨As, c2, hs, hls⟩ := Kind.sl_form h2
  obtain ⟨Ap, cp, hp, hlp⟩ := Kind.sl_form h3
  obtain ⟨Af, cf, hf, hlf⟩ := Kind.sl_form h4
  subst ht hs hp hf
  have hb := (H.newBlk 68 #[.slice At_ m.table.length ct, .slice As m.sites.length c2, .slice Ap m.pool.length cp, .slice Af m.funcs.length cf]).turn (a' := sepT M (sepT (blkT W.heap.size 68 #[.slice At_ m.table.length ct, .slice As m.sites.length c2, .slice Ap m.pool.length cp, .slice Af m.funcs.length cf]) R)) (by ac_rfl)
  have HM : Hid (∀ W', Lies N w0 W' (sepT M (sepT (blkT W.heap.size 68 #[.slice At_ m.table.length ct, .slice As m.sites.length c2, .slice Ap m.pool.length cp, .slice Af m.funcs.length cf]) R)) → Calls Try.prog 52 #[.agg #[.slice At_ m.table.length ct, .slice As m.sites.length c2, .slice Ap m.pool.length cp, .slice Af m.funcs.length cf]] W' (RetB (manyM m) W')) := Lib.hid fun W' h => many_any W' _ m (Kind.one HT.out ⟨_, h⟩)
  have HB : Hid (∀ W', Lies N w0 W' (sepT M (sepT (blkT W.heap.size 68 #[.slice At_ m.table.length ct, .slice As m.sites.length c2, .slice Ap m.pool.length cp, .slice Af m.funcs.length cf]) R)) → Calls Try.prog 53 #[.agg #[.slice At_ m.table.length ct, .slice As m.sites.length c2, .slice Ap m.pool.length cp, .slice Af m.funcs.length cf]] W' (RetB (belowM m) W')) := Lib.hid fun W' h => below_any W' _ m (Kind.one HT.out ⟨_, h⟩)
  have H1 := Lib.hid (And.intro h1 (And.intro h2 (And.intro h3 h4)))
  have HH := Lib.hid hb
  have hmf : ∀ fn first cap (w : World), (Instr.makeFunc fn first cap).run Try.prog w = .ok (.func fn first cap) w := fun _ _ _ _ => rfl
  clear H hb h1 h2 h3 h4
  show Calls Try.prog 36 #[.agg #[.slice At_ m.table.length ct, .slice As m.sites.length c2, .slice Ap m.pool.length cp, .slice Af m.funcs.length cf]] W _
  by_cases g1 : manyM m = true
  · have HE : Hid (encM m = ([], 12)) := Lib.hid (if_pos g1)
    have HM1 := Lib.hid (HM.out _ HH.out)
    rw [g1] at HM1
    rw [HE.out]
    clear HM HB g1
    go_enter Try.func36, Try.ntmps36
    go_wp2_with fail
    refine HM1.out.mono ?_
    rintro e w1 ⟨rfl, hb⟩
    have HF := Lib.hid ((HH.out.calm hb).turn (a' := sepT (blkT W.heap.size 68 #[.slice At_ m.table.length ct, .slice As m.sites.length c2, .slice Ap m.pool.length cp, .slice Af m.funcs.length cf]) (sepT M R)) (by ac_rfl)).drop
    clear hb HM1 HH
    go_wp2_with fail
    go_ret2
    exact ⟨none, 0, rfl, by_nil HF.out⟩
  have gf1 : manyM m = false := by simpa using g1
  have HM1 := Lib.hid (HM.out _ HH.out)
  rw [gf1] at HM1
  by_cases g2 : belowM m = true
  · have HE : Hid (encM m = ([], 3)) := Lib.hid (by unfold encM; rw [if_neg g1, if_pos g2])
    rw [HE.out]
    rw [g2] at HB
    clear HM g1 gf1 g2
    go_enter Try.func36, Try.ntmps36
    go_wp2_with fail
    refine HM1.out.mono ?_
    rintro e w1 ⟨rfl, hb⟩
    have h1 := HH.out.calm hb
    have hbl := (h1.turn (a' := sepT (blkT W.heap.size 68 #[.slice At_ m.table.length ct, .slice As m.sites.length c2, .slice Ap m.pool.length cp, .slice Af m.funcs.length cf]) (sepT M R)) (by ac_rfl)).blk.1
    have d0 := hbl.cell 0
    have d1 := hbl.cell 1
    have d2 := hbl.cell 2
    have d3 := hbl.cell 3
    simp at d0 d1 d2 d3
    have HB1 := Lib.hid (HB.out _ h1)
    have HH1 := Lib.hid h1
    clear hb HM1 HH hbl h1 HB
    go_wp2_with fail
    refine HB1.out.mono ?_
    rintro e w2 ⟨rfl, hb⟩
    have HF := Lib.hid ((HH1.out.calm hb).turn (a' := sepT (blkT W.heap.size 68 #[.slice At_ m.table.length ct, .slice As m.sites.length c2, .slice Ap m.pool.length cp, .slice Af m.funcs.length cf]) (sepT M R)) (by ac_rfl)).drop
    clear hb HB1 HH1 d0 d1 d2 d3
    go_wp2_with fail
    go_ret2
    exact ⟨none, 0, rfl, by_nil HF.out⟩
  have gf2 : belowM m = false := by simpa using g2
  have HE : Hid (encM m = if (mdC m).2 then ([], 4) else if (mdC m).1.2 ≠ 0 then ([], 4) else ((mdC m).1.1, 0)) := Lib.hid (by unfold encM; rw [if_neg g1, if_neg g2])
  obtain ⟨res, hres⟩ : ∃ res, res = encM m := ⟨_, rfl⟩
  rw [← hres]
  have HRes := Lib.hid (hres.trans HE.out)
  rw [gf2] at HB
  clear HM g1 gf1 g2 gf2 HE hres
  go_enter Try.func36, Try.ntmps36
  go_wp2_with fail
  refine HM1.out.mono ?_
  rintro e w1 ⟨rfl, hb⟩
  have h1 := HH.out.calm hb
  have hbl := (h1.turn (a' := sepT (blkT W.heap.size 68 #[.slice At_ m.table.length ct, .slice As m.sites.length c2, .slice Ap m.pool.length cp, .slice Af m.funcs.length cf]) (sepT M R)) (by ac_rfl)).blk.1
  have d0 := hbl.cell 0
  have d1 := hbl.cell 1
  have d2 := hbl.cell 2
  have d3 := hbl.cell 3
  simp at d0 d1 d2 d3
  have HB1 := Lib.hid (HB.out _ h1)
  have HH1 := Lib.hid h1
  clear hb HM1 HH hbl h1 HB
  go_wp2_with fail
  refine HB1.out.mono ?_
  rintro e w2 ⟨rfl, hb⟩
  have HN := Lib.hid (Lies.wnew (HH1.out.calm hb) 1048576 (by decide) (by decide))
  clear hb HB1 HH1 d0 d1 d2 d3
  go_wp2_with fail
  refine HN.out.mono ?_
  rintro e w3 ⟨o, rfl, h⟩
  have h1 := cw_in (p := w3.heap.size) (st := st0) (o := o) ((h.newBlk 90 #[.pointer (some ⟨o, 0, none⟩), .bool false]).turn (a' := sepT (blkT w3.heap.size 90 #[.pointer (some ⟨o, 0, none⟩), .bool false]) (sepT (wrT o 1048576 ([], 0)) (sepT M (sepT (blkT W.heap.size 68 #[.slice At_ m.table.length ct, .slice As m.sites.length c2, .slice Ap m.pool.length cp, .slice Af m.funcs.length cf]) R)))) (by ac_rfl))
  obtain ⟨o1, c0, hc⟩ := cw_num h1
  have HC := Lib.hid (hc 67 (by unfold iz; omega))
  have ho : o1 = o := by
    have h2 := (Blk.new w3 90 #[.pointer (some ⟨o, 0, none⟩), .bool false]).cell 0
    rw [c0] at h2
    simpa using h2
  subst ho
  clear h h1 hc HN c0
  go_wp2_with fail
  refine HC.out.mono ?_
  rintro e w4 ⟨⟨E4, rfl⟩, h⟩
  obtain ⟨o2, c0, hc⟩ := cw_num h
  have HC2 := Lib.hid (hc 1 (by unfold iz; omega))
  clear h hc HC
  go_wp2_with fail
  refine HC2.out.mono ?_
  rintro e w5 ⟨⟨E5, rfl⟩, h⟩
  have d0 := (h.turn (a' := sepT (blkT W.heap.size 68 #[.slice At_ m.table.length ct, .slice As m.sites.length c2, .slice Ap m.pool.length cp, .slice Af m.funcs.length cf]) (sepT (cwT w3.heap.size (numC (numC st0 67) 1)) (sepT M R))) (by ac_rfl)).blk.1.cell 0
  simp at d0
  have HP0 := Lib.hid (putCl_any 55 clC (fun _ _ => rfl) m.table _ H1.out.1 (fun W' st' cs y _ hy h => ccls_any cs y hy h) h)
  clear h HC2 c0
  go_wp2_with fail
  refine HP0.out.mono ?_
  rintro e w6 ⟨rfl, h⟩
  have d1 := (h.turn (a' := sepT (blkT W.heap.size 68 #[.slice At_ m.table.length ct, .slice As m.sites.length c2, .slice Ap m.pool.length cp, .slice Af m.funcs.length cf]) (sepT (cwT w3.heap.size (putC clC (numC (numC st0 67) 1) m.table)) (sepT M R))) (by ac_rfl)).blk.1.cell 1
  simp at d1
  have HP1 := Lib.hid (putSt_any 57 stC (fun _ _ => rfl) m.sites _ H1.out.2.1 (fun W' st' cs y _ hy h => csite_any cs y hy h) h)
  clear h HP0 d0
  go_wp2_with fail
  refine HP1.out.mono ?_
  rintro e w7 ⟨rfl, h⟩
  have d2 := (h.turn (a' := sepT (blkT W.heap.size 68 #[.slice At_ m.table.length ct, .slice As m.sites.length c2, .slice Ap m.pool.length cp, .slice Af m.funcs.length cf]) (sepT (cwT w3.heap.size (putC stC (putC clC (numC (numC st0 67) 1) m.table) m.sites)) (sepT M R))) (by ac_rfl)).blk.1.cell 2
  simp at d2
  have HP2 := Lib.hid (putTx_any 59 wordC (fun _ _ => rfl) m.pool _ H1.out.2.2.1 (fun W' st' cs y _ hy h => cword_any y hy.2 h) h)
  clear h HP1 d1
  go_wp2_with fail
  refine HP2.out.mono ?_
  rintro e w8 ⟨rfl, h⟩
  have d3 := (h.turn (a' := sepT (blkT W.heap.size 68 #[.slice At_ m.table.length ct, .slice As m.sites.length c2, .slice Ap m.pool.length cp, .slice Af m.funcs.length cf]) (sepT (cwT w3.heap.size (putC wordC (putC stC (putC clC (numC (numC st0 67) 1) m.table) m.sites) m.pool)) (sepT M R))) (by ac_rfl)).blk.1.cell 3
  simp at d3
  have HP3 := Lib.hid (putFu_any 61 fuC (fun _ _ => rfl) m.funcs _ H1.out.2.2.2 (fun W' st' cs y _ hy h => cfun_any cs y hy h) h)
  clear h HP2 d2
  go_wp2_with fail
  refine HP3.out.mono ?_
  rintro e w9 ⟨rfl, h⟩
  obtain ⟨o3, c0, hby⟩ := cw_bytes (st := mdC m) h
  obtain ⟨out, hout⟩ : ∃ out, out = (if (mdC m).1.2 = 0 then (mdC m).1.1 else []) := ⟨_, rfl⟩
  rw [← hout] at hby
  have HY := Lib.hid hby
  have HO := Lib.hid hout
  clear h hby HP3 d3 hout
  generalize mdC m = st at *
  go_wp2_with fail
  refine HY.out.mono ?_
  rintro e w10 ⟨A, c, rfl, h⟩
  have c1 := cw_long (h.turn (a' := sepT (cwT w3.heap.size st) (sepT (byT A c out) (sepT M (sepT (blkT W.heap.size 68 #[.slice At_ m.table.length ct, .slice As m.sites.length c2, .slice Ap m.pool.length cp, .slice Af m.funcs.length cf]) R)))) (by ac_rfl))
  have HF := Lib.hid ((((h.turn (a' := sepT (cwT w3.heap.size st) (sepT (blkT W.heap.size 68 #[.slice At_ m.table.length ct, .slice As m.sites.length c2, .slice Ap m.pool.length cp, .slice Af m.funcs.length cf]) (sepT (byT A c out) (sepT M R)))) (by ac_rfl)).drop).drop))
  clear h HY c0
  obtain ⟨⟨bs, er⟩, lg⟩ := st
  by_cases hlg : lg = true
  · subst hlg
    have HR2 : Hid (res = ([], 4)) := Lib.hid HRes.out
    clear HRes HO
    go_wp2_with fail
    go_ret2
    rw [HR2.out]
    exact ⟨none, 0, rfl, by_nil HF.out.drop⟩
  · have hlf : lg = false := by simpa using hlg
    subst hlf
    by_cases ge : er = 0
    · subst ge
      have HR2 : Hid (res = (out, 0)) := Lib.hid (by rw [HRes.out, HO.out]; rfl)
      clear HRes HO hlg
      go_wp2_with fail
      go_ret2
      rw [HR2.out]
      exact ⟨A, c, rfl, HF.out⟩
    · have HR2 : Hid (res = ([], 4)) := Lib.hid (by rw [HRes.out]; simp [ge])
      clear HRes HO hlg
      go_wp2_with fail
      go_ret2
      rw [HR2.out]
      exact ⟨none, 0, rfl, by_nil HF.out.drop⟩
end
end Go.Proofs.Ytcapdmicekialaa
