/- chaperonref22.Decode. Printed by gen_xdec.py. -/
import Derived.Test.YtcapdmicekialaaGreatCoXFunAll
import Derived.Test.YtcapdmicekialaaGreatCoDec
import Derived.Deep.CutBlock
namespace Go.Proofs.YtcapdmicekialaaGreat
open Go.RowKit
set_option linter.unusedVariables false
set_option linter.unusedSimpArgs false
attribute [local go_sem] Oper.semAt_some run_store_func run_store_nilFunc
/-- An append of one told thing to a list that grows. -/
theorem gro_run {α : Type} {K : Kind α} {N : Nat} {w0 W : World} {R : Thing} (T : TK K) {t e : TypeId} {i : TypeInfo} {z : Value} {bytes size : Nat} (ht : Tryz.prog.underlying t = some (.slice e)) (hi : Tryz.prog.info? e = some i) (hz : i.zero = some z) (hs : i.size = size) (hk : K.size = size) (hb : i.bytes = bytes) (hzs : z.cells.size = size) (h0 : 0 < size)
    {A : Option Addr} {k c : Nat} {css : List (List Value)} {l : List α} {cs : List Value} {x : α} (hl : l.length = k) (hc : cs.length = size) (h1 : ∀ u ∈ cs, u.oneCell' = true) (hm : k ≤ 100000) (hbb : bytes ≤ 1000)
    (H : Lies N w0 W (sepT (T.gro e (.slice A k c) css l) (sepT (T.el cs x) R))) :
    ∃ B d w', (Builtin.append_ #[t, t] t #[.slice A k c, .slice (some ⟨W.heap.size, 0, none⟩) 1 1]).run Tryz.prog (W.alloc (.cells cs.toArray e)) = .ok (.slice B (k + 1) d) w' ∧ Lies N w0 w' (sepT (T.gro e (.slice B (k + 1) d) (css ++ [cs]) (l ++ [x])) R) := by
  have hrow := T.gro_row (H.alloc (.cells cs.toArray e))
  rw [hl] at hrow
  have hbm : (k + 1) * bytes ≤ 140737488355328 := Nat.le_trans (Nat.mul_le_mul (by omega : k + 1 ≤ 100001) hbb) (by decide)
  subst hk
  obtain ⟨v', w', hr, ho, hg, _, hat⟩ := run_append_own_at (P := Tryz.prog) (w := W.alloc (.cells cs.toArray e)) 0 t t e i z K.size bytes ht hi hz hs hb hzs h0 (.slice A k c) k _ hrow ⟨W.heap.size, 0, none⟩ 1 1 cs (by omega) (cells_arr W cs.toArray e) h1 (by simp only [maxLen]; omega) hbm (Nat.zero_le _)
  obtain ⟨B, d, rfl, _⟩ := gro_form ho
  refine ⟨B, d, w', hr, ?_⟩
  exact T.gro_app (H.alloc (.cells cs.toArray e)) (by rw [hl]; exact ho) hg hat
theorem st_put (x : St) (h0 : iz x.what) (h1 : sz x.src) (h2 : sz x.dst) {N : Nat} {w0 W : World} {R : Thing} (H : Lies N w0 W R) : Lies N w0 W (sepT (stT.el [.int .i64 x.what, .string x.src, .string x.dst] x) R) :=
  H.withFact (φ := ([.int .i64 x.what, .string x.src, .string x.dst] : List Value) = [.int .i64 x.what, .string x.src, .string x.dst] ∧ iz x.what ∧ sz x.src ∧ sz x.dst) ⟨rfl, h0, h1, h2⟩
def loXd (i : Nat) : Nat := [0, 0, 0, 0, 1, 2, 3, 3].getD i 0
def upXd (i : Nat) : Nat := [2, 2, 0, 1, 2, 3, 3, 4].getD i 0
def loXe (i : Nat) : Nat := [0, 0, 0, 0, 0, 0, 1].getD i 0
def upXe (i : Nat) : Nat := [0, 1, 1, 1, 1, 1, 2].getD i 0
def loXg (i : Nat) : Nat := [0, 0, 0, 1].getD i 0
def upXg (i : Nat) : Nat := [0, 1, 1, 2].getD i 0
section
variable {N : Nat} {w0 W : World} {R M : Thing} {A0 : Option Addr} {c0 : Nat} {bs : List UInt8}
set_option maxRecDepth 100000 in
set_option maxHeartbeats 6400000 in
theorem xdec_any (hs : Src0 N w0 A0 c0 bs) (H : Lies N w0 W R) : Calls Tryz.prog 15 #[.slice A0 bs.length c0] W (DecE N w0 R bs) := by
  have h0 := ((H.newBlk 27 z4).newBlk 40 #[.int .i64 0, .int .i64 0])
  rw [show (W.alloc (.cells z4 27)).heap.size = W.heap.size + 1 by simp] at h0
  have HN := Lib.hid (xnew_rd (A := A0) (c := c0) (bs := bs) h0)
  have HS := Lib.hid hs
  clear H hs h0
  go_enter Tryz.func15, Tryz.ntmps15
  go_wp2_with fail
  refine HN.out.mono ?_
  rintro e w1 ⟨o, rfl, h⟩
  clear HN
  have HLT : Hid (W.heap.size < w1.heap.size) := Lib.hid (h.turn (a' := sepT (blkT W.heap.size 27 z4) (sepT (xdT o A0 c0 bs (0, 0, 0)) (sepT (blkT (W.heap.size + 1) 40 #[.int .i64 0, .int .i64 0]) R))) (by ac_rfl)).blk.1.lt
  have h := h.newBlk 109 #[.pointer (some ⟨o, 0, none⟩), .int .i64 bs.length, .int .i64 0, .int .i64 0]
  have h := (xr_in (X := .ok (0, 0, 0)) (p := w1.heap.size) (s := (0, 0, 0)) (b := (0, 0)) ⟨rfl, rfl, rfl⟩ (h.turn (a' := (sepT (xdT o A0 c0 bs (0, 0, 0)) (sepT (blkT w1.heap.size 109 #[.pointer (some ⟨o, 0, none⟩), .int .i64 bs.length, .int .i64 0, .int .i64 0]) (sepT (blkT (W.heap.size + 1) 40 #[.int .i64 0, .int .i64 0]) (sepT (blkT W.heap.size 27 z4) R))))) (by ac_rfl))).newBlk 27 z4
  rw [show (w1.alloc (.cells #[.pointer (some ⟨o, 0, none⟩), .int .i64 bs.length, .int .i64 0, .int .i64 0] 109)).heap.size = w1.heap.size + 1 by simp] at h
  have HC := Lib.hid (xjust_ref 67 HS.out (h.turn (a' := (sepT (xrT w1.heap.size A0 c0 bs (.ok (0, 0, 0))) (sepT (blkT (w1.heap.size + 1) 27 #[.slice none 0 0, .slice none 0 0, .slice none 0 0, .slice none 0 0]) (sepT (blkT W.heap.size 27 z4) (sepT (blkT (W.heap.size + 1) 40 #[.int .i64 0, .int .i64 0]) R))))) (by ac_rfl)))
  clear h
  go_wp2_with fail
  refine HC.out.mono ?_
  rintro e w2 ⟨X1, rfl, s1, h⟩
  have S1 := Lib.hid s1
  clear HC s1
  have HC := Lib.hid (xjust_ref 1 HS.out (h.turn (a' := (sepT (xrT w1.heap.size A0 c0 bs X1) (sepT (blkT (w1.heap.size + 1) 27 #[.slice none 0 0, .slice none 0 0, .slice none 0 0, .slice none 0 0]) (sepT (blkT W.heap.size 27 z4) (sepT (blkT (W.heap.size + 1) 40 #[.int .i64 0, .int .i64 0]) R))))) (by ac_rfl)))
  clear h
  go_wp2_with fail
  refine HC.out.mono ?_
  rintro e w3 ⟨X2, rfl, s2, h⟩
  have S2 := Lib.hid s2
  clear HC s2
  have HC := Lib.hid (xcount_ref 40 HS.out (h.turn (a' := (sepT (xrT w1.heap.size A0 c0 bs X2) (sepT (blkT (w1.heap.size + 1) 27 #[.slice none 0 0, .slice none 0 0, .slice none 0 0, .slice none 0 0]) (sepT (blkT W.heap.size 27 z4) (sepT (blkT (W.heap.size + 1) 40 #[.int .i64 0, .int .i64 0]) R))))) (by ac_rfl)))
  clear h
  go_wp2_with fail
  refine HC.out.mono ?_
  rintro e w4 ⟨n3, X3, rfl, s3, hn, h⟩
  have S3 := Lib.hid s3
  have HNM := Lib.hid hn
  have HG := Lib.hid (h.turn (a' := (sepT (xrT w1.heap.size A0 c0 bs X3) (sepT (blkT (w1.heap.size + 1) 27 #[.slice none 0 0, .slice none 0 0, .slice none 0 0, .slice none 0 0]) (sepT (blkT W.heap.size 27 z4) (sepT (blkT (W.heap.size + 1) 40 #[.int .i64 0, .int .i64 0]) R))))) (by ac_rfl))
  clear HC s3 h hn
  go_upto_block 0 with fail
  go_cut [6] from 7 (fun _ wx => ∃ (F0 : Option Addr) (k0 f0 : Nat) (css0 : List (List Value)) (l0 : List Cl) (Y0 : XS), Hid (l0.length = k0) ∧ k0 ≤ 40 ∧ Hid (stepX (timesR (clR bs) n3 []) X3 l0 Y0) ∧ Lies N w0 wx (sepT (xrT w1.heap.size A0 c0 bs Y0) (sepT (blkT (w1.heap.size + 1) 27 #[.slice F0 k0 f0, .slice none 0 0, .slice none 0 0, .slice none 0 0]) (sepT (clT.gro 66 (.slice F0 k0 f0) css0 l0) (sepT (blkT W.heap.size 27 z4) (sepT (blkT (W.heap.size + 1) 40 #[.int .i64 0, .int .i64 0]) R))))))
  case first =>
    go_wp2_with fail
    go_loopw [6] (fun ix wr => ∃ (i k : Nat) (A : Option Addr) (c : Nat) (css : List (List Value)) (l : List Cl) (Y : XS), ix = .int .i64 i ∧ Hid (l.length = k) ∧ i + k ≤ n3 ∧ Hid (Prog (clR bs) n3 X3 i l Y) ∧ Lies N w0 wr (sepT (xrT w1.heap.size A0 c0 bs Y) (sepT (blkT (w1.heap.size + 1) 27 #[.slice A k c, .slice none 0 0, .slice none 0 0, .slice none 0 0]) (sepT (clT.gro 66 (.slice A k c) css l) (sepT (blkT W.heap.size 27 z4) (sepT (blkT (W.heap.size + 1) 40 #[.int .i64 0, .int .i64 0]) R)))))) (fun ix _ => (intOf ix).toNat)
    case atStart => exact ⟨n3, 0, none, 0, [], [], X3, rfl, Lib.hid rfl, Nat.le_refl _, Lib.hid (Prog.start _ _ _), ((clT.gro_nil 66 HG.out).turn (a' := (sepT (xrT w1.heap.size A0 c0 bs X3) (sepT (blkT (w1.heap.size + 1) 27 #[.slice none 0 0, .slice none 0 0, .slice none 0 0, .slice none 0 0]) (sepT (clT.gro 66 (.slice none 0 0) [] []) (sepT (blkT W.heap.size 27 z4) (sepT (blkT (W.heap.size + 1) 40 #[.int .i64 0, .int .i64 0]) R)))))) (by ac_rfl))⟩
    case round =>
      clear HG
      obtain ⟨i, k, A, c, css, l, Y, rfl, HL, hik, HP, hh⟩ := hrel
      have HH := Lib.hid hh
      have hnm := HNM.out
      clear hh
      by_cases h0 : (0 : Int) < (i : Int)
      · have HF := Lib.hid (xfine_any HH.out)
        by_cases hf : XS.fine Y = true
        · rw [hf] at HF
          clear HH hf
          go_wp2_with fail
          refine HF.out.mono ?_
          rintro e v1 ⟨rfl, h⟩
          have HH := Lib.hid h
          clear h HF
          have HW := Lib.hid (xcls_ref HS.out HH.out.drew)
          have hb := (HH.out.turn (a' := (sepT (blkT (w1.heap.size + 1) 27 #[.slice A k c, .slice none 0 0, .slice none 0 0, .slice none 0 0]) (sepT (xrT w1.heap.size A0 c0 bs Y) (sepT (clT.gro 66 (.slice A k c) css l) (sepT (blkT W.heap.size 27 z4) (sepT (blkT (W.heap.size + 1) 40 #[.int .i64 0, .int .i64 0]) R)))))) (by ac_rfl)).blk.1.drew
          have d0 := hb.cell 0
          simp at d0
          clear HH hb
          go_wp2_with fail
          refine wp_region_text [3, 4, 5, 7] loXd upXd (by kernel_rfl) (by kernel_rfl) (by kernel_rfl) (by kernel_rfl) (by kernel_rfl) ?_
          repeat (first | (refine wpTx_now (by rfl) (by rfl) (by rfl) (fun K hK => ?_); go_simp; refine hK _ ?_; clear hK K) | (refine wpTx_late [] (by rfl) (by rfl) (by rfl) (fun K hK => ?_); go_simp; refine hK _ _ ?_; clear hK K))
          refine wpTx_eff (by rfl) (fun K hK => ?_)
          go_simp
          refine HW.out.mono ?_
          rintro e v2 ⟨cs, x, Y2, hE, s9, h⟩
          obtain ⟨A2, c2, A3, c3, rfl⟩ := cl_form (h.turn (a' := (sepT (clT.el cs x) (sepT (xrT w1.heap.size A0 c0 bs Y2) (sepT (blkT (w1.heap.size + 1) 27 #[.slice A k c, .slice none 0 0, .slice none 0 0, .slice none 0 0]) (sepT (clT.gro 66 (.slice A k c) css l) (sepT (blkT W.heap.size 27 z4) (sepT (blkT (W.heap.size + 1) 40 #[.int .i64 0, .int .i64 0]) R))))))) (by ac_rfl))
          have hE' : e = .returned (.agg #[.string x.name, .string x.super, .slice A2 x.fields.length c2, .slice A3 x.methods.length c3]) := hE
          subst hE'
          have S9 := Lib.hid s9
          have hb := (h.turn (a' := (sepT (blkT (w1.heap.size + 1) 27 #[.slice A k c, .slice none 0 0, .slice none 0 0, .slice none 0 0]) (sepT (xrT w1.heap.size A0 c0 bs Y2) (sepT (clT.el [.string x.name, .string x.super, .slice A2 x.fields.length c2, .slice A3 x.methods.length c3] x) (sepT (clT.gro 66 (.slice A k c) css l) (sepT (blkT W.heap.size 27 z4) (sepT (blkT (W.heap.size + 1) 40 #[.int .i64 0, .int .i64 0]) R))))))) (by ac_rfl)).blk.1
          have q1 := hb.cell 0
          simp at q1
          have q2 := cell_alloc q1 (.cells #[.string x.name, .string x.super, .slice A2 x.fields.length c2, .slice A3 x.methods.length c3] 66)
          obtain ⟨j0, hj0, hw0, hw1, hw2⟩ := info_parts info_lCl
          obtain ⟨B, d, v3, hrun, h3⟩ := gro_run clT (t := 22) Tryz.underlying22 hj0 hw0 hw1 rfl hw2 rfl (by decide) HL.out rfl (by simp [Value.oneCell']) (by have := HNM.out; omega) (by decide) (h.turn (a' := (sepT (clT.gro 66 (.slice A k c) css l) (sepT (clT.el [.string x.name, .string x.super, .slice A2 x.fields.length c2, .slice A3 x.methods.length c3] x) (sepT (xrT w1.heap.size A0 c0 bs Y2) (sepT (blkT (w1.heap.size + 1) 27 #[.slice A k c, .slice none 0 0, .slice none 0 0, .slice none 0 0]) (sepT (blkT W.heap.size 27 z4) (sepT (blkT (W.heap.size + 1) 40 #[.int .i64 0, .int .i64 0]) R))))))) (by ac_rfl))
          have hb3 := (h3.turn (a' := (sepT (blkT (w1.heap.size + 1) 27 #[.slice A k c, .slice none 0 0, .slice none 0 0, .slice none 0 0]) (sepT (xrT w1.heap.size A0 c0 bs Y2) (sepT (clT.gro 66 (.slice B (k + 1) d) (css ++ [[.string x.name, .string x.super, .slice A2 x.fields.length c2, .slice A3 x.methods.length c3]]) (l ++ [x])) (sepT (blkT W.heap.size 27 z4) (sepT (blkT (W.heap.size + 1) 40 #[.int .i64 0, .int .i64 0]) R)))))) (by ac_rfl))
          have q3 := hb3.blk.1.cell 0
          have f3 := hb3.blk.1.frozen 0
          simp at q3
          have HZ := Lib.hid (hb3.setBlk 0 (.slice B (k + 1) d))
          have HR := Lib.hid hrun
          refine ⟨_, rfl, hK _ _ (by repeat (first | exact lateOK_nil | refine lateOK_skip (by rfl) ?_ | refine lateOK_cons (by go_simp) ?_)) ?_⟩
          clear hK K HW d0 s9 h hb h3 hb3 hrun hE
          repeat (first | (refine wpTx_now (by rfl) (by rfl) (by rfl) (fun K hK => ?_); go_simp; refine hK _ ?_; clear hK K) | (refine wpTx_late [] (by rfl) (by rfl) (by rfl) (fun K hK => ?_); go_simp; refine hK _ _ ?_; clear hK K))
          refine wpTx_eff (by rfl) (fun K hK => ?_)
          go_simp
          refine hK _ _ (by repeat (first | exact lateOK_nil | refine lateOK_skip (by rfl) ?_ | refine lateOK_cons (by go_simp) ?_)) ?_
          clear hK K
          refine wpTx_append (by rfl) (by rfl) (.tmp 34) (.tmp 37) 22 22 rfl rfl rfl rfl HR.out (by repeat (first | exact lateOK_nil | refine lateOK_skip (by rfl) ?_ | refine lateOK_cons (by go_simp) ?_)) ?_
          clear q1 q2
          repeat (first | (refine wpTx_now (by rfl) (by rfl) (by rfl) (fun K hK => ?_); go_simp; refine hK _ ?_; clear hK K) | (refine wpTx_late [] (by rfl) (by rfl) (by rfl) (fun K hK => ?_); go_simp; refine hK _ _ ?_; clear hK K))
          refine wpTx_eff (by rfl) (fun K hK => ?_)
          go_simp
          refine hK _ _ (by repeat (first | exact lateOK_nil | refine lateOK_skip (by rfl) ?_ | refine lateOK_cons (by go_simp) ?_)) ?_
          clear hK K
          refine wpTx_nil ?_
          go_wp2_with fail
          obtain ⟨i', rfl⟩ : ∃ i', i = i' + 1 := ⟨i - 1, by omega⟩
          exact ⟨⟨i', k + 1, B, d, css ++ [[.string x.name, .string x.super, .slice A2 x.fields.length c2, .slice A3 x.methods.length c3]], l ++ [x], Y2, by go_num, Lib.hid (by rw [List.length_append, HL.out]; rfl), by omega, Lib.hid (HP.out.step S9.out), HZ.out.turn (by ac_rfl)⟩, by simp [intOf]⟩
        · have hff : XS.fine Y = false := by simpa using hf
          rw [hff] at HF
          have HSt : Hid (stepX (timesR (clR bs) n3 []) X3 l Y) := Lib.hid (HP.out.done (.inr hff))
          clear hf hff HP HH
          go_wp2_with fail
          refine HF.out.mono ?_
          rintro e v1 ⟨rfl, h⟩
          have HZ := Lib.hid h
          clear h HF
          go_wp2_with fail
          go_meet
          case rel => exact ⟨A, k, c, css, l, Y, HL, by have := HNM.out; omega, HSt, HZ.out⟩
      · skip
        have HSt : Hid (stepX (timesR (clR bs) n3 []) X3 l Y) := Lib.hid (HP.out.done (.inl (by omega)))
        clear HP
        go_wp2_with fail
        go_meet
        case rel => exact ⟨A, k, c, css, l, Y, HL, by have := HNM.out; omega, HSt, HH.out⟩
  case rest =>
    obtain ⟨F0, k0, f0, css0, l0, Y0, HL0, hk0, HT0, h⟩ := hcut
    have HK0 := Lib.hid hk0
    have HH := Lib.hid h
    clear h hk0 HG HNM
    obtain ⟨wy0, hwy⟩ : ∃ x, x = wc := ⟨_, rfl⟩
    rw [← hwy] at HH ⊢
    clear hwy
    have h := HH.out
    clear HH
    have HC := Lib.hid (xcount_ref 5000 HS.out (h.turn (a' := (sepT (xrT w1.heap.size A0 c0 bs Y0) (sepT (blkT (w1.heap.size + 1) 27 #[.slice F0 k0 f0, .slice none 0 0, .slice none 0 0, .slice none 0 0]) (sepT (clT.gro 66 (.slice F0 k0 f0) css0 l0) (sepT (blkT W.heap.size 27 z4) (sepT (blkT (W.heap.size + 1) 40 #[.int .i64 0, .int .i64 0]) R)))))) (by ac_rfl)))
    clear h
    go_wp2_with fail
    refine HC.out.mono ?_
    rintro e w5 ⟨n4, X4, rfl, s4, hn, h⟩
    have S4 := Lib.hid s4
    have HNM := Lib.hid hn
    have HG := Lib.hid (h.turn (a' := (sepT (xrT w1.heap.size A0 c0 bs X4) (sepT (blkT (w1.heap.size + 1) 27 #[.slice F0 k0 f0, .slice none 0 0, .slice none 0 0, .slice none 0 0]) (sepT (clT.gro 66 (.slice F0 k0 f0) css0 l0) (sepT (blkT W.heap.size 27 z4) (sepT (blkT (W.heap.size + 1) 40 #[.int .i64 0, .int .i64 0]) R)))))) (by ac_rfl))
    clear HC s4 h hn
    go_upto_block 2 with fail
    go_cut [7] from 8 (fun _ wx => ∃ (F1 : Option Addr) (k1 f1 : Nat) (css1 : List (List Value)) (l1 : List St) (Y1 : XS), Hid (l1.length = k1) ∧ k1 ≤ 5000 ∧ Hid (stepX (timesR (stR bs) n4 []) X4 l1 Y1) ∧ Lies N w0 wx (sepT (xrT w1.heap.size A0 c0 bs Y1) (sepT (blkT (w1.heap.size + 1) 27 #[.slice F0 k0 f0, .slice F1 k1 f1, .slice none 0 0, .slice none 0 0]) (sepT (stT.gro 70 (.slice F1 k1 f1) css1 l1) (sepT (clT.gro 66 (.slice F0 k0 f0) css0 l0) (sepT (blkT W.heap.size 27 z4) (sepT (blkT (W.heap.size + 1) 40 #[.int .i64 0, .int .i64 0]) R)))))))
    case first =>
      go_wp2_with fail
      go_loopw [7] (fun ix wr => ∃ (i k : Nat) (A : Option Addr) (c : Nat) (css : List (List Value)) (l : List St) (Y : XS), ix = .int .i64 i ∧ Hid (l.length = k) ∧ i + k ≤ n4 ∧ Hid (Prog (stR bs) n4 X4 i l Y) ∧ Lies N w0 wr (sepT (xrT w1.heap.size A0 c0 bs Y) (sepT (blkT (w1.heap.size + 1) 27 #[.slice F0 k0 f0, .slice A k c, .slice none 0 0, .slice none 0 0]) (sepT (stT.gro 70 (.slice A k c) css l) (sepT (clT.gro 66 (.slice F0 k0 f0) css0 l0) (sepT (blkT W.heap.size 27 z4) (sepT (blkT (W.heap.size + 1) 40 #[.int .i64 0, .int .i64 0]) R))))))) (fun ix _ => (intOf ix).toNat)
      case atStart => exact ⟨n4, 0, none, 0, [], [], X4, rfl, Lib.hid rfl, Nat.le_refl _, Lib.hid (Prog.start _ _ _), ((stT.gro_nil 70 HG.out).turn (a' := (sepT (xrT w1.heap.size A0 c0 bs X4) (sepT (blkT (w1.heap.size + 1) 27 #[.slice F0 k0 f0, .slice none 0 0, .slice none 0 0, .slice none 0 0]) (sepT (stT.gro 70 (.slice none 0 0) [] []) (sepT (clT.gro 66 (.slice F0 k0 f0) css0 l0) (sepT (blkT W.heap.size 27 z4) (sepT (blkT (W.heap.size + 1) 40 #[.int .i64 0, .int .i64 0]) R))))))) (by ac_rfl))⟩
      case round =>
        clear HG
        obtain ⟨i, k, A, c, css, l, Y, rfl, HL, hik, HP, hh⟩ := hrel
        have HH := Lib.hid hh
        have hnm := HNM.out
        clear hh
        by_cases h0 : (0 : Int) < (i : Int)
        · have HF := Lib.hid (xfine_any HH.out)
          by_cases hf : XS.fine Y = true
          · rw [hf] at HF
            clear HH hf
            go_wp2_with fail
            refine HF.out.mono ?_
            rintro e v1 ⟨rfl, h⟩
            have HH := Lib.hid h
            clear h HF
            have HW := Lib.hid (xnumber_ref HS.out HH.out)
            clear HH
            go_wp2_with fail
            refine HW.out.mono ?_
            rintro e v2 ⟨a, at_, Y2, rfl, s4, _, ha, h⟩
            have T1 := Lib.hid s4
            clear HW s4
            have HW := Lib.hid (xword_ref HS.out h)
            clear h
            go_wp2_with fail
            refine HW.out.mono ?_
            rintro e v3 ⟨b, Y3, rfl, s5, hz5, h⟩
            have T2 := Lib.hid s5
            have Z2 := Lib.hid hz5
            clear HW s5 hz5
            have HW := Lib.hid (xword_ref HS.out ((h.newBlk 70 #[.int .i64 a, .string b, .string ⟨#[]⟩]).turn (a' := (sepT (xrT w1.heap.size A0 c0 bs Y3) (sepT (blkT v3.heap.size 70 #[.int .i64 a, .string b, .string ⟨#[]⟩]) (sepT (blkT (w1.heap.size + 1) 27 #[.slice F0 k0 f0, .slice A k c, .slice none 0 0, .slice none 0 0]) (sepT (stT.gro 70 (.slice A k c) css l) (sepT (clT.gro 66 (.slice F0 k0 f0) css0 l0) (sepT (blkT W.heap.size 27 z4) (sepT (blkT (W.heap.size + 1) 40 #[.int .i64 0, .int .i64 0]) R)))))))) (by ac_rfl)))
            clear h
            go_wp2_with fail
            refine HW.out.mono ?_
            rintro e v4 ⟨c9, Y4, rfl, s6, hz6, h⟩
            have T3 := Lib.hid s6
            have Z3 := Lib.hid hz6
            clear HW s6 hz6
            obtain ⟨e0, e1, e2, fz, _, g2⟩ := blk3 (h.turn (a' := (sepT (blkT v3.heap.size 70 #[.int .i64 a, .string b, .string ⟨#[]⟩]) (sepT (xrT w1.heap.size A0 c0 bs Y4) (sepT (blkT (w1.heap.size + 1) 27 #[.slice F0 k0 f0, .slice A k c, .slice none 0 0, .slice none 0 0]) (sepT (stT.gro 70 (.slice A k c) css l) (sepT (clT.gro 66 (.slice F0 k0 f0) css0 l0) (sepT (blkT W.heap.size 27 z4) (sepT (blkT (W.heap.size + 1) 40 #[.int .i64 0, .int .i64 0]) R)))))))) (by ac_rfl))
            have fz2 := fz 2
            have h := ((g2 (.string c9)).turn (a' := (sepT (blkT (w1.heap.size + 1) 27 #[.slice F0 k0 f0, .slice A k c, .slice none 0 0, .slice none 0 0]) (sepT (xrT w1.heap.size A0 c0 bs Y4) (sepT (stT.gro 70 (.slice A k c) css l) (sepT (clT.gro 66 (.slice F0 k0 f0) css0 l0) (sepT (blkT v3.heap.size 70 #[.int .i64 a, .string b, .string c9]) (sepT (blkT W.heap.size 27 z4) (sepT (blkT (W.heap.size + 1) 40 #[.int .i64 0, .int .i64 0]) R)))))))) (by ac_rfl))
            have hb := h.blk.1
            have u1 := hb.cell 1
            simp at u1
            have hE := (st_put ⟨(a : Int), b, c9⟩ ⟨by show _ ≤ (a : Int); omega, by show (a : Int) ≤ _; omega⟩ Z2.out Z3.out (h.turn (a' := (sepT (blkT v3.heap.size 70 #[.int .i64 a, .string b, .string c9]) (sepT (blkT (w1.heap.size + 1) 27 #[.slice F0 k0 f0, .slice A k c, .slice none 0 0, .slice none 0 0]) (sepT (xrT w1.heap.size A0 c0 bs Y4) (sepT (stT.gro 70 (.slice A k c) css l) (sepT (clT.gro 66 (.slice F0 k0 f0) css0 l0) (sepT (blkT W.heap.size 27 z4) (sepT (blkT (W.heap.size + 1) 40 #[.int .i64 0, .int .i64 0]) R)))))))) (by ac_rfl)).drop)
            obtain ⟨j0, hj0, hw0, hw1, hw2⟩ := info_parts info_lSt
            obtain ⟨B, d, v5, hrun, h3⟩ := gro_run stT (t := 23) Tryz.underlying23 hj0 hw0 hw1 rfl hw2 rfl (by decide) HL.out rfl (by simp [Value.oneCell']) (by have := HNM.out; omega) (by decide) (hE.turn (a' := (sepT (stT.gro 70 (.slice A k c) css l) (sepT (stT.el [.int .i64 a, .string b, .string c9] ⟨a, b, c9⟩) (sepT (xrT w1.heap.size A0 c0 bs Y4) (sepT (blkT (w1.heap.size + 1) 27 #[.slice F0 k0 f0, .slice A k c, .slice none 0 0, .slice none 0 0]) (sepT (clT.gro 66 (.slice F0 k0 f0) css0 l0) (sepT (blkT W.heap.size 27 z4) (sepT (blkT (W.heap.size + 1) 40 #[.int .i64 0, .int .i64 0]) R)))))))) (by ac_rfl))
            rw [show (v4.setCell ⟨v3.heap.size, 2, none⟩ (.string c9)).heap.size = v4.heap.size by simp] at hrun
            have hb3 := (h3.turn (a' := (sepT (blkT (w1.heap.size + 1) 27 #[.slice F0 k0 f0, .slice A k c, .slice none 0 0, .slice none 0 0]) (sepT (xrT w1.heap.size A0 c0 bs Y4) (sepT (stT.gro 70 (.slice B (k + 1) d) (css ++ [[.int .i64 a, .string b, .string c9]]) (l ++ [⟨a, b, c9⟩])) (sepT (clT.gro 66 (.slice F0 k0 f0) css0 l0) (sepT (blkT W.heap.size 27 z4) (sepT (blkT (W.heap.size + 1) 40 #[.int .i64 0, .int .i64 0]) R))))))) (by ac_rfl))
            have q3 := hb3.blk.1.cell 1
            have f3 := hb3.blk.1.frozen 1
            simp at q3
            have HZ := Lib.hid (hb3.setBlk 1 (.slice B (k + 1) d))
            have HR := Lib.hid hrun
            clear h hb hE hrun h3 hb3 g2 fz
            go_wp2_with (at_builtin; refine wpList_append_run rfl (.tmp 63) (.tmp 65) 23 23 rfl rfl rfl rfl HR.out ?_)
            obtain ⟨i', rfl⟩ : ∃ i', i = i' + 1 := ⟨i - 1, by omega⟩
            have hSX : stepX (stR bs) Y ⟨a, b, c9⟩ Y4 := stepX_bind T1.out (stepX_bind T2.out (stepX_bind T3.out (stepX_pure _ _)))
            exact ⟨⟨i', k + 1, B, d, css ++ [[.int .i64 a, .string b, .string c9]], l ++ [⟨a, b, c9⟩], Y4, by go_num, Lib.hid (by rw [List.length_append, HL.out]; rfl), by omega, Lib.hid (HP.out.step hSX), HZ.out.turn (by ac_rfl)⟩, by simp [intOf]⟩
          · have hff : XS.fine Y = false := by simpa using hf
            rw [hff] at HF
            have HSt : Hid (stepX (timesR (stR bs) n4 []) X4 l Y) := Lib.hid (HP.out.done (.inr hff))
            clear hf hff HP HH
            go_wp2_with fail
            refine HF.out.mono ?_
            rintro e v1 ⟨rfl, h⟩
            have HZ := Lib.hid h
            clear h HF
            go_wp2_with fail
            go_meet
            case rel => exact ⟨A, k, c, css, l, Y, HL, by have := HNM.out; omega, HSt, HZ.out⟩
        · skip
          have HSt : Hid (stepX (timesR (stR bs) n4 []) X4 l Y) := Lib.hid (HP.out.done (.inl (by omega)))
          clear HP
          go_wp2_with fail
          go_meet
          case rel => exact ⟨A, k, c, css, l, Y, HL, by have := HNM.out; omega, HSt, HH.out⟩
    case rest =>
      obtain ⟨F1, k1, f1, css1, l1, Y1, HL1, hk1, HT1, h⟩ := hcut
      have HK1 := Lib.hid hk1
      have HH := Lib.hid h
      clear h hk1 HG HNM
      obtain ⟨wy1, hwy⟩ : ∃ x, x = wc := ⟨_, rfl⟩
      rw [← hwy] at HH ⊢
      clear hwy
      have HV := Lib.hid (xwl_ref 2000 (by decide) HS.out (HH.out.turn (a' := (sepT (xrT w1.heap.size A0 c0 bs Y1) (sepT (blkT (w1.heap.size + 1) 27 #[.slice F0 k0 f0, .slice F1 k1 f1, .slice none 0 0, .slice none 0 0]) (sepT (stT.gro 70 (.slice F1 k1 f1) css1 l1) (sepT (clT.gro 66 (.slice F0 k0 f0) css0 l0) (sepT (blkT W.heap.size 27 z4) (sepT (blkT (W.heap.size + 1) 40 #[.int .i64 0, .int .i64 0]) R))))))) (by ac_rfl)))
      clear HH
      go_wp2_with fail
      refine HV.out.mono ?_
      rintro e w10 ⟨A5, c5, l5, X5, rfl, s5, h⟩
      have S5 := Lib.hid s5
      have HL5 : Hid (l5.length = l5.length) := Lib.hid rfl
      clear HV s5
      obtain ⟨k5, hk5⟩ : ∃ n, n = l5.length := ⟨_, rfl⟩
      have HK5 := Lib.hid hk5
      obtain ⟨d0, d1, d2, d3, fz, _, g2, _⟩ := blk4 (h.turn (a' := (sepT (blkT (w1.heap.size + 1) 27 #[.slice F0 k0 f0, .slice F1 k1 f1, .slice none 0 0, .slice none 0 0]) (sepT (xrT w1.heap.size A0 c0 bs X5) (sepT (txT.slT 9 (.slice A5 l5.length c5) l5) (sepT (stT.gro 70 (.slice F1 k1 f1) css1 l1) (sepT (clT.gro 66 (.slice F0 k0 f0) css0 l0) (sepT (blkT W.heap.size 27 z4) (sepT (blkT (W.heap.size + 1) 40 #[.int .i64 0, .int .i64 0]) R)))))))) (by ac_rfl))
      have fz2 := fz 2
      have h := g2 (.slice A5 l5.length c5)
      rw [← hk5] at h ⊢
      have HH := Lib.hid (h.turn (a' := (sepT (xrT w1.heap.size A0 c0 bs X5) (sepT (blkT (w1.heap.size + 1) 27 #[.slice F0 k0 f0, .slice F1 k1 f1, .slice A5 k5 c5, .slice none 0 0]) (sepT (txT.slT 9 (.slice A5 k5 c5) l5) (sepT (stT.gro 70 (.slice F1 k1 f1) css1 l1) (sepT (clT.gro 66 (.slice F0 k0 f0) css0 l0) (sepT (blkT W.heap.size 27 z4) (sepT (blkT (W.heap.size + 1) 40 #[.int .i64 0, .int .i64 0]) R)))))))) (by ac_rfl))
      clear h g2 fz hk5 HL5
      go_wp2_with fail
      have h := HH.out
      clear HH d0 d1 d2 d3 fz2
      have HC := Lib.hid (xcount_ref 1000 HS.out (h.turn (a' := (sepT (xrT w1.heap.size A0 c0 bs X5) (sepT (blkT (w1.heap.size + 1) 27 #[.slice F0 k0 f0, .slice F1 k1 f1, .slice A5 k5 c5, .slice none 0 0]) (sepT (txT.slT 9 (.slice A5 k5 c5) l5) (sepT (stT.gro 70 (.slice F1 k1 f1) css1 l1) (sepT (clT.gro 66 (.slice F0 k0 f0) css0 l0) (sepT (blkT W.heap.size 27 z4) (sepT (blkT (W.heap.size + 1) 40 #[.int .i64 0, .int .i64 0]) R)))))))) (by ac_rfl)))
      clear h
      go_wp2_with fail
      refine HC.out.mono ?_
      rintro e w11 ⟨n6, X6, rfl, s6, hn, h⟩
      have S6 := Lib.hid s6
      have HNM := Lib.hid hn
      have HG := Lib.hid (h.turn (a' := (sepT (xrT w1.heap.size A0 c0 bs X6) (sepT (blkT (w1.heap.size + 1) 27 #[.slice F0 k0 f0, .slice F1 k1 f1, .slice A5 k5 c5, .slice none 0 0]) (sepT (txT.slT 9 (.slice A5 k5 c5) l5) (sepT (stT.gro 70 (.slice F1 k1 f1) css1 l1) (sepT (clT.gro 66 (.slice F0 k0 f0) css0 l0) (sepT (blkT W.heap.size 27 z4) (sepT (blkT (W.heap.size + 1) 40 #[.int .i64 0, .int .i64 0]) R)))))))) (by ac_rfl))
      clear HC s6 h hn
      go_upto_block 4 with fail
      go_cut [11] from 12 (fun _ wx => ∃ (F3 : Option Addr) (k3 f3 : Nat) (css3 : List (List Value)) (l3 : List Fu) (Y3 : XS), Hid (l3.length = k3) ∧ k3 ≤ 1000 ∧ Hid (stepX (timesR (fuR bs) n6 []) X6 l3 Y3) ∧ Lies N w0 wx (sepT (xrT w1.heap.size A0 c0 bs Y3) (sepT (blkT (w1.heap.size + 1) 27 #[.slice F0 k0 f0, .slice F1 k1 f1, .slice A5 k5 c5, .slice F3 k3 f3]) (sepT (fuT.gro 48 (.slice F3 k3 f3) css3 l3) (sepT (txT.slT 9 (.slice A5 k5 c5) l5) (sepT (stT.gro 70 (.slice F1 k1 f1) css1 l1) (sepT (clT.gro 66 (.slice F0 k0 f0) css0 l0) (sepT (blkT W.heap.size 27 z4) (sepT (blkT (W.heap.size + 1) 40 #[.int .i64 0, .int .i64 0]) R)))))))))
      case first =>
        go_wp2_with fail
        go_loopw [11] (fun ix wr => ∃ (i k : Nat) (A : Option Addr) (c : Nat) (css : List (List Value)) (l : List Fu) (Y : XS), ix = .int .i64 i ∧ Hid (l.length = k) ∧ i + k ≤ n6 ∧ Hid (Prog (fuR bs) n6 X6 i l Y) ∧ Lies N w0 wr (sepT (xrT w1.heap.size A0 c0 bs Y) (sepT (blkT (w1.heap.size + 1) 27 #[.slice F0 k0 f0, .slice F1 k1 f1, .slice A5 k5 c5, .slice A k c]) (sepT (fuT.gro 48 (.slice A k c) css l) (sepT (txT.slT 9 (.slice A5 k5 c5) l5) (sepT (stT.gro 70 (.slice F1 k1 f1) css1 l1) (sepT (clT.gro 66 (.slice F0 k0 f0) css0 l0) (sepT (blkT W.heap.size 27 z4) (sepT (blkT (W.heap.size + 1) 40 #[.int .i64 0, .int .i64 0]) R))))))))) (fun ix _ => (intOf ix).toNat)
        case atStart => exact ⟨n6, 0, none, 0, [], [], X6, rfl, Lib.hid rfl, Nat.le_refl _, Lib.hid (Prog.start _ _ _), ((fuT.gro_nil 48 HG.out).turn (a' := (sepT (xrT w1.heap.size A0 c0 bs X6) (sepT (blkT (w1.heap.size + 1) 27 #[.slice F0 k0 f0, .slice F1 k1 f1, .slice A5 k5 c5, .slice none 0 0]) (sepT (fuT.gro 48 (.slice none 0 0) [] []) (sepT (txT.slT 9 (.slice A5 k5 c5) l5) (sepT (stT.gro 70 (.slice F1 k1 f1) css1 l1) (sepT (clT.gro 66 (.slice F0 k0 f0) css0 l0) (sepT (blkT W.heap.size 27 z4) (sepT (blkT (W.heap.size + 1) 40 #[.int .i64 0, .int .i64 0]) R))))))))) (by ac_rfl))⟩
        case round =>
          clear HG
          obtain ⟨i, k, A, c, css, l, Y, rfl, HL, hik, HP, hh⟩ := hrel
          have HH := Lib.hid hh
          have hnm := HNM.out
          clear hh
          by_cases h0 : (0 : Int) < (i : Int)
          · have HF := Lib.hid (xfine_any HH.out)
            by_cases hf : XS.fine Y = true
            · rw [hf] at HF
              clear HH hf
              go_wp2_with fail
              refine HF.out.mono ?_
              rintro e v1 ⟨rfl, h⟩
              have HH := Lib.hid h
              clear h HF
              have HW := Lib.hid (xfun_ref HS.out HH.out.drew)
              have hb := (HH.out.turn (a' := (sepT (blkT (w1.heap.size + 1) 27 #[.slice F0 k0 f0, .slice F1 k1 f1, .slice A5 k5 c5, .slice A k c]) (sepT (xrT w1.heap.size A0 c0 bs Y) (sepT (fuT.gro 48 (.slice A k c) css l) (sepT (txT.slT 9 (.slice A5 k5 c5) l5) (sepT (stT.gro 70 (.slice F1 k1 f1) css1 l1) (sepT (clT.gro 66 (.slice F0 k0 f0) css0 l0) (sepT (blkT W.heap.size 27 z4) (sepT (blkT (W.heap.size + 1) 40 #[.int .i64 0, .int .i64 0]) R))))))))) (by ac_rfl)).blk.1.drew
              have d0 := hb.cell 3
              simp at d0
              clear HH hb
              go_wp2_with fail
              refine wp_region_text [3, 4, 5, 7] loXd upXd (by kernel_rfl) (by kernel_rfl) (by kernel_rfl) (by kernel_rfl) (by kernel_rfl) ?_
              repeat (first | (refine wpTx_now (by rfl) (by rfl) (by rfl) (fun K hK => ?_); go_simp; refine hK _ ?_; clear hK K) | (refine wpTx_late [] (by rfl) (by rfl) (by rfl) (fun K hK => ?_); go_simp; refine hK _ _ ?_; clear hK K))
              refine wpTx_eff (by rfl) (fun K hK => ?_)
              go_simp
              refine HW.out.mono ?_
              rintro e v2 ⟨cs, x, Y2, hE, s9, h⟩
              obtain ⟨A2, c2, A3, c3, rfl⟩ := fu_form (h.turn (a' := (sepT (fuT.el cs x) (sepT (xrT w1.heap.size A0 c0 bs Y2) (sepT (blkT (w1.heap.size + 1) 27 #[.slice F0 k0 f0, .slice F1 k1 f1, .slice A5 k5 c5, .slice A k c]) (sepT (fuT.gro 48 (.slice A k c) css l) (sepT (txT.slT 9 (.slice A5 k5 c5) l5) (sepT (stT.gro 70 (.slice F1 k1 f1) css1 l1) (sepT (clT.gro 66 (.slice F0 k0 f0) css0 l0) (sepT (blkT W.heap.size 27 z4) (sepT (blkT (W.heap.size + 1) 40 #[.int .i64 0, .int .i64 0]) R)))))))))) (by ac_rfl))
              have hE' : e = .returned (.agg #[.string x.cls, .string x.name, .slice A2 x.locals.length c2, .slice A3 x.code.length c3]) := hE
              subst hE'
              have S9 := Lib.hid s9
              have hb := (h.turn (a' := (sepT (blkT (w1.heap.size + 1) 27 #[.slice F0 k0 f0, .slice F1 k1 f1, .slice A5 k5 c5, .slice A k c]) (sepT (xrT w1.heap.size A0 c0 bs Y2) (sepT (fuT.el [.string x.cls, .string x.name, .slice A2 x.locals.length c2, .slice A3 x.code.length c3] x) (sepT (fuT.gro 48 (.slice A k c) css l) (sepT (txT.slT 9 (.slice A5 k5 c5) l5) (sepT (stT.gro 70 (.slice F1 k1 f1) css1 l1) (sepT (clT.gro 66 (.slice F0 k0 f0) css0 l0) (sepT (blkT W.heap.size 27 z4) (sepT (blkT (W.heap.size + 1) 40 #[.int .i64 0, .int .i64 0]) R)))))))))) (by ac_rfl)).blk.1
              have q1 := hb.cell 3
              simp at q1
              have q2 := cell_alloc q1 (.cells #[.string x.cls, .string x.name, .slice A2 x.locals.length c2, .slice A3 x.code.length c3] 48)
              obtain ⟨j0, hj0, hw0, hw1, hw2⟩ := info_parts info_lFu
              obtain ⟨B, d, v3, hrun, h3⟩ := gro_run fuT (t := 25) Tryz.underlying25 hj0 hw0 hw1 rfl hw2 rfl (by decide) HL.out rfl (by simp [Value.oneCell']) (by have := HNM.out; omega) (by decide) (h.turn (a' := (sepT (fuT.gro 48 (.slice A k c) css l) (sepT (fuT.el [.string x.cls, .string x.name, .slice A2 x.locals.length c2, .slice A3 x.code.length c3] x) (sepT (xrT w1.heap.size A0 c0 bs Y2) (sepT (blkT (w1.heap.size + 1) 27 #[.slice F0 k0 f0, .slice F1 k1 f1, .slice A5 k5 c5, .slice A k c]) (sepT (txT.slT 9 (.slice A5 k5 c5) l5) (sepT (stT.gro 70 (.slice F1 k1 f1) css1 l1) (sepT (clT.gro 66 (.slice F0 k0 f0) css0 l0) (sepT (blkT W.heap.size 27 z4) (sepT (blkT (W.heap.size + 1) 40 #[.int .i64 0, .int .i64 0]) R)))))))))) (by ac_rfl))
              have hb3 := (h3.turn (a' := (sepT (blkT (w1.heap.size + 1) 27 #[.slice F0 k0 f0, .slice F1 k1 f1, .slice A5 k5 c5, .slice A k c]) (sepT (xrT w1.heap.size A0 c0 bs Y2) (sepT (fuT.gro 48 (.slice B (k + 1) d) (css ++ [[.string x.cls, .string x.name, .slice A2 x.locals.length c2, .slice A3 x.code.length c3]]) (l ++ [x])) (sepT (txT.slT 9 (.slice A5 k5 c5) l5) (sepT (stT.gro 70 (.slice F1 k1 f1) css1 l1) (sepT (clT.gro 66 (.slice F0 k0 f0) css0 l0) (sepT (blkT W.heap.size 27 z4) (sepT (blkT (W.heap.size + 1) 40 #[.int .i64 0, .int .i64 0]) R))))))))) (by ac_rfl))
              have q3 := hb3.blk.1.cell 3
              have f3 := hb3.blk.1.frozen 3
              simp at q3
              have HZ := Lib.hid (hb3.setBlk 3 (.slice B (k + 1) d))
              have HR := Lib.hid hrun
              refine ⟨_, rfl, hK _ _ (by repeat (first | exact lateOK_nil | refine lateOK_skip (by rfl) ?_ | refine lateOK_cons (by go_simp) ?_)) ?_⟩
              clear hK K HW d0 s9 h hb h3 hb3 hrun hE
              repeat (first | (refine wpTx_now (by rfl) (by rfl) (by rfl) (fun K hK => ?_); go_simp; refine hK _ ?_; clear hK K) | (refine wpTx_late [] (by rfl) (by rfl) (by rfl) (fun K hK => ?_); go_simp; refine hK _ _ ?_; clear hK K))
              refine wpTx_eff (by rfl) (fun K hK => ?_)
              go_simp
              refine hK _ _ (by repeat (first | exact lateOK_nil | refine lateOK_skip (by rfl) ?_ | refine lateOK_cons (by go_simp) ?_)) ?_
              clear hK K
              refine wpTx_append (by rfl) (by rfl) (.tmp 82) (.tmp 85) 25 25 rfl rfl rfl rfl HR.out (by repeat (first | exact lateOK_nil | refine lateOK_skip (by rfl) ?_ | refine lateOK_cons (by go_simp) ?_)) ?_
              clear q1 q2
              repeat (first | (refine wpTx_now (by rfl) (by rfl) (by rfl) (fun K hK => ?_); go_simp; refine hK _ ?_; clear hK K) | (refine wpTx_late [] (by rfl) (by rfl) (by rfl) (fun K hK => ?_); go_simp; refine hK _ _ ?_; clear hK K))
              refine wpTx_eff (by rfl) (fun K hK => ?_)
              go_simp
              refine hK _ _ (by repeat (first | exact lateOK_nil | refine lateOK_skip (by rfl) ?_ | refine lateOK_cons (by go_simp) ?_)) ?_
              clear hK K
              refine wpTx_nil ?_
              go_wp2_with fail
              obtain ⟨i', rfl⟩ : ∃ i', i = i' + 1 := ⟨i - 1, by omega⟩
              exact ⟨⟨i', k + 1, B, d, css ++ [[.string x.cls, .string x.name, .slice A2 x.locals.length c2, .slice A3 x.code.length c3]], l ++ [x], Y2, by go_num, Lib.hid (by rw [List.length_append, HL.out]; rfl), by omega, Lib.hid (HP.out.step S9.out), HZ.out.turn (by ac_rfl)⟩, by simp [intOf]⟩
            · have hff : XS.fine Y = false := by simpa using hf
              rw [hff] at HF
              have HSt : Hid (stepX (timesR (fuR bs) n6 []) X6 l Y) := Lib.hid (HP.out.done (.inr hff))
              clear hf hff HP HH
              go_wp2_with fail
              refine HF.out.mono ?_
              rintro e v1 ⟨rfl, h⟩
              have HZ := Lib.hid h
              clear h HF
              go_wp2_with fail
              go_meet
              case rel => exact ⟨A, k, c, css, l, Y, HL, by have := HNM.out; omega, HSt, HZ.out⟩
          · skip
            have HSt : Hid (stepX (timesR (fuR bs) n6 []) X6 l Y) := Lib.hid (HP.out.done (.inl (by omega)))
            clear HP
            go_wp2_with fail
            go_meet
            case rel => exact ⟨A, k, c, css, l, Y, HL, by have := HNM.out; omega, HSt, HH.out⟩
      case rest =>
        obtain ⟨F3, k3, f3, css3, l3, Y3, HL3, hk3, HT3, h⟩ := hcut
        have HK3 := Lib.hid hk3
        have HH := Lib.hid h
        clear h hk3 HG HNM
        obtain ⟨wy3, hwy⟩ : ∃ x, x = wc := ⟨_, rfl⟩
        rw [← hwy] at HH ⊢
        clear hwy
        have HM : Hid (stepX (mdR bs) (.ok (0, 0, 0)) ⟨l0, l1, l5, l3⟩ Y3) := by
          unfold mdR
          rw [listR_eq bs 40, listR_eq bs 5000, listR_eq bs 1000]
          exact Lib.hid (stepX_bind S1.out (stepX_bind S2.out (stepX_bind (stepX_bind S3.out HT0.out) (stepX_bind (stepX_bind S4.out HT1.out) (stepX_bind S5.out (stepX_bind (stepX_bind S6.out HT3.out) (stepX_pure _ _)))))))
        clear S1 S2 S3 HT0 S4 HT1 S5 S6 HT3
        obtain ⟨q, s, b, hS, h⟩ := xr_out (HH.out.turn (a' := (sepT (xrT w1.heap.size A0 c0 bs Y3) (sepT (blkT (w1.heap.size + 1) 27 #[.slice F0 k0 f0, .slice F1 k1 f1, .slice A5 k5 c5, .slice F3 k3 f3]) (sepT (fuT.gro 48 (.slice F3 k3 f3) css3 l3) (sepT (txT.slT 9 (.slice A5 k5 c5) l5) (sepT (stT.gro 70 (.slice F1 k1 f1) css1 l1) (sepT (clT.gro 66 (.slice F0 k0 f0) css0 l0) (sepT (blkT W.heap.size 27 z4) (sepT (blkT (W.heap.size + 1) 40 #[.int .i64 0, .int .i64 0]) R))))))))) (by ac_rfl))
        have HXS := Lib.hid hS
        obtain ⟨r0, r2, r3, e1, e2, _⟩ := xr_cells h
        clear HH hS
        by_cases hb1 : b.1 = 0
        · skip
          have hb1' : (b.1 != 0) = false := by simpa using hb1
          have HC := Lib.hid (xd_end HS.out (h.turn (a' := (sepT (xdT q A0 c0 bs s) (sepT (blkT w1.heap.size 109 #[.pointer (some ⟨q, 0, none⟩), .int .i64 bs.length, .int .i64 b.1, .int .i64 b.2]) (sepT (blkT (w1.heap.size + 1) 27 #[.slice F0 k0 f0, .slice F1 k1 f1, .slice A5 k5 c5, .slice F3 k3 f3]) (sepT (fuT.gro 48 (.slice F3 k3 f3) css3 l3) (sepT (txT.slT 9 (.slice A5 k5 c5) l5) (sepT (stT.gro 70 (.slice F1 k1 f1) css1 l1) (sepT (clT.gro 66 (.slice F0 k0 f0) css0 l0) (sepT (blkT W.heap.size 27 z4) (sepT (blkT (W.heap.size + 1) 40 #[.int .i64 0, .int .i64 0]) R)))))))))) (by ac_rfl)))
          clear h
          go_wp2_with fail
          refine HC.out.mono ?_
          rintro e y1 ⟨rfl, h⟩
          clear HC r0 r2 r3 e1 e2
          have hx : Y3 = .ok s ∧ s.2 = (0, 0) ∨ (Y3 = .error s.2 ∧ s.2.1 ≠ 0) := by
            have hS := HXS.out
            cases Y3 with
            | ok s' => obtain ⟨rfl, h1, _⟩ := hS; exact .inl ⟨rfl, h1⟩
            | error f =>
              rcases hS with ⟨h1, _, _⟩ | ⟨_, h1, h2⟩
              · exact absurd hb1 h1
              · exact .inr ⟨by rw [h2], h2 ▸ h1⟩
          have hD : decM bs = if (xEnd bs s).1 = 0 then (⟨l0, l1, l5, l3⟩, (0, 0)) else (noMd, xEnd bs s) := by
            have hm := HM.out
            rcases hx with ⟨rfl, h1⟩ | ⟨rfl, h1⟩
            · have hm' : mdR bs (0, 0, 0) = .ok (⟨l0, l1, l5, l3⟩, s) := by
                unfold stepX at hm; simp only at hm; revert hm; cases mdR bs (0, 0, 0) with
                | error f => intro hm; cases hm
                | ok r => obtain ⟨a, r⟩ := r; rintro ⟨rfl, h2⟩; cases h2; rfl
              unfold decM
              rw [hm']
              show (if rEnd bs s = (0, 0) then _ else _) = _
              rw [← xEnd_eq bs s (fun _ => by rw [h1])]
              unfold xEnd
              rw [h1]
              by_cases hlt : s.1 < bs.length
              · simp [hlt]
              · simp [hlt]
            · have hm' : mdR bs (0, 0, 0) = .error s.2 := by
                unfold stepX at hm; simp only at hm; revert hm; cases mdR bs (0, 0, 0) with
                | error f => intro hm; cases hm; rfl
                | ok r => obtain ⟨a, r⟩ := r; rintro ⟨rfl, h2⟩; cases h2
              rw [dec_err hm', show xEnd bs s = s.2 from if_neg (fun hh => h1 hh.1), if_neg h1]
          have HD := Lib.hid hD
          clear hx hD HM HXS
          have hlt := (h.turn (a' := (sepT (blkT W.heap.size 27 z4) (sepT (xdT q A0 c0 bs s) (sepT (blkT w1.heap.size 109 #[.pointer (some ⟨q, 0, none⟩), .int .i64 bs.length, .int .i64 b.1, .int .i64 b.2]) (sepT (blkT (w1.heap.size + 1) 27 #[.slice F0 k0 f0, .slice F1 k1 f1, .slice A5 k5 c5, .slice F3 k3 f3]) (sepT (fuT.gro 48 (.slice F3 k3 f3) css3 l3) (sepT (txT.slT 9 (.slice A5 k5 c5) l5) (sepT (stT.gro 70 (.slice F1 k1 f1) css1 l1) (sepT (clT.gro 66 (.slice F0 k0 f0) css0 l0) (sepT (blkT (W.heap.size + 1) 40 #[.int .i64 0, .int .i64 0]) R)))))))))) (by ac_rfl)).blk.1.lt
          have hne1 : ¬ y1.heap.size = W.heap.size := by omega
          have hne2 : ¬ W.heap.size = y1.heap.size := by omega
          clear hlt
          have h := (h.newBlk 40 #[.int .i64 (xEnd bs s).1, .int .i64 (xEnd bs s).2])
          have hb := (h.turn (a' := (sepT (blkT y1.heap.size 40 #[.int .i64 (xEnd bs s).1, .int .i64 (xEnd bs s).2]) (sepT (xdT q A0 c0 bs s) (sepT (blkT w1.heap.size 109 #[.pointer (some ⟨q, 0, none⟩), .int .i64 bs.length, .int .i64 b.1, .int .i64 b.2]) (sepT (blkT (w1.heap.size + 1) 27 #[.slice F0 k0 f0, .slice F1 k1 f1, .slice A5 k5 c5, .slice F3 k3 f3]) (sepT (fuT.gro 48 (.slice F3 k3 f3) css3 l3) (sepT (txT.slT 9 (.slice A5 k5 c5) l5) (sepT (stT.gro 70 (.slice F1 k1 f1) css1 l1) (sepT (clT.gro 66 (.slice F0 k0 f0) css0 l0) (sepT (blkT W.heap.size 27 z4) (sepT (blkT (W.heap.size + 1) 40 #[.int .i64 0, .int .i64 0]) R))))))))))) (by ac_rfl)).blk.1
          have fa0 := hb.cell 0
          have fa1 := hb.cell 1
          simp at fa0 fa1
          clear hb
          have hb := (h.turn (a' := (sepT (blkT (w1.heap.size + 1) 27 #[.slice F0 k0 f0, .slice F1 k1 f1, .slice A5 k5 c5, .slice F3 k3 f3]) (sepT (blkT y1.heap.size 40 #[.int .i64 (xEnd bs s).1, .int .i64 (xEnd bs s).2]) (sepT (xdT q A0 c0 bs s) (sepT (blkT w1.heap.size 109 #[.pointer (some ⟨q, 0, none⟩), .int .i64 bs.length, .int .i64 b.1, .int .i64 b.2]) (sepT (fuT.gro 48 (.slice F3 k3 f3) css3 l3) (sepT (txT.slT 9 (.slice A5 k5 c5) l5) (sepT (stT.gro 70 (.slice F1 k1 f1) css1 l1) (sepT (clT.gro 66 (.slice F0 k0 f0) css0 l0) (sepT (blkT W.heap.size 27 z4) (sepT (blkT (W.heap.size + 1) 40 #[.int .i64 0, .int .i64 0]) R))))))))))) (by ac_rfl)).blk.1
          have md0 := hb.cell 0
          have md1 := hb.cell 1
          have md2 := hb.cell 2
          have md3 := hb.cell 3
          simp at md0 md1 md2 md3
          clear hb
          have hb := (h.turn (a' := (sepT (blkT W.heap.size 27 #[.slice none 0 0, .slice none 0 0, .slice none 0 0, .slice none 0 0]) (sepT (blkT y1.heap.size 40 #[.int .i64 (xEnd bs s).1, .int .i64 (xEnd bs s).2]) (sepT (xdT q A0 c0 bs s) (sepT (blkT w1.heap.size 109 #[.pointer (some ⟨q, 0, none⟩), .int .i64 bs.length, .int .i64 b.1, .int .i64 b.2]) (sepT (blkT (w1.heap.size + 1) 27 #[.slice F0 k0 f0, .slice F1 k1 f1, .slice A5 k5 c5, .slice F3 k3 f3]) (sepT (fuT.gro 48 (.slice F3 k3 f3) css3 l3) (sepT (txT.slT 9 (.slice A5 k5 c5) l5) (sepT (stT.gro 70 (.slice F1 k1 f1) css1 l1) (sepT (clT.gro 66 (.slice F0 k0 f0) css0 l0) (sepT (blkT (W.heap.size + 1) 40 #[.int .i64 0, .int .i64 0]) R))))))))))) (by ac_rfl)).blk.1
          have ra0 := hb.cell 0
          have raf0 := hb.frozen 0
          have ra1 := hb.cell 1
          have raf1 := hb.frozen 1
          have ra2 := hb.cell 2
          have raf2 := hb.frozen 2
          have ra3 := hb.cell 3
          have raf3 := hb.frozen 3
          simp at ra0 ra1 ra2 ra3
          clear hb
          have hb := (h.turn (a' := (sepT (blkT (W.heap.size + 1) 40 #[.int .i64 0, .int .i64 0]) (sepT (blkT y1.heap.size 40 #[.int .i64 (xEnd bs s).1, .int .i64 (xEnd bs s).2]) (sepT (xdT q A0 c0 bs s) (sepT (blkT w1.heap.size 109 #[.pointer (some ⟨q, 0, none⟩), .int .i64 bs.length, .int .i64 b.1, .int .i64 b.2]) (sepT (blkT (w1.heap.size + 1) 27 #[.slice F0 k0 f0, .slice F1 k1 f1, .slice A5 k5 c5, .slice F3 k3 f3]) (sepT (fuT.gro 48 (.slice F3 k3 f3) css3 l3) (sepT (txT.slT 9 (.slice A5 k5 c5) l5) (sepT (stT.gro 70 (.slice F1 k1 f1) css1 l1) (sepT (clT.gro 66 (.slice F0 k0 f0) css0 l0) (sepT (blkT W.heap.size 27 z4) R))))))))))) (by ac_rfl)).blk.1
          have rb0 := hb.cell 0
          have rbf0 := hb.frozen 0
          have rb1 := hb.cell 1
          have rbf1 := hb.frozen 1
          simp at rb0 rb1
          clear hb
          have HF := Lib.hid (h.turn (a' := (sepT (blkT y1.heap.size 40 #[.int .i64 (xEnd bs s).1, .int .i64 (xEnd bs s).2]) (sepT (xdT q A0 c0 bs s) (sepT (blkT w1.heap.size 109 #[.pointer (some ⟨q, 0, none⟩), .int .i64 bs.length, .int .i64 b.1, .int .i64 b.2]) (sepT (blkT (w1.heap.size + 1) 27 #[.slice F0 k0 f0, .slice F1 k1 f1, .slice A5 k5 c5, .slice F3 k3 f3]) (sepT (fuT.gro 48 (.slice F3 k3 f3) css3 l3) (sepT (txT.slT 9 (.slice A5 k5 c5) l5) (sepT (stT.gro 70 (.slice F1 k1 f1) css1 l1) (sepT (clT.gro 66 (.slice F0 k0 f0) css0 l0) (sepT (blkT W.heap.size 27 z4) (sepT (blkT (W.heap.size + 1) 40 #[.int .i64 0, .int .i64 0]) R))))))))))) (by ac_rfl))
          clear h
          generalize xEnd bs s = en at *
          obtain ⟨en1, en2⟩ := en
          by_cases hen : en1 = 0
          · subst hen
            have HE : Hid (decM bs = (⟨l0, l1, l5, l3⟩, (0, 0))) := Lib.hid (by rw [HD.out]; rfl)
            clear HD
            have HZ : Hid (Lies N w0 _ (sepT (blkT (W.heap.size + 1) 40 #[.int .i64 0, .int .i64 0]) (sepT (blkT W.heap.size 27 #[.slice F0 k0 f0, .slice F1 k1 f1, .slice A5 k5 c5, .slice F3 k3 f3]) (sepT (blkT y1.heap.size 40 #[.int .i64 0, .int .i64 en2]) (sepT (xdT q A0 c0 bs s) (sepT (blkT w1.heap.size 109 #[.pointer (some ⟨q, 0, none⟩), .int .i64 bs.length, .int .i64 b.1, .int .i64 b.2]) (sepT (blkT (w1.heap.size + 1) 27 #[.slice F0 k0 f0, .slice F1 k1 f1, .slice A5 k5 c5, .slice F3 k3 f3]) (sepT (fuT.gro 48 (.slice F3 k3 f3) css3 l3) (sepT (txT.slT 9 (.slice A5 k5 c5) l5) (sepT (stT.gro 70 (.slice F1 k1 f1) css1 l1) (sepT (clT.gro 66 (.slice F0 k0 f0) css0 l0) R))))))))))) := Lib.hid (((((((((HF.out.turn (a' := (sepT (blkT W.heap.size 27 z4) (sepT (blkT y1.heap.size 40 #[.int .i64 0, .int .i64 en2]) (sepT (xdT q A0 c0 bs s) (sepT (blkT w1.heap.size 109 #[.pointer (some ⟨q, 0, none⟩), .int .i64 bs.length, .int .i64 b.1, .int .i64 b.2]) (sepT (blkT (w1.heap.size + 1) 27 #[.slice F0 k0 f0, .slice F1 k1 f1, .slice A5 k5 c5, .slice F3 k3 f3]) (sepT (fuT.gro 48 (.slice F3 k3 f3) css3 l3) (sepT (txT.slT 9 (.slice A5 k5 c5) l5) (sepT (stT.gro 70 (.slice F1 k1 f1) css1 l1) (sepT (clT.gro 66 (.slice F0 k0 f0) css0 l0) (sepT (blkT (W.heap.size + 1) 40 #[.int .i64 0, .int .i64 0]) R))))))))))) (by ac_rfl)).setBlk 0 (.slice F0 k0 f0)).setBlk 1 (.slice F1 k1 f1)).setBlk 2 (.slice A5 k5 c5)).setBlk 3 (.slice F3 k3 f3)).turn (a' := (sepT (blkT (W.heap.size + 1) 40 #[.int .i64 0, .int .i64 0]) (sepT (blkT W.heap.size 27 #[.slice F0 k0 f0, .slice F1 k1 f1, .slice A5 k5 c5, .slice F3 k3 f3]) (sepT (blkT y1.heap.size 40 #[.int .i64 0, .int .i64 en2]) (sepT (xdT q A0 c0 bs s) (sepT (blkT w1.heap.size 109 #[.pointer (some ⟨q, 0, none⟩), .int .i64 bs.length, .int .i64 b.1, .int .i64 b.2]) (sepT (blkT (w1.heap.size + 1) 27 #[.slice F0 k0 f0, .slice F1 k1 f1, .slice A5 k5 c5, .slice F3 k3 f3]) (sepT (fuT.gro 48 (.slice F3 k3 f3) css3 l3) (sepT (txT.slT 9 (.slice A5 k5 c5) l5) (sepT (stT.gro 70 (.slice F1 k1 f1) css1 l1) (sepT (clT.gro 66 (.slice F0 k0 f0) css0 l0) R))))))))))) (by show sepT (blkT W.heap.size 27 #[.slice F0 k0 f0, .slice F1 k1 f1, .slice A5 k5 c5, .slice F3 k3 f3]) _ = _; ac_rfl)).setBlk 0 (.int .i64 0)).setBlk 1 (.int .i64 0)))
            clear HF
            go_wp2_with fail
            have hz := HZ.out
            have hq := hz.turn (a' := (sepT (blkT W.heap.size 27 #[.slice F0 k0 f0, .slice F1 k1 f1, .slice A5 k5 c5, .slice F3 k3 f3]) (sepT (blkT (W.heap.size + 1) 40 #[.int .i64 0, .int .i64 0]) (sepT (blkT y1.heap.size 40 #[.int .i64 0, .int .i64 en2]) (sepT (xdT q A0 c0 bs s) (sepT (blkT w1.heap.size 109 #[.pointer (some ⟨q, 0, none⟩), .int .i64 bs.length, .int .i64 b.1, .int .i64 b.2]) (sepT (blkT (w1.heap.size + 1) 27 #[.slice F0 k0 f0, .slice F1 k1 f1, .slice A5 k5 c5, .slice F3 k3 f3]) (sepT (fuT.gro 48 (.slice F3 k3 f3) css3 l3) (sepT (txT.slT 9 (.slice A5 k5 c5) l5) (sepT (stT.gro 70 (.slice F1 k1 f1) css1 l1) (sepT (clT.gro 66 (.slice F0 k0 f0) css0 l0) R))))))))))) (by show sepT (blkT (W.heap.size + 1) 40 #[.int .i64 0, .int .i64 0]) _ = _; ac_rfl)
            refine bodyPost_ret (results_cells2 rfl _ _ W.heap.size (W.heap.size + 1) 27 40 #[.slice F0 k0 f0, .slice F1 k1 f1, .slice A5 k5 c5, .slice F3 k3 f3] #[.int .i64 0, .int .i64 0] (0, 0) (0, 0) _ _ rfl hq.blk.1 Tryz.underlying27 rfl (by kernel_rfl) rfl hz.blk.1 Tryz.underlying40 rfl (by kernel_rfl)) rfl ?_
            refine ⟨[.slice F0 l0.length f0, .slice F1 l1.length f1, .slice A5 l5.length c5, .slice F3 l3.length f3], by rw [HE.out, HL0.out, HL1.out, HL3.out, ← HK5.out], ?_⟩
            rw [HE.out]
            have hy := (hz.turn (a' := (sepT (blkT (W.heap.size + 1) 40 #[.int .i64 0, .int .i64 0]) (sepT (blkT W.heap.size 27 #[.slice F0 k0 f0, .slice F1 k1 f1, .slice A5 k5 c5, .slice F3 k3 f3]) (sepT (blkT y1.heap.size 40 #[.int .i64 0, .int .i64 en2]) (sepT (xdT q A0 c0 bs s) (sepT (blkT w1.heap.size 109 #[.pointer (some ⟨q, 0, none⟩), .int .i64 bs.length, .int .i64 b.1, .int .i64 b.2]) (sepT (blkT (w1.heap.size + 1) 27 #[.slice F0 k0 f0, .slice F1 k1 f1, .slice A5 k5 c5, .slice F3 k3 f3]) (sepT (fuT.gro 48 (.slice F3 k3 f3) css3 l3) (sepT (txT.slT 9 (.slice A5 k5 c5) l5) (sepT (stT.gro 70 (.slice F1 k1 f1) css1 l1) (sepT (clT.gro 66 (.slice F0 k0 f0) css0 l0) R))))))))))) (by ac_rfl)).drop.drop.drop.drop.drop.drop
            have hk0 := HK0.out; have hk1 := HK1.out; have hk3 := HK3.out
            have hy := ((fuT.gro_sl (by rw [HL3.out]; omega) hy).turn (a' := (sepT (stT.gro 70 (.slice F1 k1 f1) css1 l1) (sepT (clT.gro 66 (.slice F0 k0 f0) css0 l0) (sepT (txT.slT 9 (.slice A5 k5 c5) l5) (sepT (fuT.slT 48 (.slice F3 k3 f3) l3) R))))) (by ac_rfl))
            have hy := ((stT.gro_sl (by rw [HL1.out]; omega) hy).turn (a' := (sepT (clT.gro 66 (.slice F0 k0 f0) css0 l0) (sepT (txT.slT 9 (.slice A5 k5 c5) l5) (sepT (fuT.slT 48 (.slice F3 k3 f3) l3) (sepT (stT.slT 70 (.slice F1 k1 f1) l1) R))))) (by ac_rfl))
            have hy := (clT.gro_sl (by rw [HL0.out]; omega) hy).turn (a' := (sepT (clT.slT 66 (.slice F0 l0.length f0) l0) (sepT (stT.slT 70 (.slice F1 l1.length f1) l1) (sepT (txT.slT 9 (.slice A5 l5.length c5) l5) (sepT (fuT.slT 48 (.slice F3 l3.length f3) l3) R))))) (by rw [HL0.out, HL1.out, HL3.out, ← HK5.out]; ac_rfl)
            exact md_in (x := ⟨l0, l1, l5, l3⟩) hy
          · skip
            have hen' : (en1 != 0) = true := by simpa using hen
            have HE : Hid (decM bs = (noMd, (en1, en2))) := Lib.hid (by rw [HD.out, if_neg hen])
            clear HD hen
            have HZ : Hid (Lies N w0 _ (sepT (blkT (W.heap.size + 1) 40 #[.int .i64 en1, .int .i64 en2]) (sepT (blkT W.heap.size 27 z4) (sepT (blkT y1.heap.size 40 #[.int .i64 en1, .int .i64 en2]) (sepT (xdT q A0 c0 bs s) (sepT (blkT w1.heap.size 109 #[.pointer (some ⟨q, 0, none⟩), .int .i64 bs.length, .int .i64 b.1, .int .i64 b.2]) (sepT (blkT (w1.heap.size + 1) 27 #[.slice F0 k0 f0, .slice F1 k1 f1, .slice A5 k5 c5, .slice F3 k3 f3]) (sepT (fuT.gro 48 (.slice F3 k3 f3) css3 l3) (sepT (txT.slT 9 (.slice A5 k5 c5) l5) (sepT (stT.gro 70 (.slice F1 k1 f1) css1 l1) (sepT (clT.gro 66 (.slice F0 k0 f0) css0 l0) R))))))))))) := Lib.hid (((((((((HF.out.turn (a' := (sepT (blkT W.heap.size 27 z4) (sepT (blkT (W.heap.size + 1) 40 #[.int .i64 0, .int .i64 0]) (sepT (blkT y1.heap.size 40 #[.int .i64 en1, .int .i64 en2]) (sepT (xdT q A0 c0 bs s) (sepT (blkT w1.heap.size 109 #[.pointer (some ⟨q, 0, none⟩), .int .i64 bs.length, .int .i64 b.1, .int .i64 b.2]) (sepT (blkT (w1.heap.size + 1) 27 #[.slice F0 k0 f0, .slice F1 k1 f1, .slice A5 k5 c5, .slice F3 k3 f3]) (sepT (fuT.gro 48 (.slice F3 k3 f3) css3 l3) (sepT (txT.slT 9 (.slice A5 k5 c5) l5) (sepT (stT.gro 70 (.slice F1 k1 f1) css1 l1) (sepT (clT.gro 66 (.slice F0 k0 f0) css0 l0) R))))))))))) (by ac_rfl)).setBlk 0 (.slice none 0 0)).setBlk 1 (.slice none 0 0)).setBlk 2 (.slice none 0 0)).setBlk 3 (.slice none 0 0)).turn (a' := (sepT (blkT (W.heap.size + 1) 40 #[.int .i64 0, .int .i64 0]) (sepT (blkT W.heap.size 27 z4) (sepT (blkT y1.heap.size 40 #[.int .i64 en1, .int .i64 en2]) (sepT (xdT q A0 c0 bs s) (sepT (blkT w1.heap.size 109 #[.pointer (some ⟨q, 0, none⟩), .int .i64 bs.length, .int .i64 b.1, .int .i64 b.2]) (sepT (blkT (w1.heap.size + 1) 27 #[.slice F0 k0 f0, .slice F1 k1 f1, .slice A5 k5 c5, .slice F3 k3 f3]) (sepT (fuT.gro 48 (.slice F3 k3 f3) css3 l3) (sepT (txT.slT 9 (.slice A5 k5 c5) l5) (sepT (stT.gro 70 (.slice F1 k1 f1) css1 l1) (sepT (clT.gro 66 (.slice F0 k0 f0) css0 l0) R))))))))))) (by show sepT (blkT W.heap.size 27 z4) _ = _; ac_rfl)).setBlk 0 (.int .i64 en1)).setBlk 1 (.int .i64 en2)).drew)
            clear HF
            go_wp2_with fail
            refine wp_region_text [2, 3] loXg upXg (by kernel_rfl) (by kernel_rfl) (by kernel_rfl) (by kernel_rfl) (by kernel_rfl) ?_
            repeat (first | (refine wpTx_now (by rfl) (by rfl) (by rfl) (fun K hK => ?_); go_simp; refine hK _ ?_; clear hK K) | (refine wpTx_late [] (by rfl) (by rfl) (by rfl) (fun K hK => ?_); go_simp; refine hK _ _ ?_; clear hK K))
            refine wpTx_eff (by rfl) (fun K hK => ?_)
            go_simp
            refine hK _ _ (by repeat (first | exact lateOK_nil | refine lateOK_skip (by rfl) ?_ | refine lateOK_cons (by go_simp) ?_)) ?_
            clear hK K
            repeat (first | (refine wpTx_now (by rfl) (by rfl) (by rfl) (fun K hK => ?_); go_simp; refine hK _ ?_; clear hK K) | (refine wpTx_late [] (by rfl) (by rfl) (by rfl) (fun K hK => ?_); go_simp; refine hK _ _ ?_; clear hK K))
            refine wpTx_eff (by rfl) (fun K hK => ?_)
            go_simp
            refine hK _ _ (by repeat (first | exact lateOK_nil | refine lateOK_skip (by rfl) ?_ | refine lateOK_cons (by go_simp) ?_)) ?_
            clear hK K
            refine wpTx_nil ?_
            go_wp2_with fail
            have hz := HZ.out
            have hq := hz.turn (a' := (sepT (blkT W.heap.size 27 z4) (sepT (blkT (W.heap.size + 1) 40 #[.int .i64 en1, .int .i64 en2]) (sepT (blkT y1.heap.size 40 #[.int .i64 en1, .int .i64 en2]) (sepT (xdT q A0 c0 bs s) (sepT (blkT w1.heap.size 109 #[.pointer (some ⟨q, 0, none⟩), .int .i64 bs.length, .int .i64 b.1, .int .i64 b.2]) (sepT (blkT (w1.heap.size + 1) 27 #[.slice F0 k0 f0, .slice F1 k1 f1, .slice A5 k5 c5, .slice F3 k3 f3]) (sepT (fuT.gro 48 (.slice F3 k3 f3) css3 l3) (sepT (txT.slT 9 (.slice A5 k5 c5) l5) (sepT (stT.gro 70 (.slice F1 k1 f1) css1 l1) (sepT (clT.gro 66 (.slice F0 k0 f0) css0 l0) R))))))))))) (by show sepT (blkT (W.heap.size + 1) 40 #[.int .i64 en1, .int .i64 en2]) _ = _; ac_rfl)
            refine bodyPost_ret (results_cells2 rfl _ _ W.heap.size (W.heap.size + 1) 27 40 z4 #[.int .i64 en1, .int .i64 en2] (0, 0) (0, 0) _ _ rfl hq.blk.1 Tryz.underlying27 rfl (by kernel_rfl) rfl hz.blk.1 Tryz.underlying40 rfl (by kernel_rfl)) rfl ?_
            refine ⟨z4.toList, by rw [HE.out], ?_⟩
            rw [HE.out]
            exact no_in (hz.drop.drop.drop.drop.drop.drop.drop.drop.drop.drop)
        · skip
          have hx : Y3 = .error b := by
            have hS := HXS.out
            cases Y3 with
            | ok s' => exact absurd (by rw [hS.2.2]) hb1
            | error f =>
              rcases hS with ⟨_, h2, _⟩ | ⟨h1, _⟩
              · rw [h2]
              · exact absurd (by rw [h1]) hb1
          have HE : Hid (decM bs = (noMd, b)) := by
            have hm := HM.out
            rw [hx] at hm
            refine Lib.hid (dec_err ?_)
            unfold stepX at hm; simp only at hm; revert hm; cases mdR bs (0, 0, 0) with
            | error f => intro hm; cases hm; rfl
            | ok r => obtain ⟨a, r⟩ := r; rintro ⟨rfl, h2⟩; cases h2
          have hb := (h.turn (a' := (sepT (blkT W.heap.size 27 #[.slice none 0 0, .slice none 0 0, .slice none 0 0, .slice none 0 0]) (sepT (xdT q A0 c0 bs s) (sepT (blkT w1.heap.size 109 #[.pointer (some ⟨q, 0, none⟩), .int .i64 bs.length, .int .i64 b.1, .int .i64 b.2]) (sepT (blkT (w1.heap.size + 1) 27 #[.slice F0 k0 f0, .slice F1 k1 f1, .slice A5 k5 c5, .slice F3 k3 f3]) (sepT (fuT.gro 48 (.slice F3 k3 f3) css3 l3) (sepT (txT.slT 9 (.slice A5 k5 c5) l5) (sepT (stT.gro 70 (.slice F1 k1 f1) css1 l1) (sepT (clT.gro 66 (.slice F0 k0 f0) css0 l0) (sepT (blkT (W.heap.size + 1) 40 #[.int .i64 0, .int .i64 0]) R)))))))))) (by ac_rfl)).blk.1
          have ra0 := hb.cell 0
          have raf0 := hb.frozen 0
          have ra1 := hb.cell 1
          have raf1 := hb.frozen 1
          have ra2 := hb.cell 2
          have raf2 := hb.frozen 2
          have ra3 := hb.cell 3
          have raf3 := hb.frozen 3
          simp at ra0 ra1 ra2 ra3
          clear hb
          have hb := (h.turn (a' := (sepT (blkT (W.heap.size + 1) 40 #[.int .i64 0, .int .i64 0]) (sepT (xdT q A0 c0 bs s) (sepT (blkT w1.heap.size 109 #[.pointer (some ⟨q, 0, none⟩), .int .i64 bs.length, .int .i64 b.1, .int .i64 b.2]) (sepT (blkT (w1.heap.size + 1) 27 #[.slice F0 k0 f0, .slice F1 k1 f1, .slice A5 k5 c5, .slice F3 k3 f3]) (sepT (fuT.gro 48 (.slice F3 k3 f3) css3 l3) (sepT (txT.slT 9 (.slice A5 k5 c5) l5) (sepT (stT.gro 70 (.slice F1 k1 f1) css1 l1) (sepT (clT.gro 66 (.slice F0 k0 f0) css0 l0) (sepT (blkT W.heap.size 27 z4) R)))))))))) (by ac_rfl)).blk.1
          have rb0 := hb.cell 0
          have rbf0 := hb.frozen 0
          have rb1 := hb.cell 1
          have rbf1 := hb.frozen 1
          simp at rb0 rb1
          clear hb
          have hb1' : (b.1 != 0) = true := by simpa using hb1
          have HZ : Hid (Lies N w0 _ (sepT (blkT (W.heap.size + 1) 40 #[.int .i64 b.1, .int .i64 b.2]) (sepT (blkT W.heap.size 27 z4) (sepT (xdT q A0 c0 bs s) (sepT (blkT w1.heap.size 109 #[.pointer (some ⟨q, 0, none⟩), .int .i64 bs.length, .int .i64 b.1, .int .i64 b.2]) (sepT (blkT (w1.heap.size + 1) 27 #[.slice F0 k0 f0, .slice F1 k1 f1, .slice A5 k5 c5, .slice F3 k3 f3]) (sepT (fuT.gro 48 (.slice F3 k3 f3) css3 l3) (sepT (txT.slT 9 (.slice A5 k5 c5) l5) (sepT (stT.gro 70 (.slice F1 k1 f1) css1 l1) (sepT (clT.gro 66 (.slice F0 k0 f0) css0 l0) R)))))))))) := Lib.hid (((((((((h.turn (a' := (sepT (blkT W.heap.size 27 z4) (sepT (blkT (W.heap.size + 1) 40 #[.int .i64 0, .int .i64 0]) (sepT (xdT q A0 c0 bs s) (sepT (blkT w1.heap.size 109 #[.pointer (some ⟨q, 0, none⟩), .int .i64 bs.length, .int .i64 b.1, .int .i64 b.2]) (sepT (blkT (w1.heap.size + 1) 27 #[.slice F0 k0 f0, .slice F1 k1 f1, .slice A5 k5 c5, .slice F3 k3 f3]) (sepT (fuT.gro 48 (.slice F3 k3 f3) css3 l3) (sepT (txT.slT 9 (.slice A5 k5 c5) l5) (sepT (stT.gro 70 (.slice F1 k1 f1) css1 l1) (sepT (clT.gro 66 (.slice F0 k0 f0) css0 l0) R)))))))))) (by ac_rfl)).setBlk 0 (.slice none 0 0)).setBlk 1 (.slice none 0 0)).setBlk 2 (.slice none 0 0)).setBlk 3 (.slice none 0 0)).turn (a' := (sepT (blkT (W.heap.size + 1) 40 #[.int .i64 0, .int .i64 0]) (sepT (blkT W.heap.size 27 z4) (sepT (xdT q A0 c0 bs s) (sepT (blkT w1.heap.size 109 #[.pointer (some ⟨q, 0, none⟩), .int .i64 bs.length, .int .i64 b.1, .int .i64 b.2]) (sepT (blkT (w1.heap.size + 1) 27 #[.slice F0 k0 f0, .slice F1 k1 f1, .slice A5 k5 c5, .slice F3 k3 f3]) (sepT (fuT.gro 48 (.slice F3 k3 f3) css3 l3) (sepT (txT.slT 9 (.slice A5 k5 c5) l5) (sepT (stT.gro 70 (.slice F1 k1 f1) css1 l1) (sepT (clT.gro 66 (.slice F0 k0 f0) css0 l0) R)))))))))) (by show sepT (blkT W.heap.size 27 z4) _ = _; ac_rfl)).setBlk 0 (.int .i64 b.1)).setBlk 1 (.int .i64 b.2)).drew)
          clear h hx HM HXS hb1 e1 e2
          have hlt := HLT.out
          have hne1 : ¬ w1.heap.size = W.heap.size := by omega
          have hne2 : ¬ W.heap.size = w1.heap.size := by omega
          clear hlt
          go_wp2_with fail
          refine wp_region_text [5, 6] loXe upXe (by kernel_rfl) (by kernel_rfl) (by kernel_rfl) (by kernel_rfl) (by kernel_rfl) ?_
          repeat (first | (refine wpTx_now (by rfl) (by rfl) (by rfl) (fun K hK => ?_); go_simp; refine hK _ ?_; clear hK K) | (refine wpTx_late [] (by rfl) (by rfl) (by rfl) (fun K hK => ?_); go_simp; refine hK _ _ ?_; clear hK K))
          refine wpTx_eff (by rfl) (fun K hK => ?_)
          go_simp
          refine hK _ _ (by repeat (first | exact lateOK_nil | refine lateOK_skip (by rfl) ?_ | refine lateOK_cons (by go_simp) ?_)) ?_
          clear hK K
          repeat (first | (refine wpTx_now (by rfl) (by rfl) (by rfl) (fun K hK => ?_); go_simp; refine hK _ ?_; clear hK K) | (refine wpTx_late [] (by rfl) (by rfl) (by rfl) (fun K hK => ?_); go_simp; refine hK _ _ ?_; clear hK K))
          refine wpTx_eff (by rfl) (fun K hK => ?_)
          go_simp
          refine hK _ _ (by repeat (first | exact lateOK_nil | refine lateOK_skip (by rfl) ?_ | refine lateOK_cons (by go_simp) ?_)) ?_
          clear hK K
          refine wpTx_nil ?_
          go_wp2_with fail
          have hz := HZ.out
          have hq := hz.turn (a' := (sepT (blkT W.heap.size 27 z4) (sepT (blkT (W.heap.size + 1) 40 #[.int .i64 b.1, .int .i64 b.2]) (sepT (xdT q A0 c0 bs s) (sepT (blkT w1.heap.size 109 #[.pointer (some ⟨q, 0, none⟩), .int .i64 bs.length, .int .i64 b.1, .int .i64 b.2]) (sepT (blkT (w1.heap.size + 1) 27 #[.slice F0 k0 f0, .slice F1 k1 f1, .slice A5 k5 c5, .slice F3 k3 f3]) (sepT (fuT.gro 48 (.slice F3 k3 f3) css3 l3) (sepT (txT.slT 9 (.slice A5 k5 c5) l5) (sepT (stT.gro 70 (.slice F1 k1 f1) css1 l1) (sepT (clT.gro 66 (.slice F0 k0 f0) css0 l0) R)))))))))) (by show sepT (blkT (W.heap.size + 1) 40 #[.int .i64 b.1, .int .i64 b.2]) _ = _; ac_rfl)
          refine bodyPost_ret (results_cells2 rfl _ _ W.heap.size (W.heap.size + 1) 27 40 z4 #[.int .i64 b.1, .int .i64 b.2] (0, 0) (0, 0) _ _ rfl hq.blk.1 Tryz.underlying27 rfl (by kernel_rfl) rfl hz.blk.1 Tryz.underlying40 rfl (by kernel_rfl)) rfl ?_
          refine ⟨z4.toList, by rw [HE.out], ?_⟩
          rw [HE.out]
          exact no_in (hz.drop.drop.drop.drop.drop.drop.drop.drop.drop)
end
end Go.Proofs.YtcapdmicekialaaGreat
