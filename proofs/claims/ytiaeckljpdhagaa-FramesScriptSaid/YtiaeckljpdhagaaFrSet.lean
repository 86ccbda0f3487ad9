/- Set. -/
import Derived.Test.YtiaeckljpdhagaaFrLocal
namespace Go.Proofs.Ytiaeckljpdhagaa
open Go.RowKit
attribute [local go_sem] Oper.semAt_some run_store_func run_store_nilFunc
def Cal.set (k : Cal) (i : Int) (v : Val) : Cal := if k.badAt i then k else { k with locals := k.locals.set i.toNat v }
theorem avV_set (l : List AV) (i : Nat) (v : Val) (ch : Value) (hi : i < l.length) :
    (((((avV l).set (i * 5) (.int .i64 v.tag)).set (i * 5 + 1) (.int .i64 v.n)).set (i * 5 + 2) (.int .u64 v.bits)).set (i * 5 + 3) (.string v.s)).set (i * 5 + 4) ch = avV (l.set i (v, ch)) := by
  have h1 : avV l = avV (l.take i) ++ (avV l).drop (i * 5) := by rw [avV_take, List.take_append_drop]
  rw [h1, set5 _ _ _ _ _ _ _ _ (by rw [avV_len, List.length_take]; omega) (by rw [avV_len]; omega), List.set_eq_take_append_cons_drop, if_pos hi, avV_app, List.append_assoc]
  congr 1
  show _ = Val.cs v ch ++ avV (l.drop (i + 1))
  rw [avV_drop, show (i + 1) * 5 = i * 5 + 5 by omega]
  rfl
theorem chainsT_set (l : List AV) (i : Nat) (hi : i < l.length) : ∃ S, chainsT l = sepT (chainT l[i].1 l[i].2) S ∧ ∀ y : AV, chainsT (l.set i y) = sepT (chainT y.1 y.2) S := by
  refine ⟨sepT (chainsT (l.take i)) (chainsT (l.drop (i + 1))), ?_, ?_⟩
  · conv => lhs; rw [← List.take_append_drop i l, List.drop_eq_getElem_cons hi, chainsT_app, chainsT]
    ac_rfl
  · intro y
    rw [List.set_eq_take_append_cons_drop, if_pos hi, chainsT_app, chainsT]
    ac_rfl
def loS (i : Nat) : Nat := [0, 0, 0, 0, 0, 0, 0, 1, 1].getD i 0
def upS (i : Nat) : Nat := [1, 1, 1, 1, 1, 0, 1, 1, 2].getD i 0
set_option maxRecDepth 100000 in
set_option maxHeartbeats 1600000 in
theorem set1_any {N : Nat} {w0 W : World} {R : Thing} {c b b2 : Nat} {k : Cal} {A : Option Addr} {cv : Nat} (i : Int) (v : Val) (H : Lies N w0 W (sepT (callT c k) R)) (hb : W.cell? ⟨b, 0, none⟩ = some (.int .i64 i)) (hv : VIs W v (v.go (.slice A v.lay.length cv)))
    (hb2 : Blk W b2 30 #[.int .i64 v.tag, .int .i64 v.n, .int .u64 v.bits, .string v.s, .slice A v.lay.length cv]) :
    Calls Try.prog 38 #[ptrV c, .pointer (some ⟨b, 0, none⟩), .pointer (some ⟨b2, 0, none⟩)] W fun e w' => ∃ y z, e = .returned (.tuple #[y, z]) ∧ z = .int .i64 (k.localE i) ∧ Lies N w0 w' (sepT (callT c (k.set i v)) R) := by
  unfold ptrV
  obtain ⟨ss, ls, la, sa, hk, H1⟩ := call_parts H
  have hll : la.length = k.locals.length := by rw [← hk.2.1, List.length_map]
  have hok : ∀ y ∈ la, y.1.ok := fun y hy => hk.1.2.2.1 _ (by rw [← hk.2.1]; exact List.mem_map.2 ⟨y, hy, rfl⟩)
  have hvk : v.ok := by obtain ⟨_, _, _, _, h⟩ := hv; exact h
  have H2 := H1.turn (a' := sepT (rowsT ls la) (sepT (blkT c 82 #[ss, .int .i64 k.number, .int .i64 k.place, ls]) (sepT (rowsT ss sa) R))) (by ac_rfl)
  obtain ⟨As, cp, rfl, hcp, hA⟩ := rows_arg H2 hok
  have c3 := H1.blk.1.cell 3
  simp at c3
  by_cases hbad : i < 0 ∨ (k.locals.length : Int) ≤ i
  · have HE : Hid (k.localE i = 3 ∧ k.set i v = k) := by
      have hb : k.badAt i = true := by simp [Cal.badAt, hbad]
      exact ⟨by simp [Cal.localE, hb], by simp [Cal.set, hb]⟩
    have HH := Lib.hid H
    by_cases h0 : i < 0
    · clear H H1 H2 hk hA hok hv hb2 hbad hll
      go_enter Try.func38, Try.ntmps38
      go_wp2
      go_quiet (fail)
      go_wp2
      go_ret2
      rw [HE.out.1, HE.out.2]
      exact ⟨_, _, rfl, rfl, HH.out.drewN _⟩
    · have hd : decide (i < 0) = false := by simpa using h0
      have h1 : (la.length : Int) ≤ i := by omega
      clear H H1 H2 hk hA hok hv hb2 hbad hll
      go_enter Try.func38, Try.ntmps38
      go_wp2
      go_quiet (fail)
      go_wp2
      go_ret2
      rw [HE.out.1, HE.out.2]
      exact ⟨_, _, rfl, rfl, HH.out.drewN _⟩
  · obtain ⟨j, rfl⟩ : ∃ j : Nat, i = j := ⟨i.toNat, by omega⟩
    have hj : j < la.length := by omega
    have hbf : k.badAt j = false := by simp [Cal.badAt]; omega
    obtain ⟨g, off, rfl⟩ := hA.2.1 (by omega)
    have hrow : W.ownsRow 0 30 5 (.slice (some ⟨g, off, none⟩) la.length cp) la.length (avV la) := (H2.turn (a' := sepT (rowT 30 5 (.slice (some ⟨g, off, none⟩) la.length cp) la.length (avV la)) (sepT (chainsT la) (sepT (blkT c 82 #[ss, .int .i64 k.number, .int .i64 k.place, .slice (some ⟨g, off, none⟩) la.length cp]) (sepT (rowsT ss sa) R)))) (by unfold rowsT; ac_rfl)).row
    obtain rfl : off = 0 := by
      obtain ⟨g', cap, h, _⟩ := hrow.form (by omega)
      injection h with h
      injection h with h
      injection h with _ h
    obtain ⟨tag0, n0, bits0, s0, lay0, A0, c0, he, ⟨e0, e1, e2, e3, e4⟩, _⟩ := rows_at hA j hj
    rw [Nat.zero_add] at e0 e1 e2 e3 e4
    obtain ⟨S, hS1, hS2⟩ := chainsT_set la j hj
    have HE : Hid (k.localE j = 0 ∧ k.set j v = { k with locals := k.locals.set j v }) := ⟨by simp [Cal.localE, hbf], by simp [Cal.set, hbf]⟩
    have HV := Lib.hid hv
    have v0 := hb2.cell 0
    have v1 := hb2.cell 1
    have v2 := hb2.cell 2
    have v3 := hb2.cell 3
    have v4 := hb2.cell 4
    simp at v0 v1 v2 v3 v4
    have HO := Lib.hid (fun m => own_any _ _ _ (VIs.quiet HV.out (Only.drewN _ _ m)))
    have hd : decide ((j : Int) < 0) = false := decide_eq_false (by omega)
    have hd2 : decide ((la.length : Int) ≤ (j : Int)) = false := decide_eq_false (by omega)
    have hlt : (j : Int) < (la.length : Int) := by omega
    have HH := Lib.hid H2
    have HK := Lib.hid hk
    have HS := Lib.hid hS1
    have HS2 := Lib.hid hS2
    have HJ := Lib.hid hj
    have HL := Lib.hid hll
    have HV2 := Lib.hid hvk
    obtain ⟨tag, n, bits, s, lay⟩ := v
    simp only [Val.go] at *
    clear H H1 H2 hk hA hok hv he hb2 hbad hbf hll hrow hS1 hS2
    go_enter Try.func38, Try.ntmps38
    go_wp2
    go_quiet (fail)
    go_wp2
    refine wp_region_text [6, 8] loS upS (by kernel_rfl) (by kernel_rfl) (by kernel_rfl) (by kernel_rfl) (by kernel_rfl) ?_
    repeat (refine wpTx_late [] (by rfl) (by rfl) (by rfl) (fun K hK => ?_); go_simp; refine hK _ _ ?_; clear hK K)
    refine wpTx_now (by rfl) (by rfl) (by rfl) (fun K hK => ?_)
    go_simp
    refine hK _ ?_
    clear hK K
    refine wpTx_eff (by rfl) (fun K hK => ?_)
    go_simp
    refine (HO.out _).mono ?_
    rintro e w1 ⟨ch, rfl, hown, hbe⟩
    obtain ⟨A5, c5, rfl, _⟩ := own_form hown
    replace hbe : Below W.heap.size W w1 := (below_drewN W _).trans hbe
    have q3 := cell_below (p := ⟨c, 3, none⟩) c3 hbe
    have qb := cell_below hb hbe
    refine ⟨_, rfl, hK _ _ ?_ ?_⟩
    · repeat (first | exact lateOK_nil | refine lateOK_skip (by rfl) ?_ | refine lateOK_cons (by go_simp) ?_)
    clear hK K HO
    have h2 := HH.out.newRow hown hbe
    have h3 : Lies N w0 w1 (sepT (rowT 30 5 (.slice (some ⟨g, 0, none⟩) la.length cp) la.length (avV la)) (sepT (sepT (chainT la[j].1 la[j].2) S) (sepT (rowT 104 3 (.slice A5 lay.length c5) lay.length (layV lay)) (sepT (blkT c 82 #[ss, .int .i64 k.number, .int .i64 k.place, .slice (some ⟨g, 0, none⟩) la.length cp]) (sepT (rowsT ss sa) R))))) := h2.turn (by unfold rowsT; rw [HS.out]; ac_rfl)
    have hrow := h3.row
    replace e0 := cell_below e0 hbe
    replace e1 := cell_below e1 hbe
    replace e2 := cell_below e2 hbe
    replace e3 := cell_below e3 hbe
    replace e4 := cell_below e4 hbe
    have f0 := hrow.frozenAt (j * 5)
    have f1 := hrow.frozenAt (j * 5 + 1)
    have f2 := hrow.frozenAt (j * 5 + 2)
    have f3 := hrow.frozenAt (j * 5 + 3)
    have f4 := hrow.frozenAt (j * 5 + 4)
    have H3 := Lib.hid h3
    clear h2 h3 hown hbe hrow HH
    repeat (refine wpTx_now (by rfl) (by rfl) (by rfl) (fun K hK => ?_); go_simp; refine hK _ ?_; clear hK K)
    refine wpTx_eff (by rfl) (fun K hK => ?_)
    go_simp
    refine hK _ _ (by repeat (first | exact lateOK_nil | refine lateOK_skip (by rfl) ?_)) ?_
    clear hK K
    refine wpTx_nil ?_
    go_wp2_with fail
    go_ret2
    rw [HE.out.1, HE.out.2]
    have h5 := ((((H3.out.store (j * 5) (.int .i64 tag)).store (j * 5 + 1) (.int .i64 n)).store (j * 5 + 2) (.int .u64 bits)).store (j * 5 + 3) (.string s)).store (j * 5 + 4) (.slice A5 lay.length c5)
    have h6 := avV_set la j ⟨tag, n, bits, s, lay⟩ (.slice A5 lay.length c5) HJ.out
    rw [h6] at h5
    have h7 := h5.turn (a' := sepT (chainT la[j].1 la[j].2) (sepT (sepT (rowT 30 5 (.slice (some ⟨g, 0, none⟩) la.length cp) la.length (avV (la.set j (⟨tag, n, bits, s, lay⟩, .slice A5 lay.length c5)))) (sepT (chainT ⟨tag, n, bits, s, lay⟩ (.slice A5 lay.length c5)) S)) (sepT (blkT c 82 #[ss, .int .i64 k.number, .int .i64 k.place, .slice (some ⟨g, 0, none⟩) la.length cp]) (sepT (rowsT ss sa) R)))) (by unfold chainT; ac_rfl)
    refine ⟨_, _, rfl, rfl, call_whole (k := { k with locals := k.locals.set j ⟨tag, n, bits, s, lay⟩ }) (la := la.set j (⟨tag, n, bits, s, lay⟩, .slice A5 lay.length c5)) (sa := sa) (ss := ss) (ls := .slice (some ⟨g, 0, none⟩) la.length cp) ⟨⟨?_, HK.out.1.2.1, ?_, HK.out.1.2.2.2⟩, ?_, HK.out.2.2⟩ (h7.drop.turn ?_)⟩
    · show (k.locals.set j _).length ≤ 200
      rw [List.length_set]; exact HK.out.1.1
    · intro v hv
      rcases List.mem_or_eq_of_mem_set hv with hv | rfl
      · exact HK.out.1.2.2.1 v hv
      · exact HV2.out
    · rw [List.map_set, HK.out.2.1]
    · unfold rowsT
      rw [List.length_set]
      rw [HS2.out]
      ac_rfl
set_option maxRecDepth 100000 in
theorem set_any {N : Nat} {w0 W : World} {R : Thing} {p : Nat} {most : Int} {fr : List Cal} {k : Cal} {A : Option Addr} {cv : Nat} (i : Int) (v : Val) (H : Lies N w0 W (sepT (framesT p most (fr ++ [k])) R)) (hv : VIs W v (v.go (.slice A v.lay.length cv))) :
    Calls Try.prog 10 #[.pointer (some ⟨p, 0, none⟩), .int .i64 i, v.go (.slice A v.lay.length cv)] W fun e w' => e = .returned (.int .i64 (k.localE i)) ∧ Lies N w0 w' (sepT (framesT p most (fr ++ [k.set i v])) R) := by
  have HB := (H.newBlk 3 #[.int .i64 i]).newBlk 30 #[.int .i64 v.tag, .int .i64 v.n, .int .u64 v.bits, .string v.s, .slice A v.lay.length cv]
  have hsz : (W.alloc (.cells #[.int .i64 i] 3)).heap.size = W.heap.size + 1 := by simp
  have B1 := Blk.new (W.alloc (.cells #[.int .i64 i] 3)) 30 #[.int .i64 v.tag, .int .i64 v.n, .int .u64 v.bits, .string v.s, .slice A v.lay.length cv]
  rw [hsz] at B1
  have B0 := (Blk.new W 3 #[.int .i64 i]).alloc (.cells #[.int .i64 v.tag, .int .i64 v.n, .int .u64 v.bits, .string v.s, .slice A v.lay.length cv] 30)
  obtain ⟨g, cp, cs, c, hl, hm, H⟩ := frames_top ((H.alloc (.cells #[.int .i64 i] 3)).alloc (.cells #[.int .i64 v.tag, .int .i64 v.n, .int .u64 v.bits, .string v.s, .slice A v.lay.length cv] 30))
  obtain ⟨h0, h1, ht⟩ := frames_cells hl H
  have hm0 : (most == 0) = false := by simp; omega
  have hv2 := VIs.quiet (VIs.quiet (VIs.quiet hv (Only.alloc _ W (.cells #[.int .i64 i] 3))) (Only.alloc _ _ (.cells #[.int .i64 v.tag, .int .i64 v.n, .int .u64 v.bits, .string v.s, .slice A v.lay.length cv] 30))) (Only.drew _ _)
  have hj := set1_any (b := W.heap.size) (b2 := W.heap.size + 1) i v H.drew (B0.cell 0) hv2 B1.drew
  have HT := Lib.hid (topI_call p g fr.length cp c most (.int .i64 0) 38 #[] #[.pointer (some ⟨W.heap.size, 0, none⟩), .pointer (some ⟨W.heap.size + 1, 0, none⟩)] _ _ (fun _ _ => rfl) (by omega) hm0 h0 h1 ht hj)
  have hmf : ∀ fn first cap (w : World), (Instr.makeFunc fn first cap).run Try.prog w = .ok (.func fn first cap) w := fun _ _ _ _ => rfl
  have HM := Lib.hid hm
  obtain ⟨tag, n, bits, s, lay⟩ := v
  simp only [Val.go] at *
  clear H HB h0 h1 ht hm0 hj hm hv hv2 B0 B1 hsz
  go_enter Try.func10, Try.ntmps10
  go_wp2_with fail
  refine HT.out.mono ?_
  rintro e w' ⟨y, z, rfl, rfl, h⟩
  have HL := Lib.hid (frames_untop hl HM.out h)
  clear h HT
  go_wp2_with fail
  go_ret
  exact ⟨rfl, HL.out⟩
end Go.Proofs.Ytiaeckljpdhagaa
