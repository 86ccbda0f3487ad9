/- Values. -/
import Derived.Test.YtiaeckljpdhagaaFrElem
namespace Go.Proofs.Ytiaeckljpdhagaa
open Go.RowKit
attribute [local go_sem] Oper.semAt_some run_store_func run_store_nilFunc
def Cal.all (k : Cal) : List Val := k.locals ++ k.stack
section
variable {N : Nat} {w0 W : World} {R : Thing}
theorem append_vals (acc la : List AV) (out : Value) (A : Option Addr) (c : Nat) (H : Lies N w0 W (sepT (rowsT out acc) (sepT (rowsT (.slice A la.length c) la) R))) (hla : ∀ y ∈ la, y.1.ok) (hn : acc.length + la.length ≤ 10000000) :
    ∃ acc2, acc2 = acc ++ la ∧ ∃ A' c' w', (Builtin.append_ #[31, 31] 31 #[out, .slice A la.length c]).run Try.prog W = .ok (.slice A' acc2.length c') w' ∧ Lies N w0 w' (sepT (rowsT (.slice A' acc2.length c') acc2) R) ∧ W.heap.size ≤ w'.heap.size := by
  have H1 : Lies N w0 W (sepT (rowT 30 5 out acc.length (avV acc)) (sepT (chainsT acc) (sepT (rowsT (.slice A la.length c) la) R))) := H.turn (by unfold rowsT; ac_rfl)
  have H2 : Lies N w0 W (sepT (rowT 30 5 (.slice A la.length c) la.length (avV la)) (sepT (chainsT la) (sepT (rowsT out acc) R))) := H.turn (by unfold rowsT; ac_rfl)
  obtain ⟨i0, hi0, hz0, hz1, hz2⟩ := info_parts infoV
  obtain ⟨v', w', hrun, hown, hgrow, hat⟩ := run_append_any (P := Try.prog) W 0 31 31 30 i0 _ 5 64 Try.underlying31 hi0 hz0 hz1 hz2 rfl (by decide) out acc.length (avV acc) H1.row _ A la.length c (avV la) (Reads.of_own H2.row) (avV_one (chains_are H2.drop hla)) (by simp only [maxLen]; omega) (by omega) (Nat.zero_le _)
  obtain ⟨A', c', rfl, _⟩ := own_form hown
  have h3 := H1.grown hown hgrow hat
  have e : (acc ++ la).length = acc.length + la.length := List.length_append
  refine ⟨_, rfl, A', c', w', by rw [e]; exact hrun, ?_, hgrow.size⟩
  rw [e]
  have h4 := h3.turn (a' := sepT (rowT 30 5 (.slice A la.length c) la.length (avV la)) (sepT (sepT (rowT 30 5 (.slice A' (acc.length + la.length) c') (acc.length + la.length) (avV acc ++ avV la)) (sepT (chainsT acc) (chainsT la))) R)) (by unfold rowsT; ac_rfl)
  refine h4.drop.turn ?_
  show _ = sepT (sepT (rowT 30 5 (.slice A' (acc.length + la.length) c') (acc ++ la).length (avV (acc ++ la))) (chainsT (acc ++ la))) R
  rw [e, avV_app, chainsT_app]
theorem callsT_pick : ∀ {cs : List Nat} {ks : List Cal} (i : Nat) (h1 : i < cs.length) (h2 : i < ks.length), ∃ S, callsT cs ks = sepT (callT cs[i] ks[i]) S
  | c :: cs, k :: ks, 0, _, _ => ⟨_, rfl⟩
  | c :: cs, k :: ks, i + 1, h1, h2 => by
    obtain ⟨S, hS⟩ := callsT_pick (cs := cs) (ks := ks) i (by simpa using h1) (by simpa using h2)
    refine ⟨sepT (callT c k) S, ?_⟩
    rw [callsT, hS]
    simp only [List.getElem_cons_succ]
    ac_rfl
end
def loVs (i : Nat) : Nat := [0, 0, 0, 0, 0, 0, 1, 0, 0, 0, 0, 0, 2, 3, 4].getD i 0
def upVs (i : Nat) : Nat := [1, 0, 0, 0, 0, 1, 2, 2, 2, 2, 2, 2, 3, 4, 4].getD i 0
set_option maxRecDepth 100000 in
set_option maxHeartbeats 1600000 in
theorem values_any {N : Nat} {w0 W : World} {R : Thing} {p : Nat} {most : Int} {fr : List Cal} (H : Lies N w0 W (sepT (framesT p most fr) R)) :
    Calls Try.prog 30 #[.pointer (some ⟨p, 0, none⟩)] W fun e w' => ∃ y, e = .returned y ∧ Lies N w0 w' (sepT (valsT (fr.flatMap Cal.all) y) (sepT (framesT p most fr) R)) := by
  obtain ⟨sl, cs, hl, hm, H1⟩ := frames_parts H
  have hb := H1.blk.1
  obtain ⟨Af, cf, rfl, _⟩ := own_form H1.drop.row
  have c0 := hb.cell 0
  have c1 := hb.cell 1
  simp at c0 c1
  have hm0 : (most == 0) = false := by simp; omega
  have hfr : fr.length ≤ 200 := by omega
  have HL := Lib.hid hl
  have HM := Lib.hid hm
  have H2 : Lies N w0 W (sepT (rowsT (.slice none 0 0) []) (sepT (blkT p 71 #[.slice Af fr.length cf, .int .i64 most]) (sepT (rowT 78 1 (.slice Af fr.length cf) fr.length (cs.map ptrV)) (sepT (callsT cs fr) R)))) := by
    have h3 := (H1.add (rowT 30 5 (.slice none 0 0) 0 []) (Only.refl _ _) ⟨_, ⟨World.ownsRow_nil _ _ _ _, rfl⟩, fun b hb => by simp [Value.ownBlock] at hb⟩)
    refine h3.turn ?_
    show _ = sepT (sepT (rowT 30 5 (.slice none 0 0) 0 []) empT) _
    rw [sep_empT]
  have HH := Lib.hid H2
  clear H H1 H2 hb hl hm
  go_enter Try.func30, Try.ntmps30
  go_wp2_with fail
  refine (none_at p most W c1).mono ?_
  rintro e w' ⟨rfl, rfl⟩
  go_wp2_with fail
  clear c0 c1
  go_loopw [2, 13] (fun out ix wr => ∃ (i : Nat) (acc : List AV) (Ao : Option Addr) (co : Nat), out = .slice Ao acc.length co ∧ ix = .int .i64 i ∧ i ≤ fr.length ∧ (acc.length ≤ i * 5200 ∧ acc.map (·.1) = (fr.take i).flatMap Cal.all) ∧ Lies N w0 wr (sepT (rowsT (.slice Ao acc.length co) acc) (sepT (blkT p 71 #[.slice Af fr.length cf, .int .i64 most]) (sepT (rowT 78 1 (.slice Af fr.length cf) fr.length (cs.map ptrV)) (sepT (callsT cs fr) R))))) (fun _ ix _ => fr.length - (intOf ix).toNat)
  case atStart => exact ⟨0, [], none, 0, rfl, rfl, Nat.zero_le _, ⟨Nat.zero_le _, rfl⟩, HH.out⟩
  case round =>
    obtain ⟨i, acc, Ao, co, rfl, rfl, hi, hacc, hh⟩ := hrel
    have HA := Lib.hid hacc
    have HB := Lib.hid hh
    clear hacc hh HH
    by_cases hlt : i < fr.length
    · have hlt' : (i : Int) < (fr.length : Int) := by omega
      have hlc : i < cs.length := by rw [HL.out]; exact hlt
      have hrow := HB.out.drop.drop.row
      obtain ⟨g, cap, hsl, _⟩ := hrow.form (by omega)
      obtain rfl : Af = some ⟨g, 0, none⟩ := by injection hsl
      have hci : wr.cell? ⟨g, i, none⟩ = some (.pointer (some ⟨cs[i], 0, none⟩)) := by
        rw [hrow.cellAt _ (by omega)]
        simp [hlc, ptrV]
      obtain ⟨S, hS⟩ := callsT_pick i hlc hlt
      have hB2 := HB.out.turn (a' := sepT (callT cs[i] fr[i]) (sepT (rowsT (.slice Ao acc.length co) acc) (sepT (blkT p 71 #[.slice (some ⟨g, 0, none⟩) fr.length cf, .int .i64 most]) (sepT (rowT 78 1 (.slice (some ⟨g, 0, none⟩) fr.length cf) fr.length (cs.map ptrV)) (sepT S R))))) (by rw [hS]; ac_rfl)
      obtain ⟨ss, ls, la, sa, hk, h5⟩ := call_parts hB2
      have hokl : ∀ y ∈ la, y.1.ok := fun y hy => hk.1.2.2.1 _ (by rw [← hk.2.1]; exact List.mem_map.2 ⟨y, hy, rfl⟩)
      have hoks : ∀ y ∈ sa, y.1.ok := fun y hy => hk.1.2.2.2 _ (by rw [← hk.2.2]; exact List.mem_map.2 ⟨y, hy, rfl⟩)
      have hll : la.length ≤ 200 := by have h1 := hk.1.1; rw [← hk.2.1, List.length_map] at h1; exact h1
      have hls : sa.length ≤ 5000 := by have h1 := hk.1.2.1; rw [← hk.2.2, List.length_map] at h1; exact h1
      generalize hcc : cs[i] = c at *
      obtain ⟨Al, cl, rfl, _, hAl⟩ := rows_arg (h5.turn (a' := sepT (rowsT ls la) (sepT (blkT c 82 #[ss, .int .i64 fr[i].number, .int .i64 fr[i].place, ls]) (sepT (rowsT ss sa) (sepT (rowsT (.slice Ao acc.length co) acc) (sepT (blkT p 71 #[.slice (some ⟨g, 0, none⟩) fr.length cf, .int .i64 most]) (sepT (rowT 78 1 (.slice (some ⟨g, 0, none⟩) fr.length cf) fr.length (cs.map ptrV)) (sepT S R))))))) (by ac_rfl)) hokl
      obtain ⟨As, cs2, rfl, _, hAs⟩ := rows_arg (h5.turn (a' := sepT (rowsT ss sa) (sepT (blkT c 82 #[ss, .int .i64 fr[i].number, .int .i64 fr[i].place, .slice Al la.length cl]) (sepT (rowsT (.slice Al la.length cl) la) (sepT (rowsT (.slice Ao acc.length co) acc) (sepT (blkT p 71 #[.slice (some ⟨g, 0, none⟩) fr.length cf, .int .i64 most]) (sepT (rowT 78 1 (.slice (some ⟨g, 0, none⟩) fr.length cf) fr.length (cs.map ptrV)) (sepT S R))))))) (by ac_rfl)) hoks
      have k3 : wr.cell? ⟨c, 3, none⟩ = some (.slice Al la.length cl) := h5.blk.1.cell 3
      have k0 : wr.cell? ⟨c, 0, none⟩ = some (.slice As sa.length cs2) := h5.blk.1.cell 0
      have HO := Lib.hid (owned_any la Al cl h5.drew (hAl.below (Below.refl _ _ |>.drew)) (by omega))
      have HK := Lib.hid hk
      have HS := Lib.hid hS
      have HLL := Lib.hid (And.intro hll hls)
      have HOK := Lib.hid (And.intro hokl hoks)
      have HC := Lib.hid hcc
      clear hrow hB2 h5 hk hS hll hls hokl hoks hAl hAs hcc hsl
      go_wp2_with fail
      refine wp_region_text [5, 6, 12, 13] loVs upVs (by kernel_rfl) (by kernel_rfl) (by kernel_rfl) (by kernel_rfl) (by kernel_rfl) ?_
      repeat (first | (refine wpTx_now (by rfl) (by rfl) (by rfl) (fun K hK => ?_); go_simp; refine hK _ ?_; clear hK K) | (refine wpTx_late [] (by rfl) (by rfl) (by rfl) (fun K hK => ?_); go_simp; refine hK _ _ ?_; clear hK K))
      refine wpTx_eff (by rfl) (fun K hK => ?_)
      go_simp
      refine HO.out.mono ?_
      rintro e w1 ⟨sl2, la2, rfl, hla2, h⟩
      obtain ⟨A2, c2, rfl, _⟩ := own_form (h.turn (a' := sepT (rowT 30 5 sl2 la2.length (avV la2)) (sepT (chainsT la2) (sepT (blkT c 82 #[.slice As sa.length cs2, .int .i64 fr[i].number, .int .i64 fr[i].place, .slice Al la.length cl]) (sepT (rowsT (.slice Al la.length cl) la) (sepT (rowsT (.slice As sa.length cs2) sa) (sepT (rowsT (.slice Ao acc.length co) acc) (sepT (blkT p 71 #[.slice (some ⟨g, 0, none⟩) fr.length cf, .int .i64 most]) (sepT (rowT 78 1 (.slice (some ⟨g, 0, none⟩) fr.length cf) fr.length (cs.map ptrV)) (sepT S R))))))))) (by unfold rowsT; ac_rfl)).row
      refine ⟨_, rfl, hK _ _ (by repeat (first | exact lateOK_nil | refine lateOK_skip (by rfl) ?_ | refine lateOK_cons (by go_simp) ?_)) ?_⟩
      clear hK K HO
      have hl2 : la2.length = la.length := by have := congrArg List.length hla2; simpa using this
      have hok2 : ∀ y ∈ la2, y.1.ok := fun y hy => by
        have : y.1 ∈ la.map (·.1) := by rw [← hla2]; exact List.mem_map.2 ⟨y, hy, rfl⟩
        obtain ⟨z, hz, e⟩ := List.mem_map.1 this
        rw [← e]; exact HOK.out.1 z hz
      have m0 : w1.cell? ⟨c, 0, none⟩ = some (.slice As sa.length cs2) := h.drop.blk.1.cell 0
      obtain ⟨acc2, hE2, A3, c3, w2, hrun, h2, _⟩ := append_vals acc la2 (.slice Ao acc.length co) A2 c2 (h.turn (a' := sepT (rowsT (.slice Ao acc.length co) acc) (sepT (rowsT (.slice A2 la2.length c2) la2) (sepT (blkT c 82 #[.slice As sa.length cs2, .int .i64 fr[i].number, .int .i64 fr[i].place, .slice Al la.length cl]) (sepT (rowsT (.slice Al la.length cl) la) (sepT (rowsT (.slice As sa.length cs2) sa) (sepT (blkT p 71 #[.slice (some ⟨g, 0, none⟩) fr.length cf, .int .i64 most]) (sepT (rowT 78 1 (.slice (some ⟨g, 0, none⟩) fr.length cf) fr.length (cs.map ptrV)) (sepT S R)))))))) (by ac_rfl)) hok2 (by have := HA.out.1; have := HLL.out; omega)
      refine wpTx_append (by rfl) (by rfl) (.tmp 17) (.tmp 22) 31 31 rfl rfl rfl rfl hrun (by repeat (first | exact lateOK_nil | refine lateOK_skip (by rfl) ?_)) ?_
      have n0 : w2.cell? ⟨c, 0, none⟩ = some (.slice As sa.length cs2) := h2.drop.blk.1.cell 0
      have hR := h2.turn (a' := sepT (rowsT (.slice As sa.length cs2) sa) (sepT (blkT c 82 #[.slice As sa.length cs2, .int .i64 fr[i].number, .int .i64 fr[i].place, .slice Al la.length cl]) (sepT (rowsT (.slice Al la.length cl) la) (sepT (rowsT (.slice A3 acc2.length c3) acc2) (sepT (blkT p 71 #[.slice (some ⟨g, 0, none⟩) fr.length cf, .int .i64 most]) (sepT (rowT 78 1 (.slice (some ⟨g, 0, none⟩) fr.length cf) fr.length (cs.map ptrV)) (sepT S R))))))) (by ac_rfl)
      obtain ⟨As', cs', hAs1, _, hAs⟩ := rows_arg hR HOK.out.2
      obtain ⟨rfl, rfl⟩ : As = As' ∧ cs2 = cs' := by injection hAs1 with h1 _ h3; exact ⟨h1, h3⟩
      have HO2 := Lib.hid (owned_any sa As cs2 hR hAs HLL.out.2)
      have HE2 := Lib.hid hE2
      have HL2 := Lib.hid (And.intro hla2 hl2)
      have HOK2 := Lib.hid hok2
      clear h hrun h2 hR hAs hAs1 hla2 hl2 hok2 hE2
      repeat (refine wpTx_ws [wr.drew, w1] (by rfl) (by rfl) (by rfl) (fun K hK => ?_); go_simp; refine hK _ ?_; clear hK K)
      refine wpTx_eff (by rfl) (fun K hK => ?_)
      go_simp
      refine HO2.out.mono ?_
      rintro e w3 ⟨sl4, sa2, rfl, hsa2, h⟩
      obtain ⟨A4, c4, rfl, _⟩ := own_form (h.turn (a' := sepT (rowT 30 5 sl4 sa2.length (avV sa2)) (sepT (chainsT sa2) (sepT (rowsT (.slice As sa.length cs2) sa) (sepT (blkT c 82 #[.slice As sa.length cs2, .int .i64 fr[i].number, .int .i64 fr[i].place, .slice Al la.length cl]) (sepT (rowsT (.slice Al la.length cl) la) (sepT (rowsT (.slice A3 acc2.length c3) acc2) (sepT (blkT p 71 #[.slice (some ⟨g, 0, none⟩) fr.length cf, .int .i64 most]) (sepT (rowT 78 1 (.slice (some ⟨g, 0, none⟩) fr.length cf) fr.length (cs.map ptrV)) (sepT S R))))))))) (by unfold rowsT; ac_rfl)).row
      refine ⟨_, rfl, hK _ _ (by repeat (first | exact lateOK_nil | refine lateOK_skip (by rfl) ?_)) ?_⟩
      clear hK K HO2
      have hl3 : sa2.length = sa.length := by have := congrArg List.length hsa2; simpa using this
      have hok3 : ∀ y ∈ sa2, y.1.ok := fun y hy => by
        have : y.1 ∈ sa.map (·.1) := by rw [← hsa2]; exact List.mem_map.2 ⟨y, hy, rfl⟩
        obtain ⟨z, hz, e⟩ := List.mem_map.1 this
        rw [← e]; exact HOK.out.2 z hz
      have hlen2 : acc2.length = acc.length + la.length := by rw [HE2.out, List.length_append, HL2.out.2]
      obtain ⟨acc3, hE3, A5, c5, w4, hrun, h2, _⟩ := append_vals acc2 sa2 (.slice A3 acc2.length c3) A4 c4 (h.turn (a' := sepT (rowsT (.slice A3 acc2.length c3) acc2) (sepT (rowsT (.slice A4 sa2.length c4) sa2) (sepT (blkT c 82 #[.slice As sa.length cs2, .int .i64 fr[i].number, .int .i64 fr[i].place, .slice Al la.length cl]) (sepT (rowsT (.slice Al la.length cl) la) (sepT (rowsT (.slice As sa.length cs2) sa) (sepT (blkT p 71 #[.slice (some ⟨g, 0, none⟩) fr.length cf, .int .i64 most]) (sepT (rowT 78 1 (.slice (some ⟨g, 0, none⟩) fr.length cf) fr.length (cs.map ptrV)) (sepT S R)))))))) (by ac_rfl)) hok3 (by have := HA.out.1; have := HLL.out; omega)
      refine wpTx_append (by rfl) (by rfl) (.tmp 23) (.tmp 29) 31 31 rfl rfl rfl rfl hrun (by repeat (first | exact lateOK_nil | refine lateOK_skip (by rfl) ?_)) ?_
      have h6 : Lies N w0 w4 (sepT (rowsT (.slice A5 acc3.length c5) acc3) (sepT (blkT p 71 #[.slice (some ⟨g, 0, none⟩) fr.length cf, .int .i64 most]) (sepT (rowT 78 1 (.slice (some ⟨g, 0, none⟩) fr.length cf) fr.length (cs.map ptrV)) (sepT (callsT cs fr) R)))) := by
        have h7 := call_whole (k := fr[i]) (la := la) (sa := sa) (c := c) (ss := .slice As sa.length cs2) (ls := .slice Al la.length cl) (R := sepT (rowsT (.slice A5 acc3.length c5) acc3) (sepT (blkT p 71 #[.slice (some ⟨g, 0, none⟩) fr.length cf, .int .i64 most]) (sepT (rowT 78 1 (.slice (some ⟨g, 0, none⟩) fr.length cf) fr.length (cs.map ptrV)) (sepT S R)))) HK.out (h2.turn (by ac_rfl))
        refine h7.turn ?_
        rw [HS.out]
        ac_rfl
      have hfin : acc3.length ≤ (i + 1) * 5200 ∧ acc3.map (·.1) = (fr.take (i + 1)).flatMap Cal.all := by
        refine ⟨?_, ?_⟩
        · rw [hE3, List.length_append, hlen2, hl3]
          have := HA.out.1; have := HLL.out
          omega
        · rw [hE3, HE2.out, List.map_append, List.map_append, HA.out.2, HL2.out.1, hsa2, HK.out.2.1, HK.out.2.2, List.take_succ_eq_append_getElem hlt, List.flatMap_append, List.append_assoc]
          simp [Cal.all]
      have H6 := Lib.hid h6
      have HFin := Lib.hid hfin
      clear h hrun h2 h6 hfin hsa2 hl3 hok3 hlen2 hE3
      repeat (refine wpTx_now (by rfl) (by rfl) (by rfl) (fun K hK => ?_); go_simp; refine hK _ ?_; clear hK K)
      refine wpTx_nil ?_
      go_wp2_with fail
      go_roundw
      case rel => exact ⟨i + 1, _, _, _, rfl, by go_num, by omega, HFin.out, H6.out⟩
      case measure => simp [intOf]; omega
    · have hlt' : ¬ (i : Int) < (fr.length : Int) := by omega
      obtain rfl : i = fr.length := by omega
      go_wp2_with fail
      go_ret
      refine ⟨_, rfl, ?_⟩
      have ha := HA.out.2
      rw [List.take_length] at ha
      refine vals_in ha ?_
      have h7 := frames_whole HL.out HM.out (R := sepT (rowsT (.slice Ao acc.length co) acc) R) (HB.out.turn (by ac_rfl))
      exact h7.turn (by ac_rfl)
end Go.Proofs.Ytiaeckljpdhagaa
