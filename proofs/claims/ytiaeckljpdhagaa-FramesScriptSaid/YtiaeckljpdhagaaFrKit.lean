/- chaperonkit: lists of values compared; copies. -/
import Derived.Test.YtiaeckljpdhagaaFrSame
import Derived.Test.YtiaeckljpdhagaaFrValues
namespace Go.Proofs.Ytiaeckljpdhagaa
open Go.RowKit
set_option linter.unusedVariables false
set_option linter.unusedSimpArgs false
attribute [local go_sem] Oper.semAt_some run_store_func run_store_nilFunc
def loV (i : Nat) : Nat := [0, 0, 0, 0, 0, 0, 0, 0, 0, 1].getD i 0
def upVv (i : Nat) : Nat := [0, 0, 0, 0, 0, 0, 0, 0, 1, 1].getD i 0
set_option maxRecDepth 100000 in
set_option maxHeartbeats 1600000 in
theorem sameVs_any (l m : List AV) (A B : Option Addr) (c d : Nat) (W : World) (hA : ArgRow W l A) (hB : ArgRow W m B) (hl : l.length ≤ 10000000) :
    Calls Try.prog 23 #[.slice A l.length c, .slice B m.length d] W fun e w' => e = .returned (.bool (decide (l.map (·.1) = m.map (·.1)))) ∧ Below W.heap.size W w' := by
  by_cases hlm : l.length = m.length
  · have HA := Lib.hid hA
    have HB := Lib.hid hB
    obtain ⟨n, hn⟩ : ∃ n, n = l.length := ⟨_, rfl⟩
    have hm : m.length = n := by omega
    have HN := Lib.hid (And.intro hn hm)
    have hbn : n ≤ 10000000 := by omega
    rw [← hn, hm]
    clear hA hB hl hlm hn hm
    go_enter Try.func23, Try.ntmps23
    go_wp2
    go_loopw [5] (fun ix wr => ∃ i : Nat, ix = .int .i64 i ∧ i ≤ n ∧ (l.take i).map (·.1) = (m.take i).map (·.1) ∧ Below W.heap.size W wr) (fun ix _ => n - (intOf ix).toNat)
    case atStart => exact ⟨0, rfl, Nat.zero_le _, rfl, Below.refl _ _⟩
    case round =>
      obtain ⟨i, rfl, hi, ht, hb⟩ := hrel
      have HT := Lib.hid ht
      have HBl := Lib.hid hb
      clear ht hb
      by_cases hlt : i < n
      · have hlt' : (i : Int) < (n : Int) := by omega
        have hl1 : i < l.length := by have := HN.out; omega
        have hm1 : i < m.length := by have := HN.out; omega
        obtain ⟨b1, o1, rfl⟩ := HA.out.2.1 (by omega)
        obtain ⟨b2, o2, rfl⟩ := HB.out.2.1 (by omega)
        obtain ⟨tag, x, bits, s, lay, A1, c1, he1, ⟨p0, p1, p2, p3, p4⟩, hv1⟩ := rows_at (HA.out.below HBl.out) i hl1
        obtain ⟨tag', x', bits', s', lay', A2, c2, he2, ⟨q0, q1, q2, q3, q4⟩, hv2⟩ := rows_at (HB.out.below HBl.out) i hm1
        have HC := Lib.hid (fun k => sameV_any _ _ _ _ (wr.drewN k) (VIs.quiet hv1 (Only.drewN _ _ k)) (VIs.quiet hv2 (Only.drewN _ _ k)))
        have HE := Lib.hid (And.intro he1 he2)
        clear he1 he2 hv1 hv2
        by_cases heq : ((⟨tag, x, bits, s, lay⟩ : Val)) = ⟨tag', x', bits', s', lay'⟩
        · rw [decide_eq_true heq] at HC
          have HQ := Lib.hid heq
          clear heq
          go_wp2
          refine wp_region_text [8] loV upVv (by kernel_rfl) (by kernel_rfl) (by kernel_rfl) (by kernel_rfl) (by kernel_rfl) ?_
          repeat (refine wpTx_now (by rfl) (by rfl) (by rfl) (fun K hK => ?_); go_simp; refine hK _ ?_; clear hK K)
          refine wpTx_eff (by rfl) (fun K hK => ?_)
          go_simp
          refine (HC.out 1).mono ?_
          rintro e w1 ⟨rfl, hb1⟩
          refine ⟨_, rfl, hK _ _ (by simp [lateOK]) ?_⟩
          clear hK K
          have hb2 := HBl.out.trans (((below_drewN wr 1).trans hb1).mono HBl.out.size)
          have HB2 := Lib.hid hb2
          clear hb1 hb2
          repeat (refine wpTx_now (by rfl) (by rfl) (by rfl) (fun K hK => ?_); go_simp; refine hK _ ?_; clear hK K)
          refine wpTx_nil ?_
          go_wp2_with fail
          go_roundw
          case rel =>
            refine ⟨i + 1, by go_num, by omega, ?_, HB2.out⟩
            rw [List.take_succ_eq_append_getElem hl1, List.take_succ_eq_append_getElem hm1, List.map_append, List.map_append, HT.out, HE.out.1, HE.out.2, List.map_singleton, List.map_singleton, HQ.out]
          case measure => simp [intOf]; omega
        · rw [decide_eq_false heq] at HC
          have HQ := Lib.hid heq
          clear heq
          go_wp2
          refine wp_region_text [8] loV upVv (by kernel_rfl) (by kernel_rfl) (by kernel_rfl) (by kernel_rfl) (by kernel_rfl) ?_
          repeat (refine wpTx_now (by rfl) (by rfl) (by rfl) (fun K hK => ?_); go_simp; refine hK _ ?_; clear hK K)
          refine wpTx_eff (by rfl) (fun K hK => ?_)
          go_simp
          refine (HC.out 1).mono ?_
          rintro e w1 ⟨rfl, hb1⟩
          refine ⟨_, rfl, hK _ _ (by simp [lateOK]) ?_⟩
          clear hK K
          have hb2 := HBl.out.trans (((below_drewN wr 1).trans hb1).mono HBl.out.size)
          have HB2 := Lib.hid hb2
          clear hb1 hb2
          repeat (refine wpTx_now (by rfl) (by rfl) (by rfl) (fun K hK => ?_); go_simp; refine hK _ ?_; clear hK K)
          refine wpTx_nil ?_
          go_wp2_with fail
          go_ret
          have : ¬ l.map (·.1) = m.map (·.1) := fun e => HQ.out (by
            have h1 := congrArg (fun z => z[i]?) e
            simp [hl1, hm1, HE.out.1, HE.out.2] at h1
            simpa using h1)
          refine ⟨?_, HB2.out⟩
          rw [decide_eq_false this]
          rfl
      · have hlt' : ¬ (i : Int) < (n : Int) := by omega
        obtain rfl : i = n := by omega
        go_wp2
        go_ret
        refine ⟨?_, HBl.out⟩
        have h1 := HT.out
        rw [List.take_of_length_le (by have := HN.out; omega), List.take_of_length_le (by have := HN.out; omega)] at h1
        rw [decide_eq_true h1]
        rfl
  · have h1 : ((l.length : Int) != (m.length : Int)) = true := by simp; omega
    have h2 : decide (l.map (·.1) = m.map (·.1)) = false := decide_eq_false fun e => hlm (by have := congrArg List.length e; simpa using this)
    rw [h2]
    have h3 : ¬ (l.length : Int) = (m.length : Int) := by omega
    clear hA hB hlm
    go_enter Try.func23, Try.ntmps23
    go_wp2
    go_ret
    exact ⟨rfl, Below.refl _ _⟩
set_option maxHeartbeats 800000 in
theorem copyL_any (A : Option Addr) (n c : Nat) (xs : List Value) (w : World) (hx : Reads w w.heap.size 3 A n xs) (h1 : ∀ u ∈ xs, u.oneCell' = true) (hl : n * 32 ≤ 140737488351232) :
    Calls Try.prog 71 #[.slice A n c] w (RetRow 104 3 n xs w) := by
  have Hx := Lib.hid hx
  clear hx
  obtain ⟨i0, hi0, hz0, hz1, hz2⟩ := info_parts infoL
  go_enter Try.func71, Try.ntmps71
  have hown0 : (w.alloc (.cells #[] 104)).ownsRow w.heap.size 104 3 (.slice (some ⟨w.heap.size, 0, none⟩) 0 0) 0 [] := own_empty w 104 3
  have hx1 := Lib.hid (Hx.out.alloc (Nat.le_refl _) (.cells #[] 104))
  clear Hx
  go_wp2_with (at_builtin; refine wpList_append_any _ rfl (.tmp 3) (.tmp 4) _ rfl w.heap.size 104 i0 _ 3 32 Try.underlying28 hi0 hz0 hz1 hz2 rfl (by decide) (.slice (some ⟨w.heap.size, 0, none⟩) 0 0) 0 [] rfl hown0 w.heap.size A n c xs rfl hx1.out h1 (by simp only [maxLen]; omega) (by omega) (by simp) ?_; intro v' w1 hown' hgrow hat; rw [Nat.zero_add, List.nil_append] at hown'; obtain ⟨A', c', rfl, _⟩ := own_form hown')
  go_ret
  refine ⟨A', c', rfl, hown', ?_⟩
  exact ((Below.refl _ _).alloc (Nat.le_refl _) _).grown hgrow (by simp) (by simp [Value.ownBlock])
set_option maxRecDepth 100000 in
set_option maxHeartbeats 800000 in
theorem copyV_big (v : Val) (A : Option Addr) (c : Nat) (w : World) (hr : Reads w w.heap.size 3 A v.lay.length (layV v.lay)) (hk : v.lay.length * 32 ≤ 140737488351232) :
    Calls Try.prog 57 #[v.go (.slice A v.lay.length c)] w fun e w' => ∃ ch, e = .returned (v.go ch) ∧ w'.ownsRow w.heap.size 104 3 ch v.lay.length (layV v.lay) ∧ Below w.heap.size w w' := by
  obtain ⟨tag, n, bits, s, lay⟩ := v
  simp only [Val.go] at *
  have Hr := Lib.hid ((((hr.alloc (Nat.le_refl _) (.cells #[.int .i64 tag, .int .i64 n, .int .u64 bits, .string s, .slice A lay.length c] 30)).more (Nat.le_succ _)).alloc (by simp) (.cells #[.int .i64 0, .int .i64 0, .int .u64 0, .string ⟨#[]⟩, .slice none 0 0] 30)).more (B' := w.heap.size + 2) (by omega))
  clear hr
  go_enter Try.func57, Try.ntmps57
  go_wp2_with fail
  refine (copyL_any A lay.length c (layV lay) _ (by simpa using Hr.out) (layV_one _) hk).mono ?_
  rintro e w1 ⟨A', c', rfl, hown, hb⟩
  have b0 := Blk.below ((Blk.new w 30 #[.int .i64 tag, .int .i64 n, .int .u64 bits, .string s, .slice A lay.length c]).alloc _) hb (by simp; try omega)
  have b1 := Blk.below (Blk.new (w.alloc _) 30 #[.int .i64 0, .int .i64 0, .int .u64 0, .string ⟨#[]⟩, .slice none 0 0]) hb (by simp; try omega)
  simp at b1
  have c0 := b0.cell 0
  have c1 := b0.cell 1
  have c2 := b0.cell 2
  have c3 := b0.cell 3
  have c4 := b0.cell 4
  have f0 := b0.frozen
  have d0 := b1.cell 0
  have d1 := b1.cell 1
  have d2 := b1.cell 2
  have d3 := b1.cell 3
  have d4 := b1.cell 4
  have f1 := b1.frozen
  simp at c0 c1 c2 c3 c4 d0 d1 d2 d3 d4
  have HO := Lib.hid hown
  have HB := Lib.hid hb
  have B1 := Lib.hid b1
  clear hown hb b0 b1 Hr
  go_wp2
  have hz := HB.out.size
  simp at hz
  refine bodyPost_ret (results_cell_row rfl _ _ (w.heap.size + 1) 30 #[.int .i64 tag, .int .i64 n, .int .u64 bits, .string s, .slice A' lay.length c'] (0, 0) _ rfl ((((((B1.out.far (by simp) _).set_ 0 (.int .i64 tag)).set_ 1 (.int .i64 n)).set_ 2 (.int .u64 bits)).set_ 3 (.string s)).set_ 4 (.slice A' lay.length c')) Try.underlying30 rfl (by kernel_rfl)) rfl ?_
  have ho : Only (fun b => b = w.heap.size ∨ b = w.heap.size + 1) w1 ((((((w1.setCell ⟨w.heap.size, 4, none⟩ (.slice A' lay.length c')).setCell ⟨w.heap.size + 1, 0, none⟩ (.int .i64 tag)).setCell ⟨w.heap.size + 1, 1, none⟩ (.int .i64 n)).setCell ⟨w.heap.size + 1, 2, none⟩ (.int .u64 bits)).setCell ⟨w.heap.size + 1, 3, none⟩ (.string s)).setCell ⟨w.heap.size + 1, 4, none⟩ (.slice A' lay.length c')) :=
    (((((Only.setCell _ _ _ (.inl rfl)).trans (Only.setCell _ _ _ (.inr rfl))).trans (Only.setCell _ _ _ (.inr rfl))).trans (Only.setCell _ _ _ (.inr rfl))).trans (Only.setCell _ _ _ (.inr rfl))).trans (Only.setCell _ _ _ (.inr rfl))
  refine ⟨_, rfl, own_only ho (HO.out.mono (by simp; omega)) (fun g hg hv hs => ?_), ?_⟩
  · have := (World.ownsRow.lt HO.out g hv).1
    simp at this
    omega
  · refine Below.trans ?_ (ho.below (by omega) (fun b hb => by omega))
    exact (((Below.refl _ w).alloc (Nat.le_refl _) _).alloc (by simp) _).trans (HB.out.mono (by simp; omega))
theorem copyV_any (v : Val) (x : Value) (w : World) (h : VIs w v x) :
    Calls Try.prog 57 #[x] w fun e w' => ∃ ch, e = .returned (v.go ch) ∧ w'.ownsRow w.heap.size 104 3 ch v.lay.length (layV v.lay) ∧ Below w.heap.size w w' := by
  obtain ⟨A, c, rfl, hr, hk⟩ := h
  unfold Val.ok at hk
  exact copyV_big v A c w hr (by omega)
end Go.Proofs.Ytiaeckljpdhagaa
