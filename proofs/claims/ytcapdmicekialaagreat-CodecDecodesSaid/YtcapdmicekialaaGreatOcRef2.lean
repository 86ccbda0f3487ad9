/- chaperonref03's writer: NewWriter, Num, Whole, Word, Bytes. -/
import Derived.Test.YtcapdmicekialaaGreatOcRef
namespace Go.Proofs.YtcapdmicekialaaGreat
open Go.RowKit
attribute [local go_sem] Oper.semAt_some run_store_func run_store_nilFunc

theorem refnew_bad (n : Int) (w : World) (h : n < 0 ∨ 1048576 < n) : Calls Tryz.prog 39 #[.int .i64 n] w fun e w' => e = .returned (.tuple #[.pointer none, .int .i64 3]) ∧ w = w' := by
  rcases h with h | h
  · go_enter Tryz.func39, Tryz.ntmps39
    go_wp2_with fail
    go_ret2
    exact ⟨rfl, rfl⟩
  · have h2 : ¬ n < 0 := by omega
    go_enter Tryz.func39, Tryz.ntmps39
    go_wp2_with fail
    go_ret2
    exact ⟨rfl, rfl⟩
theorem refnew_ok (n : Int) (w : World) (h0 : 0 ≤ n) (h1 : n ≤ 1048576) : Calls Tryz.prog 39 #[.int .i64 n] w fun e w' => ∃ p, e = .returned (.tuple #[.pointer (some ⟨p, 0, none⟩), .int .i64 0]) ∧ p = w.heap.size ∧ Rw w' p n [] 0 (.slice none 0 0) ∧ Below w.heap.size w w' := by
  go_enter Tryz.func39, Tryz.ntmps39
  go_wp2_with fail
  go_ret2
  exact ⟨_, rfl, rfl, ⟨World.alloc_heap_new _ _, World.ownsRow_nil _ _ _ _, h0, by omega, by simpa using h0⟩, (Below.refl _ _).alloc (Nat.le_refl _) _⟩
set_option maxHeartbeats 800000 in
theorem refnum_any (p : Nat) (n most bad : Int) (bs : List UInt8) (v : Value) (w : World) (h : Rw w p most bs bad v) (h0 : -9223372036854775808 ≤ n) (h1 : n ≤ 9223372036854775807) :
    Calls Tryz.prog 95 #[.pointer (some ⟨p, 0, none⟩), .int .i64 n] w (RStep p most v (wrNum most bs bad n) w) := by
  have H := Lib.hid h
  clear h
  by_cases hn : 0 ≤ n
  · obtain ⟨m, rfl⟩ := Int.eq_ofNat_of_zero_le hn
    have hN : Hid (wrNum most bs bad (m : Int) = wr1 most bs bad true (grp m)) := by unfold wrNum; rw [decide_eq_true hn, Int.toNat_natCast]; exact rfl
    have hm : m < 18446744073709551616 := by omega
    go_enter Tryz.func95, Tryz.ntmps95
    go_wp2_with fail
    refine (refgroups_any m hm w).mono ?_
    rintro e w1 ⟨A, c, rfl, ho, hb⟩
    have HP := Lib.hid (lay_part p most bad bs v w H true m hm w1 A c ho hb)
    clear ho
    go_wp2_with fail
    refine HP.out.mono ?_
    rintro e w2 hs
    have HS := Lib.hid hs
    obtain ⟨rfl, _⟩ := hs
    go_wp2_with fail
    go_ret
    rw [hN.out]
    exact HS.out
  · have hd : decide (0 ≤ n) = false := decide_eq_false hn
    have hN : Hid (wrNum most bs bad n = wr1 most bs bad false (grp 0)) := by unfold wrNum; rw [hd]; exact wr1_may _ _ _ _ _
    go_enter Tryz.func95, Tryz.ntmps95
    go_wp2_with fail
    refine (refgroups_any 0 (by decide) w).mono ?_
    rintro e w1 ⟨A, c, rfl, ho, hb⟩
    have HP := Lib.hid (lay_part p most bad bs v w H false 0 (by decide) w1 A c ho hb)
    clear ho
    go_wp2_with fail
    refine HP.out.mono ?_
    rintro e w2 hs
    have HS := Lib.hid hs
    obtain ⟨rfl, _⟩ := hs
    go_wp2_with fail
    go_ret
    rw [hN.out]
    exact HS.out
set_option maxHeartbeats 800000 in
theorem refword_any (p : Nat) (s : ByteArray) (most bad : Int) (bs : List UInt8) (v : Value) (w : World) (h : Rw w p most bs bad v) (hs : s.size ≤ 140737488351232) :
    Calls Tryz.prog 126 #[.pointer (some ⟨p, 0, none⟩), .string s] w (RStep p most v (wrWord most bs bad s) w) := by
  have H := Lib.hid h
  clear h
  have hsz : (grp s.size).length ≤ 10 := grp_len s.size (by omega)
  obtain ⟨i0, hi0, hz0, hz1, hz2⟩ := info_parts info_u8
  go_enter Tryz.func126, Tryz.ntmps126
  go_wp2_with fail
  refine (refgroups_any s.size (by omega) w).mono ?_
  rintro e w1 ⟨A, c, rfl, ho, hb⟩
  have HO := Lib.hid ho
  have HB := Lib.hid hb
  clear ho hb
  go_wp2_with (at_builtin; refine wpList_append_src _ rfl (.tmp 9) (.tmp 10) _ _ rfl w.heap.size 5 i0 _ 1 1 Tryz.underlying31 hi0 hz0 hz1 hz2 rfl (by decide) (.slice A (grp s.size).length c) (grp s.size).length (bytesV (grp s.size)) rfl HO.out (.string s) s.size (byteCells s) rfl (Src.ofString w1 Tryz.underlying9 s) (by simp only [maxLen]; omega) (by omega) HB.out.size ?_; intro v' w2 hown' hgrow hat; obtain ⟨A', c', rfl, _⟩ := own_form hown')
  have hlen : (grp s.size ++ s.data.toList).length = (grp s.size).length + s.size := by rw [List.length_append]; rfl
  have hB2 : Below w.heap.size w w2 := HB.out.grown hgrow HB.out.size (fun k hk => (World.ownsRow.lt HO.out k hk).1)
  have HH := Lib.hid (lay_any p true A' c' most bad bs (grp s.size ++ s.data.toList) v w2 (H.out.keep (only_below hB2) (fun _ _ h => h)) (by rw [hlen, bytesV_app]; exact Reads.of_own hown') (by omega))
  rw [hlen] at HH
  clear hown' hgrow hat hlen
  go_wp2_with fail
  refine HH.out.mono ?_
  rintro e w3 hs
  have HS := Lib.hid hs
  obtain ⟨rfl, _⟩ := hs
  go_wp2_with fail
  go_ret
  exact HS.out.from_ (only_below hB2)
set_option maxHeartbeats 800000 in
theorem refbytes_any (p : Nat) (most bad : Int) (bs : List UInt8) (v : Value) (w : World) (h : Rw w p most bs bad v) : Calls Tryz.prog 41 #[.pointer (some ⟨p, 0, none⟩)] w (RetBytesE (if bad = 0 then bs else []) bad w) := by
  have c0 := h.blk.cell 0
  have c2 := h.blk.cell 2
  simp at c0 c2
  have m1 := h.m1
  have m2 := h.m2
  have hp := h.blk.lt
  have hown := h.own
  obtain ⟨Av, cv, rfl, _⟩ := own_form hown
  by_cases hb : bad = 0
  · subst hb
    rw [if_pos rfl]
    obtain ⟨i0, hi0, hz0, hz1, hz2⟩ := info_parts info_u8
    have hx1 := Lib.hid ((Reads.of_own hown).alloc (Nat.le_refl _) (.cells #[] 5))
    have hown0 := own_empty w 5
    have c0' : (w.alloc (.cells #[] 5)).cell? ⟨p, 0, none⟩ = some (.slice Av bs.length cv) := cell_alloc1 _ c0
    clear h hown
    go_enter Tryz.func41, Tryz.ntmps41
    go_wp2_with (at_builtin; refine wpList_append_any _ rfl (.tmp 13) (.tmp 17) _ rfl w.heap.size 5 i0 _ 1 1 Tryz.underlying31 hi0 hz0 hz1 hz2 rfl (by decide) (.slice (some ⟨w.heap.size, 0, none⟩) 0 0) 0 [] rfl hown0 w.heap.size Av bs.length cv (bytesV bs) rfl hx1.out (bytesV_one bs) (by simp only [maxLen]; omega) (by omega) (by simp) ?_; intro v' w1 hown' hgrow hat; rw [Nat.zero_add, List.nil_append] at hown'; obtain ⟨A', c', rfl, _⟩ := own_form hown')
    go_ret2
    exact ⟨A', c', rfl, hown', ((Below.refl _ _).alloc (Nat.le_refl _) _).grown hgrow (by simp) (by simp [Value.ownBlock])⟩
  · rw [if_neg hb]
    have hb' : (bad != 0) = true := by simpa using hb
    clear h hown
    go_enter Tryz.func41, Tryz.ntmps41
    go_wp2_with fail
    go_quiet (fail)
    go_wp2_with fail
    go_ret2
    exact ⟨none, 0, rfl, World.ownsRow_nil _ _ _ _, ⟨rfl, rfl, rfl, Nat.le_refl _, fun _ _ => rfl⟩⟩
end Go.Proofs.YtcapdmicekialaaGreat
