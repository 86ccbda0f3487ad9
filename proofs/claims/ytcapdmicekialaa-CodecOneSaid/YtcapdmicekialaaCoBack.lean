/- CodecBack, walked. -/
import Derived.Test.YtcapdmicekialaaCoLaw
import Derived.BigFrame
namespace Go.Proofs.Ytcapdmicekialaa
open Go.RowKit
set_option linter.unusedVariables false
set_option linter.unusedSimpArgs false
attribute [local go_sem] Oper.semAt_some run_store_func run_store_nilFunc
theorem by_form {N : Nat} {w0 W : World} {A : Option Addr} {c : Nat} {bs : List UInt8} (h : Lies N w0 W (byT A c bs)) (hp : 0 < bs.length) : ∃ g, A = some ⟨g, 0, none⟩ ∧ bs.length ≤ c ∧ N ≤ g := by
  obtain ⟨⟨F, ⟨h1, hF⟩, h2⟩, _⟩ := h
  rcases h1.2 with ⟨_, h0⟩ | ⟨g, cap, cur, hv, _, _, hc, _⟩
  · omega
  · injection hv with e1 e2 e3
    subst e1 e3
    exact ⟨g, rfl, hc, h2 g (by rw [hF]; rfl)⟩
theorem dec_reads2 {W : World} (A : Option Addr) (k c : Nat) (bs : List UInt8) (hk : k = bs.length) (hx : Reads W W.heap.size 1 A bs.length (bytesV bs)) (hl : bs.length ≤ 140737488355328) :
    Calls Try.prog 40 #[.slice A k c] W fun e w' => ∃ (a b d f : Option Addr) (k1 k2 k3 k4 : Nat), e = .returned (.tuple #[.agg #[.slice a (decM bs).1.table.length k1, .slice b (decM bs).1.sites.length k2, .slice d (decM bs).1.pool.length k3, .slice f (decM bs).1.funcs.length k4], .agg #[.int .i64 (decM bs).2.1, .int .i64 (decM bs).2.2]]) ∧
      mdK.tells w' [.slice a (decM bs).1.table.length k1, .slice b (decM bs).1.sites.length k2, .slice d (decM bs).1.pool.length k3, .slice f (decM bs).1.funcs.length k4] (decM bs).1 ∧ Below W.heap.size W w' := by
  subst hk
  exact dec_reads A c bs hx hl
set_option maxRecDepth 100000 in
set_option maxHeartbeats 3200000 in
theorem back22_any (cs : List Value) (m : Md) (cut more : Int) (W : World) (hm : mdK.tells W cs m) (hx1 : -9223372036854775808 ≤ cut) (hx2 : cut ≤ 9223372036854775807) (hy1 : 0 ≤ more) (hy2 : more ≤ 255) :
    Calls Try.prog 9 #[.agg cs.toArray, .int .i64 cut, .int .u8 more] W (RetB true W) := by
  have hnum := nums_told hm
  have h0 := hm
  obtain ⟨t, s, p, f, rfl, k1, k2, k3, k4⟩ := h0
  obtain ⟨a1, c1, rfl, _⟩ := Kind.sl_form k1
  obtain ⟨a2, c2, rfl, _⟩ := Kind.sl_form k2
  obtain ⟨a3, c3, rfl, _⟩ := Kind.sl_form k3
  obtain ⟨a4, c4, rfl, _⟩ := Kind.sl_form k4
  have hba := below_alloc W (.cells #[.slice a1 m.table.length c1, .slice a2 m.sites.length c2, .slice a3 m.pool.length c3, .slice a4 m.funcs.length c4] 68)
  have HB := Lib.hid hba
  have HM := Lib.hid (Kind.below hm hba)
  have HBk := Lib.hid (Blk.new W 68 #[.slice a1 m.table.length c1, .slice a2 m.sites.length c2, .slice a3 m.pool.length c3, .slice a4 m.funcs.length c4])
  have HNum := Lib.hid hnum
  have hcell : Hid (∀ w', Below (W.alloc (.cells #[.slice a1 m.table.length c1, .slice a2 m.sites.length c2, .slice a3 m.pool.length c3, .slice a4 m.funcs.length c4] 68)).heap.size (W.alloc (.cells #[.slice a1 m.table.length c1, .slice a2 m.sites.length c2, .slice a3 m.pool.length c3, .slice a4 m.funcs.length c4] 68)) w' →
      (w'.cell? ⟨W.heap.size, 0, none⟩ = some (.slice a1 m.table.length c1) ∧ w'.cell? ⟨W.heap.size, 1, none⟩ = some (.slice a2 m.sites.length c2) ∧ w'.cell? ⟨W.heap.size, 2, none⟩ = some (.slice a3 m.pool.length c3) ∧ w'.cell? ⟨W.heap.size, 3, none⟩ = some (.slice a4 m.funcs.length c4)) ∧ mdK.tells w' [.slice a1 m.table.length c1, .slice a2 m.sites.length c2, .slice a3 m.pool.length c3, .slice a4 m.funcs.length c4] m ∧ Below W.heap.size W w') :=
    Lib.hid fun w' h => by
      have hb := HBk.out.below h (by simp)
      exact ⟨⟨hb.cell 0, hb.cell 1, hb.cell 2, hb.cell 3⟩, Kind.below HM.out h, HB.out.trans (h.mono HB.out.size)⟩
  show Calls Try.prog 9 #[.agg #[.slice a1 m.table.length c1, .slice a2 m.sites.length c2, .slice a3 m.pool.length c3, .slice a4 m.funcs.length c4], .int .i64 cut, .int .u8 more] W _
  clear hm k1 k2 k3 k4 hba hnum HBk HM HB
  go_enter Try.func9, Try.ntmps9
  go_wp2_with fail
  refine (known22_any _).mono ?_
  rintro e w1 ⟨rfl, hb⟩
  have HB1 := Lib.hid hb
  obtain ⟨⟨e0, e1, e2, e3⟩, ht, _⟩ := hcell.out _ hb
  have HL := Lib.hid (lmod_any ht)
  clear hb ht
  go_wp2_with fail
  refine HL.out.mono ?_
  rintro e w2 ⟨⟨b, rfl⟩, hb⟩
  have HB2 := Lib.hid (HB1.out.trans (hb.mono HB1.out.size))
  clear hb HL HB1 e0 e1 e2 e3
  obtain ⟨⟨e0, e1, e2, e3⟩, ht, hbw⟩ := hcell.out _ HB2.out
  have HC := Lib.hid (enc_reads _ _ ht)
  have HF := Lib.hid hbw
  clear ht hbw
  cases b with
  | true =>
    clear HC
    go_wp2
    go_ret
    exact ⟨rfl, HF.out⟩
  | false =>
    go_wp2_with fail
    refine HC.out.mono ?_
    rintro e w3 ⟨A, c, rfl, h⟩
    have HB3 := Lib.hid (HB2.out.trans (h.below.mono HB2.out.size))
    have HY := Lib.hid h
    clear h HC HB2 HF e0 e1 e2 e3
    by_cases he : (encM m).2 = 0
    · obtain ⟨hwf, henc⟩ := enc_ok HNum.out he
      have hlen := enc_len HNum.out he
      have hne := enc_ne m
      rw [henc] at HY ⊢
      have HD0 := Lib.hid (And.intro (dec_back hwf) (And.intro (dec_more hwf) (dec_less hwf)))
      generalize mdF.enc m = bs at *
      have HY : Hid (Lies w2.heap.size w2 w3 (byT A c bs)) := HY
      have hpos : 1 ≤ bs.length := by have := List.length_pos_iff.2 hne; omega
      have HR := Lib.hid (by_reads HY.out)
      have hpk := pick_any cut bs.length w3 hx1 hx2 (by omega) (by omega)
      have HP := Lib.hid hpk
      obtain ⟨n, hn⟩ : ∃ n, n = bs.length := ⟨_, rfl⟩
      rw [← hn] at HP hpos hlen ⊢
      have HN := Lib.hid hn
      obtain ⟨ab, rfl, hcap, _⟩ := by_form HY.out (by omega)
      have hnc : n ≤ c := by omega
      clear hpk hn hne henc hwf he hcap
      go_wp2_with fail
      refine HP.out.mono ?_
      rintro e w4 ⟨k, rfl, hk, rfl⟩
      have hk' : k < n := by omega
      have hkc : k ≤ c := by omega
      have hkb : (bs.take k).length = k := by rw [List.length_take, ← HN.out]; omega
      have HDec := Lib.hid (dec_reads2 (some ⟨ab, 0, none⟩) k c (bs.take k) hkb.symm (take_reads HR.out k (by rw [← HN.out]; omega)) (by rw [hkb]; omega))
      have HLess := Lib.hid (HD0.out.2.2 k (by rw [← HN.out]; exact hk'))
      clear HP hk hkb
      go_wp2_with fail
      refine HDec.out.mono ?_
      rintro e w5 ⟨d1, d2, d3, d4, q1, q2, q3, q4, rfl, _, hb⟩
      rw [HLess.out]
      have HB5 := Lib.hid (HB3.out.trans (hb.mono HB3.out.size))
      have HR5 := Lib.hid ((HR.out.below hb).more hb.size)
      clear hb HDec HLess
      generalize (decM (bs.take k)).2.2 = at_ at *
      generalize (decM (bs.take k)).1 = mm at *
      have HX : Hid (∀ o o', Below (W.alloc (.cells #[.slice a1 m.table.length c1, .slice a2 m.sites.length c2, .slice a3 m.pool.length c3, .slice a4 m.funcs.length c4] 68)).heap.size (W.alloc (.cells #[.slice a1 m.table.length c1, .slice a2 m.sites.length c2, .slice a3 m.pool.length c3, .slice a4 m.funcs.length c4] 68)) ((w5.alloc o).alloc o') ∧ Below w5.heap.size w5 ((w5.alloc o).alloc o')) := Lib.hid fun o o' => by
        have h1 : Below w5.heap.size w5 ((w5.alloc o).alloc o') := (below_alloc w5 o).trans ((below_alloc (w5.alloc o) o').mono (by simp))
        exact ⟨HB5.out.trans (h1.mono HB5.out.size), h1⟩
      have e0 := fun o o' => (hcell.out _ (HX.out o o').1).1.1
      have e1 := fun o o' => (hcell.out _ (HX.out o o').1).1.2.1
      have e2 := fun o o' => (hcell.out _ (HX.out o o').1).1.2.2.1
      have e3 := fun o o' => (hcell.out _ (HX.out o o').1).1.2.2.2
      have HDs : Hid (∀ o o', Calls Try.prog 37 #[.slice (some ⟨ab, 0, none⟩) n c, .agg #[.slice a1 m.table.length c1, .slice a2 m.sites.length c2, .slice a3 m.pool.length c3, .slice a4 m.funcs.length c4], .int .i64 0, .int .i64 0] ((w5.alloc o).alloc o') (RetB true ((w5.alloc o).alloc o'))) := Lib.hid fun o o' => by
        have h := decodes_any (W := (w5.alloc o).alloc o') (some ⟨ab, 0, none⟩) c bs _ m 0 0 ((HR5.out.below (HX.out o o').2).more (HX.out o o').2.size) (by rw [← HN.out]; omega) (hcell.out _ (HX.out o o').1).2.1
        rw [HD0.out.1, decide_eq_true rfl, ← HN.out] at h
        exact h
      have HFa : Hid (∀ o x y w', Below ((w5.alloc o).alloc (.cells #[x, y] 47)).heap.size ((w5.alloc o).alloc (.cells #[x, y] 47)) w' → w'.cell? ⟨w5.heap.size + 1, 0, none⟩ = some x) := Lib.hid fun o x y w' h => by
        have hn := Blk.new (w5.alloc o) 47 #[x, y]
        rw [show (w5.alloc o).heap.size = w5.heap.size + 1 by simp] at hn
        exact cell_below (hn.cell 0) h
      go_wp2_with fail
      refine (HDs.out _ _).mono ?_
      rintro e w6 ⟨rfl, hb⟩
      have g0 := HFa.out _ _ _ _ hb
      have hx6 := (HX.out _ _).2.trans (hb.mono (HX.out _ _).2.size)
      have HB6 := Lib.hid (HB5.out.trans (hx6.mono HB5.out.size))
      have HW6 := Lib.hid (hcell.out _ HB6.out).2.2
      have hcp := copy_any (some ⟨ab, 0, none⟩) c bs w6 ((HR5.out.below hx6).more hx6.size) (by rw [← HN.out]; omega)
      rw [← HN.out] at hcp
      have HCp := Lib.hid hcp
      clear hb hx6 hcp HDs HFa HX HB5 HR5 e0 e1 e2 e3 hcell
      go_wp2_with fail
      refine HCp.out.mono ?_
      rintro e w7 ⟨A7, c7, rfl, h⟩
      have HB7 := Lib.hid (HW6.out.trans (h.below.mono HW6.out.size))
      have hr7 : w7.ownsRow 0 5 1 (.slice A7 n c7) n (bytesV bs) := by
        obtain ⟨⟨F, ⟨h1, _⟩, _⟩, _⟩ := h
        rw [← HN.out] at h1
        exact h1
      have HO := Lib.hid (own_only (Only.alloc (fun _ => False) w7 (.cells #[.int .u8 more] 5)) hr7 (fun _ _ _ hf => hf))
      obtain ⟨i0, hi0, hz0, hz1, hz2⟩ := info_parts info_byte
      have HG7 : Hid (∀ g, some g = (Value.slice A7 n c7).ownBlock → W.heap.size ≤ g) := Lib.hid fun g hg => by
        obtain ⟨⟨F, ⟨h1, hF⟩, h2⟩, _⟩ := h
        rw [← HN.out] at hF
        have := h2 g (by rw [hF]; exact hg)
        have := HW6.out.size
        omega
      clear h hr7 HCp HB6 g0
      have HN8 := Lib.hid (blk_reads 1 1 (Blk.new w7 5 #[.int .u8 more]) rfl)
      go_wp2_with (at_builtin; go_must (refine BigFrame.wpList_want (by rfl) (fun K hK => wp_append_any _ (.tmp 64) (.tmp 66) 36 rfl 0 5 i0 (.int .u8 0) 1 1 Try.underlying36 hi0 hz0 hz1 hz2 rfl (by decide) (.slice A7 n c7) n (bytesV bs) rfl HO.out _ (some ⟨w7.heap.size, 0, none⟩) 1 1 [.int .u8 more] rfl HN8.out (by simp [Value.oneCell']) (by simp only [maxLen]; omega) (by omega) (Nat.zero_le _) (fun v' w8 hown' hgrow hat => hK _ _ ?_))); clear hK; obtain ⟨A8, c8, rfl, _⟩ := gro_form hown'; clear K)
      have hb8 : Below W.heap.size W w8 := HB7.out.trans (((Only.alloc (fun b => W.heap.size ≤ b) w7 (.cells #[.int .u8 more] 5)).trans ((Only.grown hgrow).mono fun b hb => HG7.out b hb)).below HB7.out.size (fun b hb => hb))
      have hw8 : 140737488355328 = 140737488355328 := rfl
      have hr8 : Reads w8 w8.heap.size 1 (some ⟨0, 0, none⟩) 0 [] := ⟨rfl, fun h => absurd h (by decide)⟩
      have hbv : bytesV bs ++ [.int .u8 more] = bytesV (bs ++ [UInt8.ofNat more.toNat]) := by
        unfold bytesV
        rw [List.map_append]
        congr 1
        simp only [List.map_cons, List.map_nil, List.cons.injEq, and_true]
        rw [ofNat_nat (by omega), Int.toNat_of_nonneg hy1]
      have hlen2 : (bs ++ [UInt8.ofNat more.toNat]).length = n + 1 := by rw [List.length_append, ← HN.out]; rfl
      rw [hbv] at hown'
      have hrd := Reads.of_own hown'
      rw [← hlen2] at hrd
      have hd := decodes_any A8 c8 (bs ++ [UInt8.ofNat more.toNat]) _ noMd 4 n hrd (by rw [hlen2]; omega) (no_tells w8)
      rw [HD0.out.2.1, ← HN.out, decide_eq_true rfl, hlen2] at hd
      have HDd := Lib.hid hd
      have HF := Lib.hid hb8
      clear hd hrd hr8 hw8 hb8 hown' hgrow hat hbv hlen2 HO HN8
      refine HDd.out.mono ?_
      rintro e w9 ⟨rfl, hb⟩
      have HF9 := Lib.hid (HF.out.trans (hb.mono HF.out.size))
      clear hb HF HDd
      go_wp2_with fail
      go_ret
      exact ⟨rfl, HF9.out⟩
    · obtain ⟨hnil, herr⟩ := enc_no he
      rw [hnil] at HY ⊢
      generalize (encM m).2 = er at *
      rcases herr with rfl | rfl | rfl
      all_goals
        have HF := Lib.hid (hcell.out _ HB3.out).2.2
        clear hcell HY HB3 HNum he hnil
        go_wp2
        go_ret
        exact ⟨rfl, HF.out⟩
end Go.Proofs.Ytcapdmicekialaa
