/- CodecOne, walked. -/
import Derived.Test.YtcapdmicekialaaCoBack
namespace Go.Proofs.Ytcapdmicekialaa
open Go.RowKit
set_option linter.unusedVariables false
set_option linter.unusedSimpArgs false
attribute [local go_sem] Oper.semAt_some run_store_func run_store_nilFunc
theorem u8_xor_nat (a b : Nat) (ha : a < 256) (hb : b < 256) : bits .xor .u8 (a : Int) (b : Int) = ((a ^^^ b : Nat) : Int) := by
  have : ∀ a : Fin 256, ∀ b : Fin 256, bits .xor .u8 ((a : Nat) : Int) ((b : Nat) : Int) = (((a : Nat) ^^^ (b : Nat) : Nat) : Int) := by decide +kernel
  exact this ⟨a, ha⟩ ⟨b, hb⟩
theorem xor_ne (a b : Nat) (hb : b ≠ 0) : a ^^^ b ≠ a := by
  intro h
  apply hb
  have := congrArg (a ^^^ ·) h
  simpa [← Nat.xor_assoc] using this
theorem xor_lt (a b : Nat) (ha : a < 256) (hb : b < 256) : a ^^^ b < 256 := Nat.xor_lt_two_pow (n := 8) ha hb
/-- The bytes in a block of the call's own. -/
theorem by_blk {N : Nat} {w0 W : World} {g : Nat} {c : Nat} {bs : List UInt8} (h : Lies N w0 W (byT (some ⟨g, 0, none⟩) c bs)) (hp : 0 < bs.length) : ∃ cur, Blk W g 5 cur ∧ cur.toList.take bs.length = bytesV bs := by
  obtain ⟨⟨F, ⟨h1, hF⟩, h2⟩, _⟩ := h
  rcases h1.2 with ⟨hv, h0⟩ | ⟨g', cap, cur, hv, _, hh, hc, _, hz, ht⟩
  · omega
  · injection hv with e1 e2 e3
    injection e1 with e1
    injection e1 with e1
    subst e1
    exact ⟨cur, hh, by rw [Nat.mul_one] at ht; exact ht⟩
theorem cur_reads {W : World} {g : Nat} {cur : Array Value} {bs : List UInt8} (h : Blk W g 5 cur) (ht : cur.toList.take bs.length = bytesV bs) : Reads W W.heap.size 1 (some ⟨g, 0, none⟩) bs.length (bytesV bs) := by
  refine ⟨by rw [bytesV_len, Nat.mul_one], fun _ => ⟨_, rfl, h.lt, fun j u hu => ?_⟩⟩
  rw [Addr.add_lit, Nat.zero_add, h.cell j]
  rw [← ht, List.getElem?_take] at hu
  split at hu
  · simpa using hu
  · cases hu
theorem cur_set {cur : Array Value} {bs : List UInt8} (ht : cur.toList.take bs.length = bytesV bs) (k : Nat) (y : UInt8) : (cur.setIfInBounds k (.int .u8 (y.toNat : Int))).toList.take (bs.set k y).length = bytesV (bs.set k y) := by
  rw [List.length_set, Array.toList_setIfInBounds, List.take_set, ht]
  unfold bytesV
  rw [List.map_set]
set_option maxRecDepth 100000 in
set_option maxHeartbeats 3200000 in
theorem one22_any (A : Option Addr) (c : Nat) (bs : List UInt8) (place turn : Int) (W : World) (hx : Reads W W.heap.size 1 A bs.length (bytesV bs)) (hl : bs.length ≤ 140737488351232) (hx1 : -9223372036854775808 ≤ place) (hx2 : place ≤ 9223372036854775807) (hy1 : 0 ≤ turn) (hy2 : turn ≤ 255) :
    Calls Try.prog 10 #[.slice A bs.length c, .int .i64 place, .int .u8 turn] W (RetB true W) := by
  have HX := Lib.hid hx
  obtain ⟨n, hn⟩ : ∃ n, n = bs.length := ⟨_, rfl⟩
  have HN := Lib.hid hn
  rw [← hn] at hl ⊢
  clear hx hn
  go_enter Try.func10, Try.ntmps10
  go_wp2_with fail
  refine (known22_any _).mono ?_
  rintro e w1 ⟨rfl, hb⟩
  have HB1 := Lib.hid hb
  have HX1 := Lib.hid ((HX.out.below hb).more hb.size)
  clear hb HX
  by_cases h3 : 3000 < n
  · have h3' : (3000 : Int) < (n : Int) := by omega
    go_wp2
    go_ret
    exact ⟨rfl, HB1.out⟩
  · have h3' : ¬ (3000 : Int) < (n : Int) := by omega
    have hd := dec_reads A c bs HX1.out (by rw [← HN.out]; omega)
    rw [← HN.out] at hd
    have HD := Lib.hid hd
    clear hd
    go_wp2_with fail
    refine HD.out.mono ?_
    rintro e w2 ⟨d1, d2, d3, d4, q1, q2, q3, q4, rfl, ht, hb⟩
    have HB2 := Lib.hid (HB1.out.trans (hb.mono HB1.out.size))
    have HX2 := Lib.hid ((HX1.out.below hb).more hb.size)
    have HT := Lib.hid ht
    have HFine := Lib.hid (@dec_fine bs)
    have HBad := Lib.hid (@dec_fault_at bs)
    have HDef : Hid (∃ D, D = decM bs) := Lib.hid ⟨_, rfl⟩
    clear hb ht HD HB1 HX1
    obtain ⟨D, hD⟩ := HDef.out
    rw [← hD] at HT HFine HBad ⊢
    have HDM := Lib.hid hD
    clear hD HDef
    obtain ⟨m, er, at_⟩ := D
    simp only at HFine HBad
    have HM : Hid (mdK.tells w2 [.slice d1 m.table.length q1, .slice d2 m.sites.length q2, .slice d3 m.pool.length q3, .slice d4 m.funcs.length q4] m) := HT
    have HAl : Hid (∀ o o', Below w2.heap.size w2 ((w2.alloc o).alloc o')) := Lib.hid fun o o' => (below_alloc w2 o).trans ((below_alloc (w2.alloc o) o').mono (by simp))
    by_cases he : er = 0
    · obtain ⟨hwf, hbs, hat⟩ := HFine.out he
      have henc : encM m = (bs, 0) := by rw [enc_wf hwf (by rw [← hbs, ← HN.out]; omega), ← hbs]
      have hne : 0 < bs.length := by rw [hbs]; exact List.length_pos_iff.2 (enc_ne m)
      rw [← HN.out] at hne
      have HE : Hid (∀ o o', Calls Try.prog 36 #[.agg #[.slice d1 m.table.length q1, .slice d2 m.sites.length q2, .slice d3 m.pool.length q3, .slice d4 m.funcs.length q4]] ((w2.alloc o).alloc o') fun e w' => ∃ A3 c3, e = .returned (.tuple #[.slice A3 n c3, .int .i64 0]) ∧ Lies ((w2.alloc o).alloc o').heap.size ((w2.alloc o).alloc o') w' (byT A3 c3 bs)) := Lib.hid fun o o' => by
        have h := enc_reads _ m (Kind.below HM.out (HAl.out o o'))
        rw [henc] at h
        rw [HN.out]
        exact h
      have HEq := Lib.hid hbs
      subst he
      clear hwf hbs henc HFine HBad hat HT
      go_wp2_with fail
      refine (HE.out _ _).mono ?_
      rintro e w3 ⟨A3, c3, rfl, h⟩
      have HY : Hid (Lies ((w2.alloc (.cells #[.slice d1 m.table.length q1, .slice d2 m.sites.length q2, .slice d3 m.pool.length q3, .slice d4 m.funcs.length q4] 68)).alloc (.cells #[.int .i64 0, .int .i64 at_] 47)).heap.size ((w2.alloc (.cells #[.slice d1 m.table.length q1, .slice d2 m.sites.length q2, .slice d3 m.pool.length q3, .slice d4 m.funcs.length q4] 68)).alloc (.cells #[.int .i64 0, .int .i64 at_] 47)) w3 (byT A3 c3 bs)) := Lib.hid h
      have HC8 : Hid (∀ w', Below ((w2.alloc (.cells #[.slice d1 m.table.length q1, .slice d2 m.sites.length q2, .slice d3 m.pool.length q3, .slice d4 m.funcs.length q4] 68)).alloc (.cells #[.int .i64 0, .int .i64 at_] 47)).heap.size ((w2.alloc (.cells #[.slice d1 m.table.length q1, .slice d2 m.sites.length q2, .slice d3 m.pool.length q3, .slice d4 m.funcs.length q4] 68)).alloc (.cells #[.int .i64 0, .int .i64 at_] 47)) w' → (w'.cell? ⟨w2.heap.size, 0, none⟩ = some (.slice d1 m.table.length q1) ∧ w'.cell? ⟨w2.heap.size, 1, none⟩ = some (.slice d2 m.sites.length q2) ∧ w'.cell? ⟨w2.heap.size, 2, none⟩ = some (.slice d3 m.pool.length q3) ∧ w'.cell? ⟨w2.heap.size, 3, none⟩ = some (.slice d4 m.funcs.length q4)) ∧ mdK.tells w' [.slice d1 m.table.length q1, .slice d2 m.sites.length q2, .slice d3 m.pool.length q3, .slice d4 m.funcs.length q4] m ∧ Below W.heap.size W w') := Lib.hid fun w' h => by
        have hb := ((Blk.new w2 68 #[.slice d1 m.table.length q1, .slice d2 m.sites.length q2, .slice d3 m.pool.length q3, .slice d4 m.funcs.length q4]).alloc (.cells #[.int .i64 0, .int .i64 at_] 47)).below h (by simp; omega)
        exact ⟨⟨hb.cell 0, hb.cell 1, hb.cell 2, hb.cell 3⟩, Kind.below (Kind.below HM.out (HAl.out _ _)) h, HB2.out.trans (((HAl.out (.cells #[.slice d1 m.table.length q1, .slice d2 m.sites.length q2, .slice d3 m.pool.length q3, .slice d4 m.funcs.length q4] 68) (.cells #[.int .i64 0, .int .i64 at_] 47)).trans (h.mono (HAl.out _ _).size)).mono HB2.out.size)⟩
      have hal := HAl.out (.cells #[.slice d1 m.table.length q1, .slice d2 m.sites.length q2, .slice d3 m.pool.length q3, .slice d4 m.funcs.length q4] 68) (.cells #[.int .i64 0, .int .i64 at_] 47)
      have hx3 := (HX2.out.below hal).more hal.size
      have hs := same_any A A3 c c3 bs bs w3 (hx3.below h.below) (by_reads h)
      rw [decide_eq_true rfl, ← HN.out] at hs
      have HS := Lib.hid hs
      have hn0 : ¬ (n : Int) = 0 := by omega
      clear h hal hx3 hs HE
      go_wp2_with fail
      refine HS.out.mono ?_
      rintro e w4 ⟨rfl, rfl⟩
      clear HS
      by_cases ht0 : turn = 0
      · subst ht0
        have HF := Lib.hid (HC8.out _ HY.out.below).2.2
        clear HC8 HY
        go_wp2
        go_ret
        exact ⟨rfl, HF.out⟩
      · have HP := Lib.hid (pick_any place n w3 hx1 hx2 (by omega) (by omega))
        obtain ⟨g, rfl, hnc, hg⟩ := by_form HY.out (by rw [← HN.out]; omega)
        obtain ⟨cur, hblk, htake⟩ := by_blk HY.out (by rw [← HN.out]; omega)
        have HBlk := Lib.hid (And.intro hblk htake)
        have HG := Lib.hid hg
        clear hblk htake hg
        go_wp2_with fail
        refine HP.out.mono ?_
        rintro e w4 ⟨k, rfl, hk, rfl⟩
        have hkb : k < bs.length := by rw [← HN.out]; omega
        have e0 : w3.cell? ⟨g, k, none⟩ = some (.int .u8 (bs[k].toNat : Int)) := by
          rw [HBlk.out.1.cell k]
          have h1 : (bytesV bs)[k]? = some (.int .u8 (bs[k].toNat : Int)) := by unfold bytesV; rw [List.getElem?_map, List.getElem?_eq_getElem hkb]; rfl
          rw [← HBlk.out.2, List.getElem?_take, if_pos hkb] at h1
          simpa using h1
        have f0 := HBlk.out.1.frozen k
        obtain ⟨t, rfl⟩ := Int.eq_ofNat_of_zero_le hy1
        have htn : t ≠ 0 := by omega
        have ht256 : t < 256 := by omega
        have hxr : bits .xor .u8 (bs[k].toNat : Int) (t : Int) = ((UInt8.ofNat (bs[k].toNat ^^^ t)).toNat : Int) := by
          rw [u8_xor_nat _ t bs[k].toNat_lt ht256, ofNat_nat (xor_lt _ t bs[k].toNat_lt ht256)]
        have hyx : bs.set k (UInt8.ofNat (bs[k].toNat ^^^ t)) ≠ bs := fun e => by
          have h1 := congrArg (·[k]?) e
          simp only [List.getElem?_set_self hkb, List.getElem?_eq_getElem hkb, Option.some.injEq] at h1
          have h2 := congrArg UInt8.toNat h1
          rw [ofNat_nat (xor_lt _ t bs[k].toNat_lt ht256)] at h2
          exact xor_ne _ t htn h2
        have HYX := Lib.hid hyx
        have hlen : (bs.set k (UInt8.ofNat (bs[k].toNat ^^^ t))).length = bs.length := List.length_set
        have hrd := cur_reads (HBlk.out.1.set_ k (.int .u8 ((UInt8.ofNat (bs[k].toNat ^^^ t)).toNat : Int))) (cur_set HBlk.out.2 k (UInt8.ofNat (bs[k].toNat ^^^ t)))
        have hkn : k < n := by omega
        have hd := dec_reads2 (some ⟨g, 0, none⟩) n c3 (bs.set k (UInt8.ofNat (bs[k].toNat ^^^ t))) (by rw [hlen]; exact HN.out) hrd (by rw [hlen, ← HN.out]; omega)
        have HB3 : Hid (Below ((w2.alloc (.cells #[.slice d1 m.table.length q1, .slice d2 m.sites.length q2, .slice d3 m.pool.length q3, .slice d4 m.funcs.length q4] 68)).alloc (.cells #[.int .i64 0, .int .i64 at_] 47)).heap.size ((w2.alloc (.cells #[.slice d1 m.table.length q1, .slice d2 m.sites.length q2, .slice d3 m.pool.length q3, .slice d4 m.funcs.length q4] 68)).alloc (.cells #[.int .i64 0, .int .i64 at_] 47)) (w3.setCell ⟨g, k, none⟩ (.int .u8 ((UInt8.ofNat (bs[k].toNat ^^^ t)).toNat : Int)))) := Lib.hid (HY.out.below.trans ((Only.setCell (S := (· = g)) w3 ⟨g, k, none⟩ _ rfl).below HY.out.below.size (fun b hb => by rw [hb]; exact HG.out)))
        have HFine2 := Lib.hid (@dec_fine (bs.set k (UInt8.ofNat (bs[k].toNat ^^^ t))))
        clear hlen hrd hyx
        generalize UInt8.ofNat (bs[k].toNat ^^^ t) = y at *
        generalize bs[k].toNat = x at *
        generalize bs.set k y = bs2 at *
        generalize decM bs2 = D2 at *
        obtain ⟨m2, er2, at2⟩ := D2
        have HD2 : Hid (Calls Try.prog 40 #[.slice (some ⟨g, 0, none⟩) n c3] (w3.setCell ⟨g, k, none⟩ (.int .u8 (y.toNat : Int))) fun e w' => ∃ (a b d f : Option Addr) (k1 k2 k3 k4 : Nat), e = .returned (.tuple #[.agg #[.slice a m2.table.length k1, .slice b m2.sites.length k2, .slice d m2.pool.length k3, .slice f m2.funcs.length k4], .agg #[.int .i64 er2, .int .i64 at2]]) ∧ mdK.tells w' [.slice a m2.table.length k1, .slice b m2.sites.length k2, .slice d m2.pool.length k3, .slice f m2.funcs.length k4] m2 ∧ Below (w3.setCell ⟨g, k, none⟩ (.int .u8 (y.toNat : Int))).heap.size (w3.setCell ⟨g, k, none⟩ (.int .u8 (y.toNat : Int))) w') := Lib.hid hd
        clear hd HP HBlk HY HG hk hkb
        go_wp2_with fail
        refine HD2.out.mono ?_
        rintro e w5 ⟨b1, b2, b3, b4, p1, p2, p3, p4, rfl, ht, hb⟩
        have HB5 := Lib.hid (HB3.out.trans (hb.mono HB3.out.size))
        have HT2 := Lib.hid ht
        clear hb ht HD2 HB3 e0 f0 hxr
        have HX5 : Hid (∀ o o', Below ((w2.alloc (.cells #[.slice d1 m.table.length q1, .slice d2 m.sites.length q2, .slice d3 m.pool.length q3, .slice d4 m.funcs.length q4] 68)).alloc (.cells #[.int .i64 0, .int .i64 at_] 47)).heap.size ((w2.alloc (.cells #[.slice d1 m.table.length q1, .slice d2 m.sites.length q2, .slice d3 m.pool.length q3, .slice d4 m.funcs.length q4] 68)).alloc (.cells #[.int .i64 0, .int .i64 at_] 47)) ((w5.alloc o).alloc o') ∧ Below w5.heap.size w5 ((w5.alloc o).alloc o')) := Lib.hid fun o o' => by
          have h1 : Below w5.heap.size w5 ((w5.alloc o).alloc o') := (below_alloc w5 o).trans ((below_alloc (w5.alloc o) o').mono (by simp))
          exact ⟨HB5.out.trans (h1.mono HB5.out.size), h1⟩
        have g0 := fun o o' => (HC8.out _ (HX5.out o o').1).1.1
        have g1 := fun o o' => (HC8.out _ (HX5.out o o').1).1.2.1
        have g2 := fun o o' => (HC8.out _ (HX5.out o o').1).1.2.2.1
        have g3 := fun o o' => (HC8.out _ (HX5.out o o').1).1.2.2.2
        have HS2 := Lib.hid (fun o o' => sameMd_any (W := (w5.alloc o).alloc o') (Kind.below HT2.out (HX5.out o o').2) (HC8.out _ (HX5.out o o').1).2.1)
        by_cases h2 : er2 = 0
        · have hmm : ¬ m2 = m := fun e => by
            obtain ⟨_, h3, _⟩ := HFine2.out h2
            apply HYX.out
            rw [h3, e]
            exact HEq.out.symm
          subst h2
          have HS3 : Hid (∀ o o', Calls Try.prog 42 #[.agg #[.slice b1 m2.table.length p1, .slice b2 m2.sites.length p2, .slice b3 m2.pool.length p3, .slice b4 m2.funcs.length p4], .agg #[.slice d1 m.table.length q1, .slice d2 m.sites.length q2, .slice d3 m.pool.length q3, .slice d4 m.funcs.length q4]] ((w5.alloc o).alloc o') (RetB false ((w5.alloc o).alloc o'))) := Lib.hid fun o o' => by
            have h := HS2.out o o'
            rw [decide_eq_false hmm] at h
            exact h
          clear HS2 hmm
          have HWF : Hid (∀ o o' w', Below ((w5.alloc o).alloc o').heap.size ((w5.alloc o).alloc o') w' → Below W.heap.size W w') := Lib.hid fun o o' w' h => (HC8.out _ ((HX5.out o o').1.trans (h.mono (HX5.out o o').1.size))).2.2
          go_wp2_with fail
          refine (HS3.out _ _).mono ?_
          rintro e w6 ⟨rfl, hb⟩
          have HF := Lib.hid (HWF.out _ _ _ hb)
          clear hb HS3 HWF HX5 HC8 g0 g1 g2 g3
          go_wp2_with fail
          go_ret
          exact ⟨rfl, HF.out⟩
        · have HWF : Hid (∀ o o', Below W.heap.size W ((w5.alloc o).alloc o')) := Lib.hid fun o o' => (HC8.out _ (HX5.out o o').1).2.2
          clear HS2 HX5 HC8 g0 g1 g2 g3
          go_wp2
          go_ret
          exact ⟨rfl, HWF.out _ _⟩
    · obtain ⟨hno, ha1, ha2⟩ := HBad.out he
      rw [← HN.out] at ha2
      subst hno
      have HWF : Hid (∀ o o' w', Below ((w2.alloc o).alloc o').heap.size ((w2.alloc o).alloc o') w' → Below W.heap.size W w') := Lib.hid fun o o' w' h => HB2.out.trans (((HAl.out o o').trans (h.mono (HAl.out o o').size)).mono HB2.out.size)
      have HS3 : Hid (∀ o o', Calls Try.prog 42 #[.agg #[.slice d1 0 q1, .slice d2 0 q2, .slice d3 0 q3, .slice d4 0 q4], .agg #[.slice none 0 0, .slice none 0 0, .slice none 0 0, .slice none 0 0]] ((w2.alloc o).alloc o') (RetB true ((w2.alloc o).alloc o'))) := Lib.hid fun o o' => by
        have h := sameMd_any (Kind.below HM.out (HAl.out o o')) (no_tells ((w2.alloc o).alloc o'))
        rw [decide_eq_true rfl] at h
        exact h
      have hat : at_ ≤ (n : Int) := ha2
      clear HFine HBad HT HM HX2 HB2 HAl
      go_wp2_with fail
      refine (HS3.out _ _).mono ?_
      rintro e w6 ⟨rfl, hb⟩
      have HF := Lib.hid (HWF.out _ _ _ hb)
      clear hb HS3 HWF
      go_wp2_with fail
      go_ret
      exact ⟨rfl, HF.out⟩
end Go.Proofs.Ytcapdmicekialaa
