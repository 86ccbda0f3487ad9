/- CodecDecodes, walked. -/
import Derived.Test.YtcapdmicekialaaGreatCoOver2
import Derived.Test.YtcapdmicekialaaGreatCoKept
import Derived.Test.YtcapdmicekialaaGreatCoKnAll
namespace Go.Proofs.YtcapdmicekialaaGreat
open Go.RowKit
set_option linter.unusedVariables false
set_option linter.unusedSimpArgs false
attribute [local go_sem] Oper.semAt_some run_store_func run_store_nilFunc
section
variable {N : Nat} {w0 W w' : World} {R a : Thing}
theorem md_form {cs : List Value} {x : Md} (H : Lies N w0 W (sepT (mdT.el cs x) R)) : ∃ (A B C D : Option Addr) (k1 k2 k3 k4 : Nat), cs = [.slice A x.table.length k1, .slice B x.sites.length k2, .slice C x.pool.length k3, .slice D x.funcs.length k4] := by
  obtain ⟨a, b, c, d, rfl, h⟩ := md_parts H
  obtain ⟨A, k1, rfl, _⟩ := clT.sl_form h
  obtain ⟨B, k2, rfl, _⟩ := stT.sl_form h.drop
  obtain ⟨C, k3, rfl, _⟩ := txT.sl_form h.drop.drop
  obtain ⟨D, k4, rfl, _⟩ := fuT.sl_form h.drop.drop.drop
  exact ⟨A, B, C, D, k1, k2, k3, k4, rfl⟩
theorem md_tells {cs : List Value} {m : Md} (H : Lies N w0 W (sepT (mdT.el cs m) R)) : mdK.tells W cs m := by
  obtain ⟨M, h1, h2⟩ := mdT.told H
  exact Kind.one h2 ⟨_, h1⟩
theorem lies_row {e : TypeId} {size n : Nat} {v : Value} {xs : List Value} (ho : w'.ownsRow W.heap.size e size v n xs) (hb : Below W.heap.size W w') : Lies W.heap.size W w' (sepT (rowT e size v n xs) empT) := by
  rw [sep_empT]
  refine ⟨⟨_, ⟨ho.mono (Nat.zero_le _), rfl⟩, fun b hb' => ?_⟩, hb, Nat.le_refl _⟩
  exact (World.ownsRow.lt ho b hb'.symm).1
set_option maxRecDepth 100000 in
set_option maxHeartbeats 3200000 in
theorem decs_any (A : Option Addr) (c : Nat) (bs : List UInt8) (W : World) (hx : Reads W W.heap.size 1 A bs.length (bytesV bs)) (hc : bs.length ≤ c) : Calls Tryz.prog 4 #[.slice A bs.length c] W (RetB true W) := by
  by_cases hlong : 3000 < bs.length
  · obtain ⟨n, hn⟩ : ∃ n, n = bs.length := ⟨_, rfl⟩
    rw [← hn] at hlong ⊢
    have hlong' : (3000 : Int) < (n : Int) := by omega
    clear hx hc hn
    go_enter Tryz.func4, Tryz.ntmps4
    go_wp2_with fail
    refine (awake_any W).mono ?_
    rintro e w1 ⟨rfl, hb⟩
    have HB := Lib.hid hb
    clear hb
    go_wp2_with fail
    go_ret
    exact ⟨rfl, HB.out⟩
  · have HL := Lib.hid (lent_any A c bs W hx (by omega))
    have HX := Lib.hid hx
    have HCap := Lib.hid (And.intro hc hlong)
    obtain ⟨n, hn⟩ : ∃ n, n = bs.length := ⟨_, rfl⟩
    have HN := Lib.hid hn
    have hlong' : ¬ (3000 : Int) < (n : Int) := by omega
    rw [← hn] at HL ⊢
    clear hx hc hn hlong
    go_enter Tryz.func4, Tryz.ntmps4
    go_wp2_with fail
    refine HL.out.mono ?_
    rintro e w1 ⟨A1, c1, rfl, hrow, hb⟩
    have h1 := lies_row hrow hb
    obtain ⟨g, rfl⟩ := row_addr hrow (by omega)
    rw [HN.out] at hrow
    obtain ⟨hcap, hr1, hr2⟩ := kept_parts rfl hrow
    have HD := Lib.hid (dec_any (some ⟨g, 0, none⟩) c1 bs hr1 (by have := HCap.out; omega) h1)
    rw [← HN.out] at HD
    clear hrow hb h1 hcap hr1 hr2 HL
    go_wp2_with fail
    refine HD.out.mono ?_
    rintro e w2 ⟨cs, rfl, h⟩
    obtain ⟨B1, B2, B3, B4, k1, k2, k3, k4, rfl⟩ := md_form h
    have hs : Src0 W.heap.size W A c bs := ⟨HX.out, by have := HCap.out; omega, HCap.out.1⟩
    have HD2 : Hid (∀ w' R', Lies W.heap.size W w' R' → Calls Tryz.prog _ #[.slice A n c] w' (DecE W.heap.size W R' bs)) := Lib.hid fun w' R' h => by
      have := xdec_any hs h
      rw [← HN.out] at this
      exact this
    unfold DecE at HD2
    clear HD hs
    generalize decM bs = D at *
    obtain ⟨m, er, at_⟩ := D
    obtain ⟨l1, hl1⟩ : ∃ k, k = m.table.length := ⟨_, rfl⟩
    obtain ⟨l2, hl2⟩ : ∃ k, k = m.sites.length := ⟨_, rfl⟩
    obtain ⟨l3, hl3⟩ : ∃ k, k = m.pool.length := ⟨_, rfl⟩
    obtain ⟨l4, hl4⟩ : ∃ k, k = m.funcs.length := ⟨_, rfl⟩
    have h2 := (h.newBlk 27 #[.slice B1 m.table.length k1, .slice B2 m.sites.length k2, .slice B3 m.pool.length k3, .slice B4 m.funcs.length k4]).newBlk 40 #[.int .i64 er, .int .i64 at_]
    rw [show (w2.alloc (.cells #[.slice B1 m.table.length k1, .slice B2 m.sites.length k2, .slice B3 m.pool.length k3, .slice B4 m.funcs.length k4] 27)).heap.size = w2.heap.size + 1 by simp] at h2
    have HD3 := Lib.hid (HD2.out _ _ h2)
    simp only [← hl1, ← hl2, ← hl3, ← hl4] at HD3 ⊢
    have HLn := Lib.hid (And.intro hl1 (And.intro hl2 (And.intro hl3 hl4)))
    clear h h2 HD2 hl1 hl2 hl3 hl4
    go_wp2_with fail
    refine HD3.out.mono ?_
    rintro e w3 ⟨cs, rfl, h⟩
    obtain ⟨C1, C2, C3, C4, j1, j2, j3, j4, rfl⟩ := md_form h
    rw [← HLn.out.1, ← HLn.out.2.1, ← HLn.out.2.2.1, ← HLn.out.2.2.2] at h
    have h3 := (h.newBlk 27 #[.slice C1 l1 j1, .slice C2 l2 j2, .slice C3 l3 j3, .slice C4 l4 j4]).newBlk 40 #[.int .i64 er, .int .i64 at_]
    rw [show (w3.alloc (.cells #[.slice C1 l1 j1, .slice C2 l2 j2, .slice C3 l3 j3, .slice C4 l4 j4] 27)).heap.size = w3.heap.size + 1 by simp] at h3
    rw [← HLn.out.1, ← HLn.out.2.1, ← HLn.out.2.2.1, ← HLn.out.2.2.2]
    have hb4 := h3.blk.1
    have hb3 := h3.drop.blk.1
    have hb2 := h3.drop.drop.drop.blk.1
    have hb1 := h3.drop.drop.drop.drop.blk.1
    have HBk := Lib.hid (And.intro hb1 (And.intro hb2 (And.intro hb3 hb4)))
    have a0 := hb1.cell 0
    have a1 := hb1.cell 1
    have a2 := hb1.cell 2
    have a3 := hb1.cell 3
    have b0 := hb3.cell 0
    have b1 := hb3.cell 1
    have b2 := hb3.cell 2
    have b3 := hb3.cell 3
    simp at a0 a1 a2 a3 b0 b1 b2 b3
    have hm1 := md_tells (h3.drop.drop)
    have hm2 := md_tells (h3.drop.drop.drop.drop.drop)
    have hsm := sameMd_any hm2 hm1
    rw [decide_eq_true rfl] at hsm
    have HSm := Lib.hid hsm
    have HH := Lib.hid h3
    clear h h3 hb1 hb2 hb3 hb4 hm1 hm2 hsm HD3
    go_wp2_with fail
    refine HSm.out.mono ?_
    rintro e w4 ⟨rfl, hb⟩
    have h4 := HH.out.calm hb
    obtain ⟨hb1, hb2, hb3, hb4⟩ := HBk.out
    have hb1 := hb1.below hb hb1.lt
    have hb2 := hb2.below hb hb2.lt
    have hb4 := hb4.below hb hb4.lt
    clear a0 a1 a2 a3 b0 b1 b2 b3
    have a0 := hb1.cell 0
    have a1 := hb1.cell 1
    have a2 := hb1.cell 2
    have a3 := hb1.cell 3
    have d0 := hb2.cell 0
    have d1 := hb2.cell 1
    have e0 := hb4.cell 0
    have e1 := hb4.cell 1
    simp at a0 a1 a2 a3 d0 d1 e0 e1
    have h5 := h4.drop.drop.drop.drop.drop
    have HO := Lib.hid (overMd_any h5)
    clear hb1 hb2 hb4 h4 h5 hb HH HBk HSm
    go_wp2_with fail
    refine HO.out.mono ?_
    rintro e w5 ⟨rfl, h⟩
    have hk := kept_any (c := c1) (cb := c) (by have := HCap.out; omega) (by rw [← HN.out]; exact h.row) (HX.out.below h.below |>.more h.size)
    rw [← HN.out] at hk
    have HK := Lib.hid hk
    have HB5 := Lib.hid h.below
    clear hk h HO a0 a1 a2 a3 d0 d1 e0 e1
    go_wp2_with fail
    refine HK.out.mono ?_
    rintro e w6 ⟨rfl, hb⟩
    have HB6 := Lib.hid (HB5.out.trans (hb.mono HB5.out.size))
    clear hb HK
    go_wp2_with fail
    refine (awake_any w6).mono ?_
    rintro e w7 ⟨rfl, hb⟩
    have HB7 := Lib.hid (HB6.out.trans (hb.mono HB6.out.size))
    clear hb
    go_wp2_with fail
    go_ret
    exact ⟨rfl, HB7.out⟩
end
end Go.Proofs.YtcapdmicekialaaGreat
