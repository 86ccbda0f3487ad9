/- chaperonref03's writer. -/
import Derived.Test.YtcapdmicekialaaGreatOcBytes
namespace Go.Proofs.YtcapdmicekialaaGreat
open Go.RowKit
attribute [local go_sem] Oper.semAt_some run_store_func run_store_nilFunc

set_option maxHeartbeats 1600000 in
theorem refgroups_any (n : Nat) (hn : n < 18446744073709551616) (w : World) : Calls Tryz.prog 125 #[.int .u64 n] w (RetBytes (grp n) w) := by
  obtain ⟨i0, hi0, hz0, hz1, hz2⟩ := info_parts info_u8
  have HL := Lib.hid (grp_len n hn)
  go_enter Tryz.func125, Tryz.ntmps125
  go_wp2
  go_loopw [0, 3] (fun x v wr => ∃ (i m : Nat) (A : Option Addr) (c : Nat), x = .int .u64 m ∧ v = .slice A i c ∧ i ≤ (grp n).length ∧ m < 18446744073709551616 ∧ (grp n).drop i = grp m ∧ wr.ownsRow w.heap.size 5 1 (.slice A i c) i (bytesV ((grp n).take i)) ∧ Below w.heap.size w wr)
    (fun x v wr => (intOf x).toNat)
  case atStart => exact ⟨0, n, none, 0, rfl, rfl, Nat.zero_le _, hn, List.drop_zero, World.ownsRow_nil _ _ _ _, Below.refl _ _⟩
  case round =>
    obtain ⟨i, m, A, c, rfl, rfl, hi, hm, hd, hown, hb⟩ := hrel
    have hlen := HL.out
    by_cases hlt : m < 128
    · have hno : ¬ (128 : Int) ≤ (m : Int) := by omega
      rw [grp_lt hlt] at hd
      obtain ⟨hi', hxi, hdi⟩ := drop_atG hd
      have hl1 : i + 1 = (grp n).length := by
        have := congrArg List.length hdi
        rw [List.length_drop, List.length_nil] at this; omega
      have ex : ((grp n)[i].toNat : Int) = (m : Int) := by rw [hxi, ofNat_nat (by omega)]
      have ht : bytesV ((grp n).take i) ++ [Value.int .u8 (m : Int)] = bytesV (grp n) := by
        rw [← ex, bytesV_take _ i hi', List.take_of_length_le (by omega)]
      have hm8 : (m : Int) % 256 = m := by omega
      have HT := Lib.hid ht
      have HL1 := Lib.hid hl1
      have Hown := Lib.hid hown
      clear hxi hdi hd hown ht hl1 ex
      go_wp2_with (at_builtin; refine wpList_append_own _ rfl (.tmp 15) (.tmp 18) 31 rfl w.heap.size 5 i0 (.int .u8 0) 1 1 Tryz.underlying31 hi0 hz0 hz1 hz2 rfl (by decide) (.slice A i c) i (bytesV ((grp n).take i)) rfl (Hown.out.alloc _) ⟨wr.heap.size, 0, none⟩ 1 1 [.int .u8 (m : Int)] rfl rfl (cell_one_new _ _ _) (by simp [Value.oneCell']) (by simp only [maxLen]; omega) (by omega) (by have := hb.size; simp; omega) ?_; intro v' w1 hown' hgrow _; rw [HT.out, HL1.out] at hown'; obtain ⟨A', c', rfl, _⟩ := own_form hown')
      go_ret
      refine ⟨A', c', rfl, hown', ?_⟩
      exact (hb.alloc hb.size _).grown hgrow (by have := hb.size; simp; omega) (fun k hk => (World.ownsRow.lt Hown.out k hk).1)
    · have hyes : (128 : Int) ≤ (m : Int) := by omega
      rw [grp_ge hlt] at hd
      obtain ⟨hi', hxi, hdi⟩ := drop_atG hd
      have ex : ((grp n)[i].toNat : Int) = (m : Int) % 128 + 128 := by rw [hxi, ofNat_nat (by omega)]; omega
      have ht : bytesV ((grp n).take i) ++ [Value.int .u8 ((m : Int) % 128 + 128)] = bytesV ((grp n).take (i + 1)) := by
        rw [← ex, bytesV_take _ i hi']
      have HD := Lib.hid hdi
      have HT := Lib.hid ht
      have Hown := Lib.hid hown
      clear hxi hdi hd hown ht ex
      go_wp2_with (at_builtin; refine wpList_append_own _ rfl (.tmp 6) (.tmp 11) 31 rfl w.heap.size 5 i0 (.int .u8 0) 1 1 Tryz.underlying31 hi0 hz0 hz1 hz2 rfl (by decide) (.slice A i c) i (bytesV ((grp n).take i)) rfl (Hown.out.alloc _) ⟨wr.heap.size, 0, none⟩ 1 1 [.int .u8 ((m : Int) % 128 + 128)] rfl rfl (cell_one_new _ _ _) (by simp [Value.oneCell']) (by simp only [maxLen]; omega) (by omega) (by have := hb.size; simp; omega) ?_; intro v' w1 hown' hgrow _; rw [HT.out] at hown'; obtain ⟨A', c', rfl, _⟩ := own_form hown')
      go_roundw
      case rel => exact ⟨i + 1, m / 128, A', c', rfl, rfl, by omega, by omega, HD.out, hown', (hb.alloc hb.size _).grown hgrow (by have := hb.size; simp; omega) (fun k hk => (World.ownsRow.lt Hown.out k hk).1)⟩
      case measure => simp [intOf]; omega
/-- A writer of the reference. -/
structure Rw (w : World) (p : Nat) (most : Int) (bs : List UInt8) (bad : Int) (v : Value) : Prop where
  blk : Blk w p 148 #[v, .int .i64 most, .int .i64 bad]
  own : w.ownsRow 0 5 1 v bs.length (bytesV bs)
  m0 : 0 ≤ most
  m1 : most ≤ 2147483647
  m2 : (bs.length : Int) ≤ most
theorem Rw.keep {w w' : World} {p : Nat} {most bad : Int} {bs : List UInt8} {v : Value} {S : Nat → Prop} (h : Rw w p most bs bad v) (ho : Only S w w') (hS : ∀ b, foot p v b → ¬ S b) : Rw w' p most bs bad v :=
  ⟨(ho.block p h.blk.lt (hS p (.inl rfl))).trans h.blk, own_only ho h.own (fun g _ hg => hS g (.inr hg.symm)), h.m0, h.m1, h.m2⟩
def RStep (p : Nat) (most : Int) (v : Value) (r : List UInt8 × Int) (w : World) (e : Ending) (w' : World) : Prop :=
  e = .returned (.int .i64 r.2) ∧ ∃ v', Rw w' p most r.1 r.2 v' ∧ Only (foot p v) w w' ∧ near v v' w
theorem RStep.from_ {p : Nat} {most : Int} {v : Value} {r : List UInt8 × Int} {w w1 w' : World} {e : Ending} (ho : Only (fun _ => False) w w1) (h : RStep p most v r w1 e w') : RStep p most v r w e w' := by
  obtain ⟨he, v', h1, h2, h3⟩ := h
  refine ⟨he, v', h1, (ho.mono fun _ h => h.elim).trans h2, ?_⟩
  rcases h3 with h | ⟨g, hg, hl⟩
  · exact .inl h
  · exact .inr ⟨g, hg, by have := ho.size; omega⟩
theorem Rw.set_bad {w : World} {p : Nat} {most bad : Int} {bs : List UInt8} {v : Value} (h : Rw w p most bs bad v) (b : Int) : Rw (w.setCell ⟨p, 2, none⟩ (.int .i64 b)) p most bs b v ∧ Only (foot p v) w (w.setCell ⟨p, 2, none⟩ (.int .i64 b)) := by
  have ho := Only.setCell (S := (· = p)) w ⟨p, 2, none⟩ (.int .i64 b) rfl
  have hne := own_blk_ne h.own h.blk (by decide)
  exact ⟨⟨h.blk.set_ 2 _, own_only ho h.own (fun g _ hg e => hne (by rw [hg, e])), h.m0, h.m1, h.m2⟩, ho.mono (fun b hb => .inl hb)⟩
theorem Rw.set_own {w w1 : World} {p : Nat} {most bad : Int} {bs ys : List UInt8} {v v' : Value} (h : Rw w p most bs bad v) (hg : w.grownBy w1 v.ownBlock) (ho : w1.ownsRow 0 5 1 v' ys.length (bytesV ys)) (hl : (ys.length : Int) ≤ most) :
    Rw (w1.setCell ⟨p, 0, none⟩ v') p most ys bad v' ∧ Only (foot p v) w (w1.setCell ⟨p, 0, none⟩ v') := by
  have hne := own_blk_ne h.own h.blk (by decide)
  have hb1 : Blk w1 p 148 #[v, .int .i64 most, .int .i64 bad] := h.blk.grown hg (fun e => hne e.symm)
  have hne1 := own_blk_ne ho hb1 (by decide)
  have h1 := Only.setCell (S := (· = p)) w1 ⟨p, 0, none⟩ v' rfl
  refine ⟨⟨hb1.set_ 0 _, own_only h1 ho (fun g _ hg e => hne1 (by rw [hg, e])), h.m0, h.m1, hl⟩, ?_⟩
  exact ((Only.grown hg).mono fun b hb => .inr hb).trans (h1.mono fun b hb => .inl hb)
set_option maxHeartbeats 800000 in
theorem lay_bad (p : Nat) (may : Bool) (x : Value) (most bad : Int) (bs xs : List UInt8) (v : Value) (w : World) (h : Rw w p most bs bad v) (hb : (bad != 0) = true) :
    Calls Tryz.prog 124 #[.pointer (some ⟨p, 0, none⟩), x, .bool may] w (RStep p most v (wr1 most bs bad may xs) w) := by
  have hr : wr1 most bs bad may xs = (bs, bad) := by unfold wr1; rw [if_pos (by simpa using hb)]
  rw [hr]
  have c2 := h.blk.cell 2
  simp at c2
  have H := Lib.hid h
  clear h hr
  go_enter Tryz.func124, Tryz.ntmps124
  go_wp2_with fail
  go_ret
  exact ⟨rfl, v, H.out, Only.refl _ _, near.refl _ _⟩
set_option maxHeartbeats 800000 in
theorem lay_no (p : Nat) (x : Value) (most : Int) (bs xs : List UInt8) (v : Value) (w : World) (h : Rw w p most bs 0 v) :
    Calls Tryz.prog 124 #[.pointer (some ⟨p, 0, none⟩), x, .bool false] w (RStep p most v (wr1 most bs 0 false xs) w) := by
  have hr : wr1 most bs 0 false xs = (bs, 3) := rfl
  rw [hr]
  have c2 := h.blk.cell 2
  have f2 := h.blk.frozen 2
  simp at c2
  obtain ⟨h1, h2⟩ := h.set_bad 3
  have c4 := h1.blk.cell 2
  simp at c4
  have H1 := Lib.hid h1
  clear h hr h1
  go_enter Tryz.func124, Tryz.ntmps124
  go_wp2_with fail
  go_ret
  exact ⟨rfl, v, H1.out, h2, near.refl _ _⟩
set_option maxHeartbeats 800000 in
theorem lay_long (p : Nat) (A : Option Addr) (c : Nat) (most : Int) (bs xs : List UInt8) (v : Value) (w : World) (h : Rw w p most bs 0 v) (hl : most - bs.length < (xs.length : Int)) (hx : xs.length ≤ 140737488355328) :
    Calls Tryz.prog 124 #[.pointer (some ⟨p, 0, none⟩), .slice A xs.length c, .bool true] w (RStep p most v (wr1 most bs 0 true xs) w) := by
  have hr : wr1 most bs 0 true xs = (bs, 4) := by unfold wr1; rw [if_neg (by decide), if_neg (by decide), if_pos hl]
  rw [hr]
  obtain ⟨Av, cv, rfl, _⟩ := own_form h.own
  have c0 := h.blk.cell 0
  have c1 := h.blk.cell 1
  have c2 := h.blk.cell 2
  have f2 := h.blk.frozen 2
  simp at c0 c1 c2
  obtain ⟨h1, h2⟩ := h.set_bad 4
  have c4 := h1.blk.cell 2
  simp at c4
  have m0 := h.m0
  have m1 := h.m1
  have m2 := h.m2
  have hw : IntKind.i64.wrap (most - (bs.length : Int)) = most - (bs.length : Int) := IntWalk.i64_in _ (by omega)
  have H := Lib.hid h
  clear h hr h1
  go_enter Tryz.func124, Tryz.ntmps124
  go_wp2_with fail
  go_quiet (fail)
  go_wp2_with fail
  go_ret
  obtain ⟨k1, k2⟩ := (H.out.keep (Only.drewN (fun _ => False) w nq) (fun _ _ h => h)).set_bad 4
  exact ⟨rfl, _, k1, (Only.drewN _ _ _).trans k2, near.refl _ _⟩
set_option maxRecDepth 100000 in
set_option maxHeartbeats 800000 in
theorem lay_fits (p : Nat) (A : Option Addr) (c : Nat) (most : Int) (bs xs : List UInt8) (v : Value) (w : World) (h : Rw w p most bs 0 v) (hl : ¬ most - bs.length < (xs.length : Int)) (hx : Reads w w.heap.size 1 A xs.length (bytesV xs)) :
    Calls Tryz.prog 124 #[.pointer (some ⟨p, 0, none⟩), .slice A xs.length c, .bool true] w (RStep p most v (wr1 most bs 0 true xs) w) := by
  have hr : wr1 most bs 0 true xs = (bs ++ xs, 0) := by unfold wr1; rw [if_neg (by decide), if_neg (by decide), if_neg hl]
  rw [hr]
  obtain ⟨Av, cv, rfl, _⟩ := own_form h.own
  have c0 := h.blk.cell 0
  have c1 := h.blk.cell 1
  have c2 := h.blk.cell 2
  have f2 := h.blk.frozen 2
  simp at c0 c1 c2
  have m0 := h.m0
  have m1 := h.m1
  have m2 := h.m2
  have hw : IntKind.i64.wrap (most - (bs.length : Int)) = most - (bs.length : Int) := IntWalk.i64_in _ (by omega)
  have H := Lib.hid h
  have Hx := Lib.hid hx
  clear h hr hx
  obtain ⟨i0, hi0, hz0, hz1, hz2⟩ := info_parts info_u8
  go_enter Tryz.func124, Tryz.ntmps124
  go_wp2_with fail
  go_quiet (fail)
  have hO := Only.drewN (fun _ => False) w nq
  have HW := Lib.hid (H.out.keep hO (fun _ _ h => h))
  have HxW := Lib.hid (Hx.out.drewN nq)
  have hzW : (w.drewN nq).heap.size = w.heap.size := rfl
  clear H Hx c0 c1 c2 f2
  generalize w.drewN nq = W at *
  have HownW := Lib.hid HW.out.own
  have hzW' := Nat.le_of_eq hzW
  clear hzW
  have c0 := HW.out.blk.cell 0
  simp at c0
  go_wp2_with (at_builtin; refine wpList_append_any _ rfl (.tmp 11) (.tmp 12) _ rfl 0 5 i0 _ 1 1 Tryz.underlying31 hi0 hz0 hz1 hz2 rfl (by decide) (.slice Av bs.length cv) bs.length (bytesV bs) rfl HownW.out _ A xs.length c (bytesV xs) rfl HxW.out (bytesV_one xs) (by simp only [maxLen]; omega) (by omega) (Nat.zero_le _) ?_; intro v' w1 hown' hgrow hat; clear c0; obtain ⟨A', c', rfl, _⟩ := own_form hown'; have hb1 := HW.out.blk.grown hgrow (fun e => own_blk_ne HW.out.own HW.out.blk (by decide) e.symm); have c0 := hb1.cell 0; have f0 := hb1.frozen 0; have c2 := hb1.cell 2; clear hb1; simp at c0 c2)
  go_ret
  obtain ⟨k1, k2⟩ := HW.out.set_own (ys := bs ++ xs) hgrow (by rw [List.length_append, bytesV_app]; exact hown') (by rw [List.length_append]; omega)
  refine ⟨rfl, _, k1, hO.mono (fun _ h => h.elim) |>.trans k2, ?_⟩
  rcases hat with h | h
  · exact .inl h
  · exact .inr ⟨_, h, by have := hO.size; omega⟩
theorem lay_any (p : Nat) (may : Bool) (A : Option Addr) (c : Nat) (most bad : Int) (bs xs : List UInt8) (v : Value) (w : World) (h : Rw w p most bs bad v) (hx : Reads w w.heap.size 1 A xs.length (bytesV xs)) (hl : xs.length ≤ 140737488355328) :
    Calls Tryz.prog 124 #[.pointer (some ⟨p, 0, none⟩), .slice A xs.length c, .bool may] w (RStep p most v (wr1 most bs bad may xs) w) := by
  by_cases hb : bad = 0
  · subst hb
    cases may with
    | false => exact lay_no p _ most bs xs v w h
    | true =>
      by_cases hm : most - bs.length < (xs.length : Int)
      · exact lay_long p A c most bs xs v w h hm hl
      · exact lay_fits p A c most bs xs v w h hm hx
  · exact lay_bad p may _ most bad bs xs v w h (by simpa using hb)
theorem lay_part (p : Nat) (most bad : Int) (bs : List UInt8) (v : Value) (w : World) (H : Hid (Rw w p most bs bad v)) (may : Bool) (m : Nat) (hm : m < 18446744073709551616) (w1 : World) (A : Option Addr) (c : Nat)
    (ho : w1.ownsRow w.heap.size 5 1 (.slice A (grp m).length c) (grp m).length (bytesV (grp m))) (hb : Below w.heap.size w w1) :
    Calls Tryz.prog 124 #[.pointer (some ⟨p, 0, none⟩), .slice A (grp m).length c, .bool may] w1 (RStep p most v (wr1 most bs bad may (grp m)) w) :=
  (lay_any p may A c most bad bs (grp m) v w1 (H.out.keep (only_below hb) (fun _ _ h => h)) (Reads.of_own ho) (by have := grp_len m hm; omega)).mono fun _ _ h => h.from_ (only_below hb)
end Go.Proofs.YtcapdmicekialaaGreat
