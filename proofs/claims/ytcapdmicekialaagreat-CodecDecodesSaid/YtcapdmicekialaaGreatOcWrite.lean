/- octet.Writer: what it holds; write. -/
import Derived.Test.YtcapdmicekialaaGreatOcIter
import Derived.BigQuiet
import Derived.IntWalk
namespace Go.Proofs.YtcapdmicekialaaGreat
open Go.RowKit
attribute [local go_sem] Oper.semAt_some run_store_func run_store_nilFunc

/-- What a writer comes to when bytes are to be written. -/
def wr1 (most : Int) (bs : List UInt8) (bad : Int) (may : Bool) (xs : List UInt8) : List UInt8 × Int :=
  if bad ≠ 0 then (bs, bad) else if may = false then (bs, 3) else if most - bs.length < (xs.length : Int) then (bs, 4) else (bs ++ xs, 0)
/-- A thing's blocks: its own and its row's. -/
def foot (p : Nat) (v : Value) (b : Nat) : Prop := b = p ∨ some b = v.ownBlock
/-- A writer that was made. -/
structure Wr (w : World) (p : Nat) (most : Int) (bs : List UInt8) (bad : Int) (v : Value) : Prop where
  blk : Blk w p 133 #[.int .i64 most, v, .int .i64 bad, .bool true]
  own : w.ownsRow 0 5 1 v bs.length (bytesV bs)
  m0 : 0 ≤ most
  m1 : most ≤ 2147483647
  m2 : (bs.length : Int) ≤ most
theorem Wr.keep {w w' : World} {p : Nat} {most bad : Int} {bs : List UInt8} {v : Value} {S : Nat → Prop} (h : Wr w p most bs bad v) (ho : Only S w w') (hS : ∀ b, foot p v b → ¬ S b) : Wr w' p most bs bad v :=
  ⟨(ho.block p h.blk.lt (hS p (.inl rfl))).trans h.blk, own_only ho h.own (fun g _ hg => hS g (.inr hg.symm)), h.m0, h.m1, h.m2⟩
/-- Where a row lies behind an append: where it lay, or in a new block. -/
def near (v v' : Value) (w : World) : Prop := v'.ownBlock = v.ownBlock ∨ ∃ g, v'.ownBlock = some g ∧ w.heap.size ≤ g
theorem near.refl (v : Value) (w : World) : near v v w := .inl rfl
def WStep (p : Nat) (most : Int) (v : Value) (r : List UInt8 × Int) (w : World) (e : Ending) (w' : World) : Prop :=
  e = .returned (.int .i64 r.2) ∧ ∃ v', Wr w' p most r.1 r.2 v' ∧ Only (foot p v) w w' ∧ near v v' w
theorem none_made (p : Nat) (w : World) (h : w.cell? ⟨p, 3, none⟩ = some (.bool true)) : Calls Tryz.prog 93 #[.pointer (some ⟨p, 0, none⟩)] w fun e w' => e = .returned (.bool false) ∧ w = w' := by
  go_enter Tryz.func93, Tryz.ntmps93
  go_wp2
  go_ret
  exact ⟨rfl, rfl⟩
set_option maxHeartbeats 800000 in
theorem write_bad (p : Nat) (may : Bool) (x : Value) (most bad : Int) (bs xs : List UInt8) (v : Value) (w : World) (h : Wr w p most bs bad v) (hb : (bad != 0) = true) :
    Calls Tryz.prog 83 #[.pointer (some ⟨p, 0, none⟩), .bool may, x] w (WStep p most v (wr1 most bs bad may xs) w) := by
  have hr : wr1 most bs bad may xs = (bs, bad) := by unfold wr1; rw [if_pos (by simpa using hb)]
  rw [hr]
  have c2 := h.blk.cell 2
  have c3 := h.blk.cell 3
  simp at c2 c3
  have H := Lib.hid h
  clear h hr
  go_enter Tryz.func83, Tryz.ntmps83
  go_wp2_with fail
  refine (none_made p w c3).mono ?_
  rintro e w' ⟨rfl, rfl⟩
  go_wp2_with fail
  go_ret
  exact ⟨rfl, v, H.out, Only.refl _ _, near.refl _ _⟩
theorem Wr.set_bad {w : World} {p : Nat} {most bad : Int} {bs : List UInt8} {v : Value} (h : Wr w p most bs bad v) (b : Int) : Wr (w.setCell ⟨p, 2, none⟩ (.int .i64 b)) p most bs b v ∧ Only (foot p v) w (w.setCell ⟨p, 2, none⟩ (.int .i64 b)) := by
  have ho := Only.setCell (S := (· = p)) w ⟨p, 2, none⟩ (.int .i64 b) rfl
  have hne := own_blk_ne h.own h.blk (by decide)
  exact ⟨⟨h.blk.set_ 2 _, own_only ho h.own (fun g _ hg e => hne (by rw [hg, e])), h.m0, h.m1, h.m2⟩, ho.mono (fun b hb => .inl hb)⟩
theorem Wr.set_own {w w1 : World} {p : Nat} {most bad : Int} {bs ys : List UInt8} {v v' : Value} (h : Wr w p most bs bad v) (hg : w.grownBy w1 v.ownBlock) (ho : w1.ownsRow 0 5 1 v' ys.length (bytesV ys)) (hl : (ys.length : Int) ≤ most) :
    Wr (w1.setCell ⟨p, 1, none⟩ v') p most ys bad v' ∧ Only (foot p v) w (w1.setCell ⟨p, 1, none⟩ v') := by
  have hne := own_blk_ne h.own h.blk (by decide)
  have hb1 : Blk w1 p 133 #[.int .i64 most, v, .int .i64 bad, .bool true] := h.blk.grown hg (fun e => hne e.symm)
  have hne1 := own_blk_ne ho hb1 (by decide)
  have h1 := Only.setCell (S := (· = p)) w1 ⟨p, 1, none⟩ v' rfl
  refine ⟨⟨hb1.set_ 1 _, own_only h1 ho (fun g _ hg e => hne1 (by rw [hg, e])), h.m0, h.m1, hl⟩, ?_⟩
  exact ((Only.grown hg).mono fun b hb => .inr hb).trans (h1.mono fun b hb => .inl hb)
set_option maxHeartbeats 800000 in
theorem write_no (p : Nat) (x : Value) (most : Int) (bs xs : List UInt8) (v : Value) (w : World) (h : Wr w p most bs 0 v) :
    Calls Tryz.prog 83 #[.pointer (some ⟨p, 0, none⟩), .bool false, x] w (WStep p most v (wr1 most bs 0 false xs) w) := by
  have hr : wr1 most bs 0 false xs = (bs, 3) := rfl
  rw [hr]
  have c2 := h.blk.cell 2
  have c3 := h.blk.cell 3
  have f2 := h.blk.frozen 2
  simp at c2 c3
  obtain ⟨h1, h2⟩ := h.set_bad 3
  have c4 := h1.blk.cell 2
  simp at c4
  have H1 := Lib.hid h1
  clear h hr h1
  go_enter Tryz.func83, Tryz.ntmps83
  go_wp2_with fail
  refine (none_made p w c3).mono ?_
  rintro e w' ⟨rfl, rfl⟩
  go_wp2_with fail
  go_ret
  exact ⟨rfl, v, H1.out, h2, near.refl _ _⟩
set_option maxHeartbeats 800000 in
theorem write_long (p : Nat) (A : Option Addr) (c : Nat) (most : Int) (bs xs : List UInt8) (v : Value) (w : World) (h : Wr w p most bs 0 v) (hl : most - bs.length < (xs.length : Int)) (hx : xs.length ≤ 140737488355328) :
    Calls Tryz.prog 83 #[.pointer (some ⟨p, 0, none⟩), .bool true, .slice A xs.length c] w (WStep p most v (wr1 most bs 0 true xs) w) := by
  have hr : wr1 most bs 0 true xs = (bs, 4) := by unfold wr1; rw [if_neg (by decide), if_neg (by decide), if_pos hl]
  rw [hr]
  obtain ⟨Av, cv, rfl, _⟩ := own_form h.own
  have c0 := h.blk.cell 0
  have c1 := h.blk.cell 1
  have c2 := h.blk.cell 2
  have c3 := h.blk.cell 3
  have f2 := h.blk.frozen 2
  simp at c0 c1 c2 c3
  obtain ⟨h1, h2⟩ := h.set_bad 4
  have c4 := h1.blk.cell 2
  simp at c4
  have m0 := h.m0
  have m1 := h.m1
  have m2 := h.m2
  have hw : IntKind.i64.wrap (most - (bs.length : Int)) = most - (bs.length : Int) := IntWalk.i64_in _ (by omega)
  have H := Lib.hid h
  clear h hr h1
  go_enter Tryz.func83, Tryz.ntmps83
  go_wp2_with fail
  refine (none_made p w c3).mono ?_
  rintro e w' ⟨rfl, rfl⟩
  go_wp2_with fail
  go_quiet (fail)
  go_wp2_with fail
  go_ret
  obtain ⟨k1, k2⟩ := (H.out.keep (Only.drewN (fun _ => False) w nq) (fun _ _ h => h)).set_bad 4
  exact ⟨rfl, _, k1, (Only.drewN _ _ _).trans k2, near.refl _ _⟩
set_option maxRecDepth 100000 in
set_option maxHeartbeats 800000 in
theorem write_fits (p : Nat) (A : Option Addr) (c : Nat) (most : Int) (bs xs : List UInt8) (v : Value) (w : World) (h : Wr w p most bs 0 v) (hl : ¬ most - bs.length < (xs.length : Int)) (hx : Reads w w.heap.size 1 A xs.length (bytesV xs)) :
    Calls Tryz.prog 83 #[.pointer (some ⟨p, 0, none⟩), .bool true, .slice A xs.length c] w (WStep p most v (wr1 most bs 0 true xs) w) := by
  have hr : wr1 most bs 0 true xs = (bs ++ xs, 0) := by unfold wr1; rw [if_neg (by decide), if_neg (by decide), if_neg hl]
  rw [hr]
  obtain ⟨Av, cv, rfl, _⟩ := own_form h.own
  have c0 := h.blk.cell 0
  have c1 := h.blk.cell 1
  have c2 := h.blk.cell 2
  have c3 := h.blk.cell 3
  have f2 := h.blk.frozen 2
  simp at c0 c1 c2 c3
  have m0 := h.m0
  have m1 := h.m1
  have m2 := h.m2
  have hw : IntKind.i64.wrap (most - (bs.length : Int)) = most - (bs.length : Int) := IntWalk.i64_in _ (by omega)
  have hlen : (bytesV xs).length = xs.length := bytesV_len xs
  have hown := h.own
  have hne := own_blk_ne hown h.blk (by decide)
  have H := Lib.hid h
  have Hx := Lib.hid hx
  have Hown := Lib.hid hown
  clear h hr hx hown hlen
  obtain ⟨i0, hi0, hz0, hz1, hz2⟩ := info_parts info_u8
  go_enter Tryz.func83, Tryz.ntmps83
  go_wp2_with fail
  refine (none_made p w c3).mono ?_
  rintro e w' ⟨rfl, rfl⟩
  go_wp2_with fail
  go_quiet (fail)
  have hO := Only.drewN (fun _ => False) w nq
  have HW := Lib.hid (H.out.keep hO (fun _ _ h => h))
  have HxW := Lib.hid (Hx.out.drewN nq)
  have hzW : (w.drewN nq).heap.size = w.heap.size := rfl
  clear H Hx Hown c0 c1 c2 c3 f2 hne
  generalize w.drewN nq = W at *
  have HownW := Lib.hid HW.out.own
  have hzW' := Nat.le_of_eq hzW
  clear hzW
  have c1 := HW.out.blk.cell 1
  simp at c1
  go_wp2_with (at_builtin; refine wpList_append_any _ rfl (.tmp 11) (.tmp 12) _ rfl 0 5 i0 _ 1 1 Tryz.underlying31 hi0 hz0 hz1 hz2 rfl (by decide) (.slice Av bs.length cv) bs.length (bytesV bs) rfl HownW.out _ A xs.length c (bytesV xs) rfl HxW.out (bytesV_one xs) (by simp only [maxLen]; omega) (by omega) (Nat.zero_le _) ?_; intro v' w1 hown' hgrow hat; clear c1; obtain ⟨A', c', rfl, _⟩ := own_form hown'; have hb1 := HW.out.blk.grown hgrow (fun e => own_blk_ne HW.out.own HW.out.blk (by decide) e.symm); have c1 := hb1.cell 1; have f1 := hb1.frozen 1; have c2 := hb1.cell 2; clear hb1; simp at c1 c2)
  go_ret
  obtain ⟨k1, k2⟩ := HW.out.set_own (ys := bs ++ xs) hgrow (by rw [List.length_append, bytesV_app]; exact hown') (by rw [List.length_append]; omega)
  refine ⟨rfl, _, k1, hO.mono (fun _ h => h.elim) |>.trans k2, ?_⟩
  rcases hat with h | h
  · exact .inl h
  · exact .inr ⟨_, h, by have := hO.size; omega⟩
theorem write_any (p : Nat) (may : Bool) (A : Option Addr) (c : Nat) (most bad : Int) (bs xs : List UInt8) (v : Value) (w : World) (h : Wr w p most bs bad v) (hx : Reads w w.heap.size 1 A xs.length (bytesV xs)) (hl : xs.length ≤ 140737488355328) :
    Calls Tryz.prog 83 #[.pointer (some ⟨p, 0, none⟩), .bool may, .slice A xs.length c] w (WStep p most v (wr1 most bs bad may xs) w) := by
  by_cases hb : bad = 0
  · subst hb
    cases may with
    | false => exact write_no p _ most bs xs v w h
    | true =>
      by_cases hm : most - bs.length < (xs.length : Int)
      · exact write_long p A c most bs xs v w h hm hl
      · exact write_fits p A c most bs xs v w h hm hx
  · exact write_bad p may _ most bad bs xs v w h (by simpa using hb)
end Go.Proofs.YtcapdmicekialaaGreat
