/- OctetNone, walked. -/
import Derived.Test.YtcapdmicekialaaOcNone
namespace Go.Proofs.Ytcapdmicekialaa
open Go.RowKit
attribute [local go_sem] Oper.semAt_some run_store_func run_store_nilFunc
/-- Both lists, and what nobody made. -/
structure NoneAt (B : Nat) (W : World) : Prop where
  w0 : W.cell? ⟨B + 1, 0, none⟩ = some (.pointer none)
  w1 : W.cell? ⟨B + 1, 1, none⟩ = some (.pointer (some ⟨B, 0, none⟩))
  r0 : W.cell? ⟨B + 1 + 1 + 1, 0, none⟩ = some (.pointer none)
  r1 : W.cell? ⟨B + 1 + 1 + 1, 1, none⟩ = some (.pointer (some ⟨B + 1 + 1, 0, none⟩))
  m : W.cell? ⟨B, 3, none⟩ = some (.bool false)
  n : W.cell? ⟨B + 1 + 1, 4, none⟩ = some (.bool false)
theorem NoneAt.below {B k : Nat} {W W' : World} (h : NoneAt B W) (hb : Below k W W') (hk : B + 4 ≤ k) : NoneAt B W' :=
  ⟨(hb.cell (p := ⟨B + 1, 0, none⟩) (by show B + 1 < k; omega)).trans h.w0, (hb.cell (p := ⟨B + 1, 1, none⟩) (by show B + 1 < k; omega)).trans h.w1, (hb.cell (p := ⟨B + 1 + 1 + 1, 0, none⟩) (by show B + 3 < k; omega)).trans h.r0, (hb.cell (p := ⟨B + 1 + 1 + 1, 1, none⟩) (by show B + 3 < k; omega)).trans h.r1, (hb.cell (p := ⟨B, 3, none⟩) (by show B < k; omega)).trans h.m, (hb.cell (p := ⟨B + 1 + 1, 4, none⟩) (by show B + 2 < k; omega)).trans h.n⟩
def noneW (w : World) : World := (((w.alloc (.cells #[.int .i64 0, .slice none 0 0, .int .i64 0, .bool false] 43)).alloc (.cells #[.pointer none, .pointer (some ⟨w.heap.size, 0, none⟩)] 23)).alloc (.cells #[.slice none 0 0, .int .i64 0, .int .i64 0, .int .i64 0, .bool false] 49)).alloc (.cells #[.pointer none, .pointer (some ⟨w.heap.size + 1 + 1, 0, none⟩)] 45)
set_option maxRecDepth 100000 in
set_option maxHeartbeats 3200000 in
theorem none_walk (n : Int) (w : World) (h0 : -9223372036854775808 ≤ n) (h1 : n ≤ 9223372036854775807) : Calls Try.prog 4 #[.int .i64 n] w (RetBw (.bool true) w) := by
  go_enter Try.func4, Try.ntmps4
  go_wp2_with fail
  have hN : NoneAt w.heap.size (noneW w) := by
    have b0 : Blk (noneW w) w.heap.size 43 _ := (((Blk.new w 43 #[.int .i64 0, .slice none 0 0, .int .i64 0, .bool false]).alloc _).alloc _).alloc _
    have b1 : Blk (noneW w) (w.heap.size + 1) 23 #[.pointer none, .pointer (some ⟨w.heap.size, 0, none⟩)] := by
      have := ((Blk.new (w.alloc (.cells #[.int .i64 0, .slice none 0 0, .int .i64 0, .bool false] 43)) 23 #[.pointer none, .pointer (some ⟨w.heap.size, 0, none⟩)]).alloc (.cells #[.slice none 0 0, .int .i64 0, .int .i64 0, .int .i64 0, .bool false] 49)).alloc (.cells #[.pointer none, .pointer (some ⟨w.heap.size + 1 + 1, 0, none⟩)] 45)
      rwa [World.size_alloc] at this
    have b2 : Blk (noneW w) (w.heap.size + 1 + 1) 49 #[.slice none 0 0, .int .i64 0, .int .i64 0, .int .i64 0, .bool false] := by
      have := (Blk.new ((w.alloc (.cells #[.int .i64 0, .slice none 0 0, .int .i64 0, .bool false] 43)).alloc (.cells #[.pointer none, .pointer (some ⟨w.heap.size, 0, none⟩)] 23)) 49 #[.slice none 0 0, .int .i64 0, .int .i64 0, .int .i64 0, .bool false]).alloc (.cells #[.pointer none, .pointer (some ⟨w.heap.size + 1 + 1, 0, none⟩)] 45)
      rwa [World.size_alloc, World.size_alloc] at this
    have b3 : Blk (noneW w) (w.heap.size + 1 + 1 + 1) 45 #[.pointer none, .pointer (some ⟨w.heap.size + 1 + 1, 0, none⟩)] := by
      have := Blk.new (((w.alloc (.cells #[.int .i64 0, .slice none 0 0, .int .i64 0, .bool false] 43)).alloc (.cells #[.pointer none, .pointer (some ⟨w.heap.size, 0, none⟩)] 23)).alloc (.cells #[.slice none 0 0, .int .i64 0, .int .i64 0, .int .i64 0, .bool false] 49)) 45 #[.pointer none, .pointer (some ⟨w.heap.size + 1 + 1, 0, none⟩)]
      rwa [World.size_alloc, World.size_alloc, World.size_alloc] at this
    exact ⟨b1.cell 0, b1.cell 1, b3.cell 0, b3.cell 1, b0.cell 3, b2.cell 4⟩
  have hB0 : Below w.heap.size w (noneW w) := ((((Below.refl _ _).alloc (Nat.le_refl _) _).alloc (by simp) _).alloc (by simp; omega) _).alloc (by simp; omega) _
  have hz0 : w.heap.size + 4 ≤ (noneW w).heap.size := by unfold noneW; simp
  change Code.wp _ _ _ _ (noneW w)
  generalize noneW w = W0 at *
  have HN := Lib.hid hN
  clear hN
  go_loopw [5] (fun x wr => ∃ i : Nat, x = .int .i64 i ∧ i ≤ 2 ∧ Below w.heap.size w wr ∧ Below W0.heap.size W0 wr) (fun x wr => 2 - (intOf x).toNat)
  case atStart => exact ⟨0, rfl, by decide, hB0, Below.refl _ _⟩
  case round =>
    obtain ⟨i, rfl, hi, hbel0, hbelW⟩ := hrel
    have hz : W0.heap.size ≤ wr.heap.size := hbelW.size
    have NA := HN.out.below hbelW hz0
    have hbel := Below.refl wr.heap.size wr
    rcases (show i = 0 ∨ i = 1 ∨ i = 2 by omega) with rfl | rfl | rfl
    · have hc1 := NA.w0
      have hc2 := NA.r0
      have UW : Unmade 3 wr (.pointer none) := .nil
      have UR : Unmade 4 wr (.pointer none) := .nil
      clear NA
      go_wp2_with fail
      go_quiet (fail)
      have U := Lib.hid (And.intro (UW.below (Only.below (Only.drewN (fun _ => False) wr nq) (Nat.le_refl _) (fun b h => h.elim))) (UR.below (Only.below (Only.drewN (fun _ => False) wr nq) (Nat.le_refl _) (fun b h => h.elim))))
      have HB := Lib.hid (hbel.trans (Only.below (Only.drewN (fun _ => False) wr nq) hbel.size (fun b h => h.elim)))
      clear UW UR hc1 hc2
      clear hbel
      go_wp2_with fail
      refine (bytes_unmade _ _ U.out.1).mono ?_
      rintro e W' ⟨rfl, rfl⟩
      go_wp2_with fail
      refine (num_unmade _ n _ U.out.1).mono ?_
      rintro e W' ⟨rfl, hb2⟩
      have U := Lib.hid (And.intro (U.out.1.below hb2) (U.out.2.below hb2))
      have HB := Lib.hid (HB.out.trans (hb2.mono HB.out.size))
      clear hb2
      go_wp2_with fail
      refine (whole_unmade _ n _ U.out.1 h0 h1).mono ?_
      rintro e W' ⟨rfl, hb2⟩
      have U := Lib.hid (And.intro (U.out.1.below hb2) (U.out.2.below hb2))
      have HB := Lib.hid (HB.out.trans (hb2.mono HB.out.size))
      clear hb2
      go_wp2_with fail
      refine (word_unmade _ ⟨#[97]⟩ _ U.out.1).mono ?_
      rintro e W' ⟨rfl, rfl⟩
      go_wp2_with fail
      refine (rnum_unmade _ _ U.out.2).mono ?_
      rintro e W' ⟨rfl, rfl⟩
      go_wp2_with fail
      refine (rwhole_unmade _ _ U.out.2).mono ?_
      rintro e W' ⟨rfl, rfl⟩
      go_wp2_with fail
      refine (rword_unmade _ n _ U.out.2).mono ?_
      rintro e W' ⟨rfl, rfl⟩
      go_wp2_with fail
      refine (rrest_unmade _ _ U.out.2).mono ?_
      rintro e W' ⟨rfl, rfl⟩
      go_wp2_with fail
      refine (rend_unmade _ _ U.out.2).mono ?_
      rintro e W' ⟨rfl, hb2⟩
      have U := Lib.hid (And.intro (U.out.1.below hb2) (U.out.2.below hb2))
      have HB := Lib.hid (HB.out.trans (hb2.mono HB.out.size))
      clear hb2
      go_wp2_with fail
      exact ⟨⟨1, rfl, by decide, hbel0.trans (HB.out.mono hbel0.size), hbelW.trans (HB.out.mono hz)⟩, by decide⟩
    · have hc1 := NA.w1
      have hc2 := NA.r1
      have UW : Unmade 3 wr (.pointer (some ⟨w.heap.size, 0, none⟩)) := .raw _ NA.m
      have UR : Unmade 4 wr (.pointer (some ⟨w.heap.size + 1 + 1, 0, none⟩)) := .raw _ NA.n
      clear NA
      go_wp2_with fail
      go_quiet (fail)
      have U := Lib.hid (And.intro (UW.below (Only.below (Only.drewN (fun _ => False) wr nq) (Nat.le_refl _) (fun b h => h.elim))) (UR.below (Only.below (Only.drewN (fun _ => False) wr nq) (Nat.le_refl _) (fun b h => h.elim))))
      have HB := Lib.hid (hbel.trans (Only.below (Only.drewN (fun _ => False) wr nq) hbel.size (fun b h => h.elim)))
      clear UW UR hc1 hc2
      clear hbel
      go_wp2_with fail
      refine (bytes_unmade _ _ U.out.1).mono ?_
      rintro e W' ⟨rfl, rfl⟩
      go_wp2_with fail
      refine (num_unmade _ n _ U.out.1).mono ?_
      rintro e W' ⟨rfl, hb2⟩
      have U := Lib.hid (And.intro (U.out.1.below hb2) (U.out.2.below hb2))
      have HB := Lib.hid (HB.out.trans (hb2.mono HB.out.size))
      clear hb2
      go_wp2_with fail
      refine (whole_unmade _ n _ U.out.1 h0 h1).mono ?_
      rintro e W' ⟨rfl, hb2⟩
      have U := Lib.hid (And.intro (U.out.1.below hb2) (U.out.2.below hb2))
      have HB := Lib.hid (HB.out.trans (hb2.mono HB.out.size))
      clear hb2
      go_wp2_with fail
      refine (word_unmade _ ⟨#[97]⟩ _ U.out.1).mono ?_
      rintro e W' ⟨rfl, rfl⟩
      go_wp2_with fail
      refine (rnum_unmade _ _ U.out.2).mono ?_
      rintro e W' ⟨rfl, rfl⟩
      go_wp2_with fail
      refine (rwhole_unmade _ _ U.out.2).mono ?_
      rintro e W' ⟨rfl, rfl⟩
      go_wp2_with fail
      refine (rword_unmade _ n _ U.out.2).mono ?_
      rintro e W' ⟨rfl, rfl⟩
      go_wp2_with fail
      refine (rrest_unmade _ _ U.out.2).mono ?_
      rintro e W' ⟨rfl, rfl⟩
      go_wp2_with fail
      refine (rend_unmade _ _ U.out.2).mono ?_
      rintro e W' ⟨rfl, hb2⟩
      have U := Lib.hid (And.intro (U.out.1.below hb2) (U.out.2.below hb2))
      have HB := Lib.hid (HB.out.trans (hb2.mono HB.out.size))
      clear hb2
      go_wp2_with fail
      exact ⟨⟨2, rfl, by decide, hbel0.trans (HB.out.mono hbel0.size), hbelW.trans (HB.out.mono hz)⟩, by decide⟩
    · clear NA
      go_wp2_with fail
      refine (awake_yes wr).mono ?_
      rintro e W' ⟨rfl, hb2⟩
      go_wp2_with fail
      go_ret
      exact ⟨rfl, hbel0.trans (hb2.mono hbel0.size)⟩
end Go.Proofs.Ytcapdmicekialaa
