/- stack.take at calls and at values. -/
import Derived.Test.YtiaeckljpdhagaaFrPush2
namespace Go.Proofs.Ytiaeckljpdhagaa
open Go.RowKit
attribute [local go_sem] Oper.semAt_some run_store_func run_store_nilFunc
/-- A row of one's own, shorter. -/
theorem own_shrunk {w : World} {base : Nat} {e : TypeId} {size n g cap : Nat} {xs : List Value} (h : w.ownsRow base e size (.slice (some ⟨g, 0, none⟩) n cap) n xs) (k : Nat) (hk : k ≤ n) : w.ownsRow base e size (.slice (some ⟨g, 0, none⟩) k cap) k (xs.take (k * size)) := by
  have hl := h.1
  rcases h.2 with ⟨h', _⟩ | ⟨g', cap', cur, h', hb, hg, hnc, hcm, hcs, htake⟩
  · simp at h'
  · simp only [Value.slice.injEq, Option.some.injEq, Addr.mk.injEq, and_true, true_and] at h'
    obtain ⟨rfl, rfl⟩ := h'
    have hle : k * size ≤ n * size := Nat.mul_le_mul_right _ hk
    refine ⟨by rw [List.length_take, hl]; omega, .inr ⟨g, cap, cur, rfl, hb, hg, by omega, hcm, hcs, ?_⟩⟩
    rw [← htake, List.take_take]
    congr 1
    omega
theorem Lies.shrunk {N : Nat} {w0 W : World} {R : Thing} {e : TypeId} {size n cap g : Nat} {xs : List Value} (h : Lies N w0 W (sepT (rowT e size (.slice (some ⟨g, 0, none⟩) n cap) n xs) R)) (k : Nat) (hk : k ≤ n) : Lies N w0 W (sepT (rowT e size (.slice (some ⟨g, 0, none⟩) k cap) k (xs.take (k * size))) R) := by
  refine h.step ?_
  rintro F ⟨ho, rfl⟩
  exact ⟨_, ⟨own_shrunk ho k hk, rfl⟩, Only.refl _ _, fun b hb => .inl hb⟩
theorem take_end {N : Nat} {w0 w1 : World} {R new : Thing} {p g n cp j : Nat} {m : Value} {xs : List Value} (hj : j ≤ n) (H : Lies N w0 w1 (sepT new (sepT (blkT p 71 #[.slice (some ⟨g, 0, none⟩) n cp, m]) (sepT (rowT 78 1 (.slice (some ⟨g, 0, none⟩) n cp) n xs) R)))) :
    Lies N w0 (w1.setCell ⟨p, 0, none⟩ (.slice (some ⟨g, 0, none⟩) j cp)) (sepT (blkT p 71 #[.slice (some ⟨g, 0, none⟩) j cp, m]) (sepT (rowT 78 1 (.slice (some ⟨g, 0, none⟩) j cp) j (xs.take (j * 1))) (sepT new R))) := by
  have h2 := (H.turn (a' := sepT (blkT p 71 #[.slice (some ⟨g, 0, none⟩) n cp, m]) (sepT (rowT 78 1 (.slice (some ⟨g, 0, none⟩) n cp) n xs) (sepT new R))) (by ac_rfl)).setBlk 0 (.slice (some ⟨g, 0, none⟩) j cp)
  have h3 : Lies N w0 (w1.setCell ⟨p, 0, none⟩ (.slice (some ⟨g, 0, none⟩) j cp)) (sepT (blkT p 71 #[.slice (some ⟨g, 0, none⟩) j cp, m]) (sepT (rowT 78 1 (.slice (some ⟨g, 0, none⟩) n cp) n xs) (sepT new R))) := h2
  exact ((h3.turn (a' := sepT (rowT 78 1 (.slice (some ⟨g, 0, none⟩) n cp) n xs) (sepT (blkT p 71 #[.slice (some ⟨g, 0, none⟩) j cp, m]) (sepT new R))) (by ac_rfl)).shrunk j hj).turn (by ac_rfl)
set_option maxRecDepth 100000 in
set_option maxHeartbeats 800000 in
theorem takeC_any {N : Nat} {w0 W : World} {R : Thing} (p g n k cp : Nat) (m : Value) (xs : List Value) (h1 : ∀ u ∈ xs, u.oneCell' = true) (H : Lies N w0 W (sepT (blkT p 71 #[.slice (some ⟨g, 0, none⟩) n cp, m]) (sepT (rowT 78 1 (.slice (some ⟨g, 0, none⟩) n cp) n xs) R))) (hk : k ≤ n) (hn : n ≤ 5000) :
    Calls Try.prog 46 #[.pointer (some ⟨p, 0, none⟩), .int .i64 k] W fun e w' => ∃ A c, e = .returned (.slice A k c) ∧
      Lies N w0 w' (sepT (blkT p 71 #[.slice (some ⟨g, 0, none⟩) (n - k) cp, m]) (sepT (rowT 78 1 (.slice (some ⟨g, 0, none⟩) (n - k) cp) (n - k) (xs.take ((n - k) * 1))) (sepT (rowT 78 1 (.slice A k c) k (xs.drop ((n - k) * 1))) R))) := by
  have hb := H.blk.1
  have c0 := hb.cell 0
  have f0 := hb.frozen 0
  simp at c0
  have hr := H.drop.row
  obtain ⟨_, _, h', hnc⟩ := own_form hr
  have hnc' : n ≤ cp := by injection h' with _ _ h3; omega
  have hrd := (Reads.of_own hr).cut (k := n - k) (cap := cp) (by omega) hnc'
  rw [show n - (n - k) = k by omega] at hrd
  have hw : IntKind.i64.wrap ((n : Int) - (k : Int)) = ((n - k : Nat) : Int) := by rw [show (n : Int) - k = ((n - k : Nat) : Int) by omega]; exact IntWalk.i64_in _ (by omega)
  have hC := Lib.hid (cloneC_any _ k (cp - (n - k)) _ W hrd (fun u hu => h1 u (List.mem_of_mem_drop hu)) (by omega))
  have HH := Lib.hid H
  clear H hb hr hrd h' hnc
  have hlt1 : ((n - k : Nat) : Int) ≤ (n : Int) := by omega
  have hlt2 : ((n - k : Nat) : Int) ≤ (cp : Int) := by omega
  have hnk : n - (n - k) = k := by omega
  have HW : ∀ w', Below W.heap.size W w' → w'.cell? ⟨p, 0, none⟩ = some (.slice (some ⟨g, 0, none⟩) n cp) := fun w' hbe => (hbe.cell (HH.out.blk.1.lt)).trans c0
  have HW' : ∀ w', Below W.heap.size W w' → w'.frozen? ⟨p, 0, none⟩ = false := fun w' hbe => (hbe.frozen (HH.out.blk.1.lt)).trans f0
  have HWl := Lib.hid HW
  have HWf := Lib.hid HW'
  clear HW HW'
  by_cases hcp : cp = n - k
  · obtain rfl : k = 0 := by omega
    obtain rfl : cp = n := by omega
    rw [if_pos hcp] at hC
    simp only [Nat.sub_zero, Nat.sub_self] at *
    go_enter Try.func46, Try.ntmps46
    go_wp2_with fail
    refine hC.out.mono ?_
    rintro e w1 ⟨A, c, rfl, hown, hbe⟩
    have d0 := HWl.out w1 hbe
    have e0 := HWf.out w1 hbe
    have HN := Lib.hid (HH.out.newRow hown hbe)
    clear hown hbe hC
    go_wp2_with fail
    go_ret
    exact ⟨A, c, rfl, take_end (Nat.le_refl _) HN.out⟩
  · rw [if_neg hcp] at hC
    have hC' : Hid (Calls Try.prog 69 #[.slice (some ⟨g, n - k, none⟩) k (cp - (n - k))] W (RetRow 78 1 k (xs.drop ((n - k) * 1)) W)) := Lib.hid (by simpa [Addr.add_lit] using hC.out)
    clear hC
    go_enter Try.func46, Try.ntmps46
    go_wp2_with fail
    refine hC'.out.mono ?_
    rintro e w1 ⟨A, c, rfl, hown, hbe⟩
    have d0 := HWl.out w1 hbe
    have e0 := HWf.out w1 hbe
    have HN := Lib.hid (HH.out.newRow hown hbe)
    clear hown hbe hC'
    go_wp2_with fail
    go_ret
    exact ⟨A, c, rfl, take_end (Nat.sub_le _ _) HN.out⟩
end Go.Proofs.Ytiaeckljpdhagaa
