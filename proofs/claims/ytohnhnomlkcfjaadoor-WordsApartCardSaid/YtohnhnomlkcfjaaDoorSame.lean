/- chaperonkit.SameTexts, OverTexts over lists of texts, walked. -/
import Derived.Test.YtohnhnomlkcfjaaDoorHelps
namespace Go.Proofs.YtohnhnomlkcfjaaDoor
open Go.RowKit
attribute [local irreducible] ByteArray.extract ByteArray.toList

set_option maxHeartbeats 800000 in
theorem same_yes (g cap g2 cap2 : Nat) (xs : List ByteArray) (w : World) (hx : Texts w g xs) (hy : Texts w g2 xs) (hl : xs.length ≤ 100) :
    Calls Tryd.prog 14 #[.slice (some ⟨g, 0, none⟩) xs.length cap, .slice (some ⟨g2, 0, none⟩) xs.length cap2] w (RetB (.bool true) w) := by
  have e0 : ((xs.length : Int) == (xs.length : Int)) = true := beq_self_eq_true _
  go_enter Tryd.func14, Tryd.ntmps14
  go_wp2_with fail
  go_loopw [5, 6] (fun b v wr => ∃ i n : Nat, b = .bool true ∧ v = .int .i64 i ∧ i ≤ xs.length ∧ wr = w.drewN n) (fun b v wr => match v with | .int _ q => xs.length - q.toNat | _ => 0)
  case atStart => exact ⟨0, 0, rfl, rfl, Nat.zero_le _, rfl⟩
  case round =>
    obtain ⟨i, n, rfl, rfl, hi, rfl⟩ := hrel
    rcases Nat.lt_or_ge i xs.length with hlt | hge
    · have hc := hx i hlt
      have hd := hy i hlt
      have hl' : (i : Int) < (xs.length : Int) := by omega
      have es : (xs[i].toList == xs[i].toList) = true := beq_self_eq_true _
      go_wp2_with fail
      go_quiet (fail)
      go_wp2_with fail
      refine ⟨⟨i + 1, _, rfl, by rw [Int.natCast_add]; rfl, by omega, rfl⟩, ?_⟩
      show xs.length - (((i : Int) + 1).toNat) < xs.length - ((i : Int).toNat)
      omega
    · obtain rfl : i = xs.length := by omega
      have hl' : ¬ (xs.length : Int) < (xs.length : Int) := by omega
      go_wp2_with fail
      go_ret
      exact ⟨rfl, only_drewN_below _ _ _ _ (Below.refl _ _)⟩

set_option maxHeartbeats 800000 in
theorem over_any (b g cap : Nat) (xs : List ByteArray) (w : World) (hx : Texts w g xs) (hf : ∀ j, j < xs.length → w.frozen? ⟨g, j, none⟩ = false) (hg : b ≤ g) (hl : xs.length ≤ 100) :
    Calls Tryd.prog 16 #[.slice (some ⟨g, 0, none⟩) xs.length cap] w fun e w' => (∃ v, e = .returned v) ∧ Below b w w' := by
  go_enter Tryd.func16, Tryd.ntmps16
  go_wp2_with fail
  go_loopw [2] (fun v wr => ∃ i : Nat, v = .int .i64 i ∧ i ≤ xs.length ∧ Below b w wr ∧ ∀ j, j < xs.length → (∃ s, wr.cell? ⟨g, j, none⟩ = some (.string s)) ∧ wr.frozen? ⟨g, j, none⟩ = false) (fun v wr => match v with | .int _ q => xs.length - q.toNat | _ => 0)
  case atStart => exact ⟨0, rfl, Nat.zero_le _, Below.refl _ _, fun j hj => ⟨⟨_, hx j hj⟩, hf j hj⟩⟩
  case round =>
    obtain ⟨i, rfl, hi, hB, hC⟩ := hrel
    rcases Nat.lt_or_ge i xs.length with hlt | hge
    · obtain ⟨⟨s, hc⟩, hfr⟩ := hC i hlt
      have hl' : (i : Int) < (xs.length : Int) := by omega
      have HC := Lib.hid hC
      clear hC hx hf
      go_wp2_with fail
      refine ⟨⟨i + 1, by rw [Int.natCast_add]; rfl, by omega, hB.setCell (p := ⟨g, i, none⟩) hg _, fun j hj => ⟨?_, by rw [World.frozen?_setCell]; exact (HC.out j hj).2⟩⟩, ?_⟩
      · by_cases hji : j = i
        · subst hji
          exact ⟨_, World.cell?_setCell_same' _ _ _ (by rw [hc]; rfl)⟩
        · obtain ⟨s', hs'⟩ := (HC.out j hj).1
          exact ⟨s', by rw [World.cell?_setCell_other _ _ _ _ (by intro e; injection e with _ e2; exact hji e2.symm)]; exact hs'⟩
      · show xs.length - (((i : Int) + 1).toNat) < xs.length - ((i : Int).toNat)
        omega
    · obtain rfl : i = xs.length := by omega
      have hl' : ¬ (xs.length : Int) < (xs.length : Int) := by omega
      clear hC hx hf
      go_wp2_with fail
      go_end0
      exact ⟨⟨_, rfl⟩, hB⟩
end Go.Proofs.YtohnhnomlkcfjaaDoor
