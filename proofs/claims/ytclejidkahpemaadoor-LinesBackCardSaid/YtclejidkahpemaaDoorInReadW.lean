/- ints.Read and its reference, walked. -/
import Derived.Test.YtclejidkahpemaaDoorInReadP
namespace Go.Proofs.YtclejidkahpemaaDoor
open Go.RowKit

theorem isEmpty_of {s : ByteArray} (h : 0 < s.size) : s.toList.isEmpty = false := by
  rw [ba_toList]; rw [← len_list] at h
  cases hl : s.data.toList with
  | nil => rw [hl] at h; simp at h
  | cons _ _ => rfl
theorem head_get {s : ByteArray} (h : 0 < s.size) : s.data.toList.head? = some s[0] := by
  rw [List.head?_eq_getElem?, get_list s 0 h]
theorem is45 {c : UInt8} (h : ((c.toNat : Int) == 45) = true) : c = 45 := by
  rw [beq_iff_eq] at h; exact UInt8.toNat_inj.1 (by show c.toNat = 45; omega)
theorem is48 {c : UInt8} (h : ((c.toNat : Int) == 48) = true) : c = 48 := by
  rw [beq_iff_eq] at h; exact UInt8.toNat_inj.1 (by show c.toNat = 48; omega)

theorem read_empty (s : ByteArray) (w : World) (h : s.size = 0) : Calls Tryd.prog 45 #[.string s] w (RetR s.data.toList w) := by
  have hl : s.data.toList = [] := List.eq_nil_of_length_eq_zero (by rw [len_list, h])
  have he : s.toList = [] := by rw [ba_toList, hl]
  have hr : (0, 5) = readV s.data.toList := by rw [hl]; decide +kernel
  clear hl h
  go_enter Tryd.func45, Tryd.ntmps45
  go_wp2
  go_ret2
  exact retR hr

set_option maxHeartbeats 800000 in
theorem read_plain (s : ByteArray) (w : World) (hs : s.size ≤ 140737488351232) (h0 : 0 < s.size) (hP : Plain s) : Calls Tryd.prog 45 #[.string s] w (RetR s.data.toList w) := by
  have he := isEmpty_of h0
  have h45 : (((s[0]'h0).toNat : Int) == 45) = false := by
    rw [Bool.eq_false_iff]; intro h; exact hP.h45 (by rw [head_get h0, is45 h])
  have h48 : (((s[0]'h0).toNat : Int) == 48) = false ∨ ((((s[0]'h0).toNat : Int) == 48) = true ∧ s.size ≤ 1) := by
    cases h : (((s[0]'h0).toNat : Int) == 48) with
    | false => exact .inl rfl
    | true => exact .inr ⟨rfl, by
        have : ¬ 1 < s.size := fun hh => hP.h48 ⟨by rw [head_get h0, is48 h], hh⟩
        omega⟩
  rcases h48 with h48 | ⟨h48, hone⟩
  all_goals
    go_enter Tryd.func45, Tryd.ntmps45
    go_wp2
    go_loop [2, 3, 7, 8, 41] (fun r1 r2 n great i => ∃ k : Nat, k ≤ s.size ∧ i = .int .i64 k ∧ ∃ (nv : Int) (g : Bool), n = .int .u64 nv ∧ great = .bool g ∧ RInv 9223372036854775807 s.data.toList k nv g) (fun _ _ _ _ i => s.size - (intOf i).toNat)
    case atStart => exact ⟨0, Nat.zero_le _, rfl, 0, false, rfl, rfl, rinv_zero _ _⟩
    case round =>
      obtain ⟨k, hk, rfl, nv, g, rfl, rfl, hI⟩ := hrel
      by_cases hlt : k < s.size
      · have hc := get_list s k hlt
        by_cases hlo : s[k].toNat < 48
        · have hbad := hP.bad hlt (notdig_lo hlo)
          have HB := Lib.hid hbad
          clear hbad hc hI
          go_wp2
          go_ret2
          exact retR HB.out
        · by_cases hhi : 57 < s[k].toNat
          · have hbad := hP.bad hlt (notdig_hi hhi)
            have HB := Lib.hid hbad
            clear hbad hc hI
            go_wp2
            go_ret2
            exact retR HB.out
          · have hst := rinv_step (by omega) (by omega) hI hc (by omega) (by omega)
            have HB := Lib.hid hst
            clear hst hc hI
            cases g
            · go_wp2
              refine ⟨⟨k + 1, by omega, by go_num, _, _, rfl, rfl, HB.out⟩, by simp [intOf]; omega⟩
            · go_wp2
              refine ⟨⟨k + 1, by omega, by go_num, _, true, rfl, rfl, HB.out⟩, by simp [intOf]; omega⟩
      · obtain rfl : k = s.size := by omega
        cases g
        · have HB := Lib.hid (hP.end_ok hI)
          clear hI
          go_wp2
          go_ret2
          exact retR HB.out
        · have HB := Lib.hid (hP.end_far hI)
          clear hI
          go_wp2
          go_ret2
          exact retR HB.out
end Go.Proofs.YtclejidkahpemaaDoor
