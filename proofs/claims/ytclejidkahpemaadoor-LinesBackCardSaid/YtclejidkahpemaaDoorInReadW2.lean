/- ints.Read behind a '-', and the texts that are no numbers. -/
import Derived.Test.YtclejidkahpemaaDoorInReadW
import Derived.Lib.IndexBytes
namespace Go.Proofs.YtclejidkahpemaaDoor
open Go.RowKit

theorem ext1_list (s : ByteArray) : (s.extract 1 s.size).data.toList = s.data.toList.tail := by
  rw [Lib.extract_to_end, List.drop_one]
theorem ext1_size (s : ByteArray) : (s.extract 1 s.size).size = s.size - 1 := by
  rw [ByteArray.size_extract]; omega
theorem is45' {s : ByteArray} (h0 : 0 < s.size) (h : s.data.toList.head? = some 45) : (((s[0]'h0).toNat : Int) == 45) = true := by
  rw [head_get h0] at h
  have := Option.some.inj h
  rw [this]; rfl
theorem is48' {s : ByteArray} (h0 : 0 < s.size) (h : s.data.toList.head? = some 48) : (((s[0]'h0).toNat : Int) == 48) = true := by
  rw [head_get h0] at h
  have := Option.some.inj h
  rw [this]; rfl
theorem not45 {s : ByteArray} (h0 : 0 < s.size) (h : s.data.toList.head? ≠ some 45) : (((s[0]'h0).toNat : Int) == 45) = false := by
  rw [Bool.eq_false_iff]; intro hh; exact h (by rw [head_get h0, is45 hh])
theorem not48 {s : ByteArray} (h0 : 0 < s.size) (h : s.data.toList.head? ≠ some 48) : (((s[0]'h0).toNat : Int) == 48) = false := by
  rw [Bool.eq_false_iff]; intro hh; exact h (by rw [head_get h0, is48 hh])

/-- Bad at the head: a lone '-', a nought ahead of more, behind a '-' or not. -/
theorem bad_lone {s : ByteArray} (h : s.size = 1) (h45 : s.data.toList.head? = some 45) : (0, 5) = readV s.data.toList := by
  rw [readV_bad]
  unfold badForm digsOf
  rw [if_pos h45]
  have : s.data.toList.tail = [] := List.eq_nil_of_length_eq_zero (by rw [List.length_tail, len_list, h])
  rw [this]; rfl
theorem bad_nought {s : ByteArray} (h : 1 < s.size) (h48 : s.data.toList.head? = some 48) : (0, 5) = readV s.data.toList := by
  rw [readV_bad]
  unfold badForm digsOf
  rw [if_neg (by rw [h48]; decide), h48, len_list]
  simp [h]
theorem bad_minus_nought {s : ByteArray} (h : 1 < s.size) (h45 : s.data.toList.head? = some 45) (h48 : s.data.toList.tail.head? = some 48) : (0, 5) = readV s.data.toList := by
  rw [readV_bad]
  unfold badForm digsOf
  rw [if_pos h45, h48, len_list]
  simp [h]

theorem read_lone (s : ByteArray) (w : World) (h : s.size = 1) (h45 : s.data.toList.head? = some 45) : Calls Tryd.prog 45 #[.string s] w (RetR s.data.toList w) := by
  have hr := Lib.hid (bad_lone h h45)
  have h0 : 0 < s.size := by omega
  have hone : 1 ≤ s.size := by omega
  have he := isEmpty_of h0
  have hc := is45' h0 h45
  have hd : (s.extract 1 s.size).toList = [] := by
    rw [ba_toList, ext1_list]; exact List.eq_nil_of_length_eq_zero (by rw [List.length_tail, len_list, h])
  clear h h45
  go_enter Tryd.func45, Tryd.ntmps45
  go_wp2
  all_goals
    go_ret2
    exact retR hr.out
theorem read_nought (s : ByteArray) (w : World) (h : 1 < s.size) (h48 : s.data.toList.head? = some 48) : Calls Tryd.prog 45 #[.string s] w (RetR s.data.toList w) := by
  have hr := Lib.hid (bad_nought h h48)
  have h0 : 0 < s.size := by omega
  have he := isEmpty_of h0
  have hc := not45 h0 (by rw [h48]; decide)
  have hc8 := is48' h0 h48
  clear h48
  go_enter Tryd.func45, Tryd.ntmps45
  go_wp2
  all_goals
    go_ret2
    exact retR hr.out
theorem read_minus_nought (s : ByteArray) (w : World) (h : 1 < s.size) (h45 : s.data.toList.head? = some 45) (h48 : s.data.toList.tail.head? = some 48) : Calls Tryd.prog 45 #[.string s] w (RetR s.data.toList w) := by
  have hr := Lib.hid (bad_minus_nought h h45 h48)
  have h0 : 0 < s.size := by omega
  have he := isEmpty_of h0
  have hc := is45' h0 h45
  have hd0 : 0 < (s.extract 1 s.size).size := by rw [ext1_size]; omega
  have hde := isEmpty_of hd0
  have hc8 := is48' hd0 (by rw [ext1_list]; exact h48)
  have hone : 1 ≤ s.size := by omega
  clear h48 h45
  go_enter Tryd.func45, Tryd.ntmps45
  go_wp2
  all_goals
    go_ret2
    exact retR hr.out

attribute [local irreducible] ByteArray.extract ByteArray.toList in
set_option maxHeartbeats 800000 in
theorem read_minus (s : ByteArray) (w : World) (hs : s.size ≤ 140737488351232) (h : 1 < s.size) (hM : Minus s (s.extract 1 s.size)) : Calls Tryd.prog 45 #[.string s] w (RetR s.data.toList w) := by
  have h0 : 0 < s.size := by omega
  have he := isEmpty_of h0
  have hc45 := is45' h0 hM.h45
  have hd0 := hM.h0
  have hde := isEmpty_of hd0
  have hc8 := not48 hd0 hM.h48
  have hone : 1 ≤ s.size := by omega
  have hsz := ext1_size s
  have hds : (s.extract 1 s.size).size ≤ 140737488351232 := by omega
  have hle1 : (s.extract 1 s.size).size ≤ s.size - 1 := by omega
  have hle2 : s.size - 1 ≤ (s.extract 1 s.size).size := by omega
  clear hsz
  go_enter Tryd.func45, Tryd.ntmps45
  go_wp2
  clear he hc45 hde hc8 hone
  go_loop [2, 3, 7, 8, 41] (fun r1 r2 n great i => ∃ k : Nat, k ≤ s.size - 1 ∧ i = .int .i64 k ∧ ∃ (nv : Int) (g : Bool), n = .int .u64 nv ∧ great = .bool g ∧ RInv 9223372036854775808 (s.extract 1 s.size).data.toList k nv g) (fun _ _ _ _ i => s.size - 1 - (intOf i).toNat)
  case atStart => exact ⟨0, Nat.zero_le _, rfl, 0, false, rfl, rfl, rinv_zero _ _⟩
  case round =>
    obtain ⟨k, hk, rfl, nv, g, rfl, rfl, hI⟩ := hrel
    by_cases hlt : k < (s.extract 1 s.size).size
    · have hc := get_list (s.extract 1 s.size) k hlt
      by_cases hlo : (s.extract 1 s.size)[k].toNat < 48
      · have HB := Lib.hid (hM.bad hlt (notdig_lo hlo))
        clear hc hI
        go_wp2
        go_ret2
        exact retR HB.out
      · by_cases hhi : 57 < (s.extract 1 s.size)[k].toNat
        · have HB := Lib.hid (hM.bad hlt (notdig_hi hhi))
          clear hc hI
          go_wp2
          go_ret2
          exact retR HB.out
        · have hst := rinv_step (by omega) (by omega) hI hc (by omega) (by omega)
          have HB := Lib.hid hst
          clear hst hc hI
          cases g
          · go_wp2
            refine ⟨⟨k + 1, by omega, by go_num, _, _, rfl, rfl, HB.out⟩, by simp [intOf]; omega⟩
          · go_wp2
            refine ⟨⟨k + 1, by omega, by go_num, _, true, rfl, rfl, HB.out⟩, by simp [intOf]; omega⟩
    · have hk2 : k = (s.extract 1 s.size).size := by omega
      rw [hk2] at hI
      have hkk : s.size - 1 ≤ k := by omega
      clear hk2
      cases g
      · have HB := Lib.hid (hM.end_ok hI)
        clear hI
        go_wp2
        go_ret2
        exact retR HB.out
      · have HB := Lib.hid (hM.end_far hI)
        clear hI
        go_wp2
        go_ret2
        exact retR HB.out

theorem read_any (s : ByteArray) (w : World) (hs : s.size ≤ 140737488351232) : Calls Tryd.prog 45 #[.string s] w (RetR s.data.toList w) := by
  by_cases h0 : s.size = 0
  · exact read_empty s w h0
  · by_cases h45 : s.data.toList.head? = some 45
    · by_cases h1 : s.size = 1
      · exact read_lone s w h1 h45
      · by_cases h48 : s.data.toList.tail.head? = some 48
        · exact read_minus_nought s w (by omega) h45 h48
        · exact read_minus s w hs (by omega) ⟨ext1_list s, h45, by rw [ext1_size]; omega, by rw [ext1_list]; exact h48⟩
    · by_cases h48 : s.data.toList.head? = some 48 ∧ 1 < s.size
      · exact read_nought s w h48.2 h48.1
      · exact read_plain s w hs (by omega) ⟨by omega, h45, h48⟩
end Go.Proofs.YtclejidkahpemaaDoor
