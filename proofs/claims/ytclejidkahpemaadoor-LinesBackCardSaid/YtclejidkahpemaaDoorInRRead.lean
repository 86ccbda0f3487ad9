/- The reference's Read, walked. -/
import Derived.Test.YtclejidkahpemaaDoorInReadW2
namespace Go.Proofs.YtclejidkahpemaaDoor
open Go.RowKit
attribute [local irreducible] ByteArray.extract ByteArray.toList

theorem refread_empty (s : ByteArray) (w : World) (h : s.size = 0) : Calls Tryd.prog 31 #[.string s] w (RetR s.data.toList w) := by
  have hl : s.data.toList = [] := List.eq_nil_of_length_eq_zero (by rw [len_list, h])
  have hr : (0, 5) = readV s.data.toList := by rw [hl]; decide +kernel
  clear hl
  go_enter Tryd.func31, Tryd.ntmps31
  go_wp2
  go_ret2
  exact retR hr
theorem refread_lone (s : ByteArray) (w : World) (h : s.size = 1) (h45 : s.data.toList.head? = some 45) : Calls Tryd.prog 31 #[.string s] w (RetR s.data.toList w) := by
  have hr := Lib.hid (bad_lone h h45)
  have h0 : 0 < s.size := by omega
  have hone : 1 ≤ s.size := by omega
  have hc := is45' h0 h45
  have hd : (s.extract 1 s.size).size = 0 := by rw [ext1_size, h]
  clear h h45
  go_enter Tryd.func31, Tryd.ntmps31
  go_wp2
  go_ret2
  exact retR hr.out
theorem refread_nought (s : ByteArray) (w : World) (h : 1 < s.size) (h48 : s.data.toList.head? = some 48) : Calls Tryd.prog 31 #[.string s] w (RetR s.data.toList w) := by
  have hr := Lib.hid (bad_nought h h48)
  have h0 : 0 < s.size := by omega
  have hc := not45 h0 (by rw [h48]; decide)
  have hc8 := is48' h0 h48
  have hb : ((s.size : Int) == 0) = false := beq_eq_false_iff_ne.2 (by omega)
  clear h48
  go_enter Tryd.func31, Tryd.ntmps31
  go_wp2
  all_goals
    go_ret2
    exact retR hr.out
theorem refread_minus_nought (s : ByteArray) (w : World) (h : 1 < s.size) (h45 : s.data.toList.head? = some 45) (h48 : s.data.toList.tail.head? = some 48) : Calls Tryd.prog 31 #[.string s] w (RetR s.data.toList w) := by
  have hr := Lib.hid (bad_minus_nought h h45 h48)
  have h0 : 0 < s.size := by omega
  have hc := is45' h0 h45
  have hd0 : 0 < (s.extract 1 s.size).size := by rw [ext1_size]; omega
  have hb : (((s.size - 1 : Nat) : Int) == 0) = false := by simp; omega
  have hc8 := is48' hd0 (by rw [ext1_list]; exact h48)
  have hone : 1 ≤ s.size := by omega
  clear h48 h45
  go_enter Tryd.func31, Tryd.ntmps31
  go_wp2
  all_goals
    go_ret2
    exact retR hr.out

theorem Plain.ref_ok {s : ByteArray} (h : Plain s) {nv : Int} (hI : RInv 9223372036854775808 s.data.toList s.size nv false) (hn : (nv == 9223372036854775808) = false) : (wrap64 nv, 0) = readV s.data.toList := by
  refine h.end_ok ?_
  obtain ⟨h1, h2, hd, hf, ht⟩ := hI
  refine ⟨h1, h2, hd, fun e => ⟨(hf e).1, ?_⟩, fun e => by cases e⟩
  have := hf rfl
  have hn' : ¬ nv = 9223372036854775808 := by simpa using hn
  omega
theorem Plain.ref_most {s : ByteArray} (h : Plain s) {nv : Int} (hI : RInv 9223372036854775808 s.data.toList s.size nv false) (hn : (nv == 9223372036854775808) = true) : (0, 3) = readV s.data.toList := by
  refine h.end_far (nv := nv) ?_
  obtain ⟨h1, h2, hd, hf, ht⟩ := hI
  have := hf rfl
  have hn' : nv = 9223372036854775808 := by simpa using hn
  exact ⟨h1, h2, hd, fun e => (by cases e), fun _ => (by omega)⟩
theorem Plain.ref_far {s : ByteArray} (h : Plain s) {nv : Int} (hI : RInv 9223372036854775808 s.data.toList s.size nv true) : (0, 3) = readV s.data.toList := by
  refine h.end_far (nv := nv) ?_
  obtain ⟨h1, h2, hd, hf, ht⟩ := hI
  have := ht rfl
  exact ⟨h1, h2, hd, fun e => (by cases e), fun _ => (by omega)⟩

set_option maxHeartbeats 1600000 in
theorem refread_plain (s : ByteArray) (w : World) (hs : s.size ≤ 140737488351232) (h0 : 0 < s.size) (hP : Plain s) : Calls Tryd.prog 31 #[.string s] w (RetR s.data.toList w) := by
  have h45 := not45 h0 hP.h45
  have hb : ((s.size : Int) == 0) = false := beq_eq_false_iff_ne.2 (by omega)
  have h48 : (((s[0]'h0).toNat : Int) == 48) = false ∨ ((((s[0]'h0).toNat : Int) == 48) = true ∧ s.size ≤ 1) := by
    cases h : (((s[0]'h0).toNat : Int) == 48) with
    | false => exact .inl rfl
    | true => exact .inr ⟨rfl, by
        have : ¬ 1 < s.size := fun hh => hP.h48 ⟨by rw [head_get h0, is48 h], hh⟩
        omega⟩
  rcases h48 with h48 | ⟨h48, hone⟩
  all_goals
    go_enter Tryd.func31, Tryd.ntmps31
    go_wp2
    go_loop [2, 3, 5, 6, 7] (fun r1 r2 n great i => ∃ k : Nat, k ≤ s.size ∧ i = .int .i64 k ∧ ∃ (nv : Int) (g : Bool), n = .int .u64 nv ∧ great = .bool g ∧ RInv 9223372036854775808 s.data.toList k nv g) (fun _ _ _ _ i => s.size - (intOf i).toNat)
    case atStart => exact ⟨0, Nat.zero_le _, rfl, 0, false, rfl, rfl, rinv_zero _ _⟩
    case round =>
      obtain ⟨k, hk, rfl, nv, g, rfl, rfl, hI⟩ := hrel
      by_cases hlt : k < s.size
      · have hc := get_list s k hlt
        by_cases hlo : s[k].toNat < 48
        · have HB := Lib.hid (hP.bad hlt (notdig_lo hlo))
          clear hc hI
          go_wp2
          go_ret2
          exact retR HB.out
        · by_cases hhi : 57 < s[k].toNat
          · have HB := Lib.hid (hP.bad hlt (notdig_hi hhi))
            clear hc hI
            go_wp2
            go_ret2
            exact retR HB.out
          · have hst := rinv_step (by omega) (by omega) hI hc (by omega) (by omega)
            have HB := Lib.hid hst
            clear hst hc hI
            cases g
            · go_wp2
              refine ⟨⟨k + 1, by omega, by go_num, _, _, rfl, rfl, HB.out⟩, by simp [intOf]; omega⟩
            · go_wp2
              refine ⟨⟨k + 1, by omega, by go_num, _, true, rfl, rfl, HB.out⟩, by simp [intOf]; omega⟩
      · obtain rfl : k = s.size := by omega
        have hself : ((s.size : Int) == (s.size : Int)) = true := by simp
        cases g
        · cases hn : (nv == 9223372036854775808)
          · have HB := Lib.hid (hP.ref_ok hI hn)
            clear hI
            go_wp2
            go_ret2
            exact retR HB.out
          · have HB := Lib.hid (hP.ref_most hI hn)
            clear hI
            go_wp2
            go_ret2
            exact retR HB.out
        · have HB := Lib.hid (hP.ref_far hI)
          clear hI
          go_wp2
          go_ret2
          exact retR HB.out

set_option maxHeartbeats 1600000 in
theorem refread_minus (s : ByteArray) (w : World) (hs : s.size ≤ 140737488351232) (h : 1 < s.size) (hM : Minus s (s.extract 1 s.size)) : Calls Tryd.prog 31 #[.string s] w (RetR s.data.toList w) := by
  have h0 : 0 < s.size := by omega
  have hc45 := is45' h0 hM.h45
  have hd0 := hM.h0
  have hb : (((s.size - 1 : Nat) : Int) == 0) = false := by simp; omega
  have hb2 : (((s.size - 1 : Nat) : Int) == s.size) = false := by simp; omega
  have hc8 := not48 hd0 hM.h48
  have hone : 1 ≤ s.size := by omega
  have hsz := ext1_size s
  have hds : (s.extract 1 s.size).size ≤ 140737488351232 := by omega
  have hle1 : (s.extract 1 s.size).size ≤ s.size - 1 := by omega
  have hle2 : s.size - 1 ≤ (s.extract 1 s.size).size := by omega
  clear hsz
  go_enter Tryd.func31, Tryd.ntmps31
  go_wp2
  clear hc45 hc8 hone
  go_loop [2, 3, 5, 6, 7] (fun r1 r2 n great i => ∃ k : Nat, k ≤ s.size - 1 ∧ i = .int .i64 k ∧ ∃ (nv : Int) (g : Bool), n = .int .u64 nv ∧ great = .bool g ∧ RInv 9223372036854775808 (s.extract 1 s.size).data.toList k nv g) (fun _ _ _ _ i => s.size - 1 - (intOf i).toNat)
  case atStart => exact ⟨0, Nat.zero_le _, rfl, 0, false, rfl, rfl, rinv_zero _ _⟩
  case round =>
    obtain ⟨k, hk, rfl, nv, g, rfl, rfl, hI⟩ := hrel
    by_cases hlt : k < (s.extract 1 s.size).size
    · have hc := get_list (s.extract 1 s.size) k hlt
      by_cases hlo : (s.extract 1 s.size)[k].toNat < 48
      · have HB := Lib.hid (hM.bad hlt (notdig_lo hlo))
        clear hc hI
        go_wp2
        go_ret2
        exact retR HB.out
      · by_cases hhi : 57 < (s.extract 1 s.size)[k].toNat
        · have HB := Lib.hid (hM.bad hlt (notdig_hi hhi))
          clear hc hI
          go_wp2
          go_ret2
          exact retR HB.out
        · have hst := rinv_step (by omega) (by omega) hI hc (by omega) (by omega)
          have HB := Lib.hid hst
          clear hst hc hI
          cases g
          · go_wp2
            refine ⟨⟨k + 1, by omega, by go_num, _, _, rfl, rfl, HB.out⟩, by simp [intOf]; omega⟩
          · go_wp2
            refine ⟨⟨k + 1, by omega, by go_num, _, true, rfl, rfl, HB.out⟩, by simp [intOf]; omega⟩
    · have hk2 : k = (s.extract 1 s.size).size := by omega
      rw [hk2] at hI
      have hkk : s.size - 1 ≤ k := by omega
      have hlts : ((s.size - 1 : Nat) : Int) < s.size := by omega
      clear hk2
      cases g
      · have HB := Lib.hid (hM.end_ok hI)
        clear hI
        go_wp2
        go_ret2
        exact retR HB.out
      · have HB := Lib.hid (hM.end_far hI)
        clear hI
        go_wp2
        go_ret2
        exact retR HB.out

theorem refread_any (s : ByteArray) (w : World) (hs : s.size ≤ 140737488351232) : Calls Tryd.prog 31 #[.string s] w (RetR s.data.toList w) := by
  by_cases h0 : s.size = 0
  · exact refread_empty s w h0
  · by_cases h45 : s.data.toList.head? = some 45
    · by_cases h1 : s.size = 1
      · exact refread_lone s w h1 h45
      · by_cases h48 : s.data.toList.tail.head? = some 48
        · exact refread_minus_nought s w (by omega) h45 h48
        · exact refread_minus s w hs (by omega) ⟨ext1_list s, h45, by rw [ext1_size]; omega, by rw [ext1_list]; exact h48⟩
    · by_cases h48 : s.data.toList.head? = some 48 ∧ 1 < s.size
      · exact refread_nought s w h48.2 h48.1
      · exact refread_plain s w hs (by omega) ⟨by omega, h45, h48⟩
end Go.Proofs.YtclejidkahpemaaDoor
