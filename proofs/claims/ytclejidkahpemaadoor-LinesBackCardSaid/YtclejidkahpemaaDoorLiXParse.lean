/- The document's Parse. Printed by mkxp.py. -/
import Derived.Test.YtclejidkahpemaaDoorLiParse
import Derived.Test.YtclejidkahpemaaDoorLiX
import Derived.Deep.CutBlock
namespace Go.Proofs.YtclejidkahpemaaDoor
open Go.RowKit
set_option linter.unusedVariables false
set_option linter.unusedSimpArgs false
attribute [local irreducible] ByteArray.extract ByteArray.toList
attribute [local go_sem] Oper.semAt_some run_store_func run_store_nilFunc
theorem xres2_ret {w W : World} {R : Thing} {a b : Array Value} {s : List UInt8} {tmps : Array Value} (h2 : tmps.getD 2 undef = .pointer (some ⟨w.heap.size, 0, none⟩)) (h3 : tmps.getD 3 undef = .pointer (some ⟨w.heap.size + 1, 0, none⟩)) (ha : a = cmA (parseL s).1) (hb : b = flV (parseL s).2) (H : Lies w.heap.size w W (Res2 w a b R)) :
    bodyPost Tryd.prog Tryd.f15 (RetP s w) .ret { tmps := tmps, defers := [] } W := by
  have h1 := (show Lies _ _ _ (sepT _ _) from H).blk.1
  have h4 := ((show Lies _ _ _ (sepT _ _) from H).turn (a' := sepT (blkT (w.heap.size + 1) 31 b) (sepT (blkT w.heap.size 23 a) R)) (by ac_rfl)).blk.1
  subst ha hb
  exact bodyPost_ret (results_rows2 rfl _ _ w.heap.size (w.heap.size + 1) 23 31 (cmA (parseL s).1) (flV (parseL s).2) (0, 0) (0, 0) _ _ h2 h1 Tryd.underlying23 rfl (by kernel_rfl) h3 h4 Tryd.underlying31 rfl (by kernel_rfl)) rfl ⟨rfl, H.below⟩
theorem res2_lit (w : World) (a b : Array Value) : Lies w.heap.size w ((w.alloc (.cells a 23)).alloc (.cells b 31)) (Res2 w a b empT) := by
  have h := ((Lies.nil w).newBlk 23 a).newBlk 31 b
  rw [World.size_alloc] at h
  exact h.turn (by unfold Res2; ac_rfl)
theorem cut_lt {s : List UInt8} {c : UInt8} {i : Nat} (h : i < (cutL s c).length) : i < s.length ∧ s.getD i 0 ≠ c := by
  have hl : (cutL s c).length ≤ s.length := (List.takeWhile_sublist _).length_le
  have hi : i < s.length := by omega
  refine ⟨hi, ?_⟩
  have hm : (cutL s c)[i] ∈ cutL s c := List.getElem_mem h
  have h1 : ((cutL s c)[i] != c) = true := List.all_eq_true.1 (List.all_takeWhile (p := fun x => x != c) (l := s)) _ hm
  have h2 : (cutL s c)[i] = s[i] := by
    have := take_cut s c
    have h3 : (s.take (cutL s c).length)[i]'(by rw [List.length_take]; omega) = s[i] := List.getElem_take
    rw [← h3]
    congr 1
    exact this.symm
  rw [List.getD_eq_getElem?_getD, List.getElem?_eq_getElem hi]
  simp only [Option.getD_some]
  rw [← h2]
  simpa using h1
theorem cut_end {s : List UInt8} {c : UInt8} (h : (cutL s c).length < s.length) : s.getD (cutL s c).length 0 = c := by
  induction s with
  | nil => simp at h
  | cons x s ih =>
    unfold cutL at h ⊢
    by_cases hx : x = c
    · subst hx
      rw [List.takeWhile_cons_of_neg (by simp)]
      rfl
    · rw [List.takeWhile_cons_of_pos (by simpa using hx)] at h ⊢
      simp only [List.length_cons, Nat.add_lt_add_iff_right] at h
      have := ih h
      simpa [cutL] using this
set_option maxRecDepth 100000 in
set_option maxHeartbeats 3200000 in
theorem xparse_long (s : List UInt8) (hs : s.length ≤ 140737488351232) (h : 4100 < s.length) (w : World) : Calls Tryd.prog 15 #[.string (sOf s)] w (RetP s w) := by
  have HE := Lib.hid (parse_far h)
  have hsz : (sOf s).size = s.length := sOf_size s
  have h' : (4100 : Int) < ((sOf s).size : Int) := by omega
  have HZ := Lib.hid (res2_lit w Z3 #[.int .i64 4, .int .i64 4100])
  clear h hsz
  go_enter Tryd.func15, Tryd.ntmps15
  go_wp2_with fail
  exact xres2_ret rfl rfl (by rw [HE.out]; rfl) (by rw [HE.out]; rfl) HZ.out
set_option maxRecDepth 100000 in
set_option maxHeartbeats 3200000 in
theorem xparse_0 (s : List UInt8) (hs : s.length ≤ 140737488351232) (hn : ¬ 4100 < s.length) (hk : kindL (cutL s 32) = 0) (w : World) : Calls Tryd.prog 15 #[.string (sOf s)] w (RetP s w) := by
  have hE := parse_no hn hk
  have hsz : (sOf s).size = s.length := sOf_size s
  have h' : ¬ (4100 : Int) < ((sOf s).size : Int) := by omega
  have hbz : (sOf s).size ≤ 4100 := by omega
  have hws : (cutL s 32).length ≤ (sOf s).size := by rw [hsz]; exact (List.takeWhile_sublist _).length_le
  have hR := res2_new w
  have HKi := Lib.hid (xkind_any (cutL s 32) ((w.alloc (.cells Z3 23)).alloc (.cells #[.int .i64 0, .int .i64 0] 31)))
  rw [hk] at HKi
  have e1 : (sOf s).extract 0 (cutL s 32).length = sOf (cutL s 32) := by rw [sOf_take, take_cut]
  have e2 : (sOf s).extract ((cutL s 32).length + 1) (sOf s).size = sOf (s.drop ((cutL s 32).length + 1)) := sOf_drop _ _ _ (by rw [sOf_size]; exact Nat.le_refl _)
  have hlt : ∀ i, i < (cutL s 32).length → ∃ h : i < (sOf s).size, ((((sOf s)[i]'h).toNat : Int) == 32) = false := fun i hi => by
    obtain ⟨h1, h2⟩ := cut_lt hi
    have h3 : i < (sOf s).size := by rw [hsz]; exact h1
    refine ⟨h3, ?_⟩
    have h4 := byte_at (sOf s) i h3
    rw [sOf_list] at h4
    rw [← h4]
    cases hh : (((s.getD i 0).toNat : Int) == 32) with
    | false => rfl
    | true =>
      rw [beq_iff_eq] at hh
      exact absurd (UInt8.toNat_inj.1 (by show (s.getD i 0).toNat = 32; omega)) h2
  have hend : ∀ h : (cutL s 32).length < (sOf s).size, ((((sOf s)[(cutL s 32).length]'h).toNat : Int) == 32) = true := fun h => by
    have h4 := byte_at (sOf s) _ h
    rw [sOf_list, cut_end (by rw [← hsz]; exact h)] at h4
    rw [← h4]; rfl
  have hml : (sOf (s.drop ((cutL s 32).length + 1))).size = (s.drop ((cutL s 32).length + 1)).length := sOf_size _
  have hms : (s.drop ((cutL s 32).length + 1)).length ≤ 4100 := by rw [List.length_drop]; omega
  have hq : True := trivial
  have HML := Lib.hid hml
  have HMs := Lib.hid hms
  have HE := Lib.hid hE
  have HR := Lib.hid hR
  have HLt := Lib.hid hlt
  have HEn := Lib.hid hend
  clear hE hs hn hk hR hlt hend hml hms hsz
  obtain ⟨wd, hwd⟩ : ∃ x, x = cutL s 32 := ⟨_, rfl⟩
  rw [← hwd] at HKi e1 e2 HLt HEn HML HMs hws
  try rw [← hwd] at hq
  try rw [← hwd] at HE
  obtain ⟨m, hm⟩ : ∃ x, x = s.drop (wd.length + 1) := ⟨_, rfl⟩
  rw [← hm] at e2 HML HMs
  try rw [← hm] at HE
  have HE1 := Lib.hid e1
  obtain ⟨j, hj⟩ : ∃ x, x = wd.length := ⟨_, rfl⟩
  rw [← hj] at e1 e2 HLt HEn hws
  try rw [← hj] at hq
  try rw [← hj] at HE
  have hj41 : j ≤ 4100 := by omega
  rw [← e1] at HKi
  have HEw := Lib.hid e1
  have HE2 := Lib.hid e2
  clear hm hwd hj HE1 e1 e2
  have E : True := trivial
  go_enter Tryd.func15, Tryd.ntmps15
  go_upto_block 0 with fail
  go_cut [4] from 5 (fun v4 wx => v4 = .int .i64 j ∧ wx = ((w.alloc (.cells Z3 23)).alloc (.cells #[.int .i64 0, .int .i64 0] 31)))
  case first =>
    go_wp2_with fail
    go_loopw [4] (fun ix wr => ∃ i : Nat, ix = .int .i64 i ∧ i ≤ j ∧ wr = ((w.alloc (.cells Z3 23)).alloc (.cells #[.int .i64 0, .int .i64 0] 31))) (fun ix _ => j - (intOf ix).toNat)
    case atStart => exact ⟨0, rfl, Nat.zero_le _, rfl⟩
    case round =>
      obtain ⟨i, rfl, hi, rfl⟩ := hrel
      by_cases hij : i < j
      · obtain ⟨hz, hb⟩ := HLt.out i hij
        have hz' : (i : Int) < ((sOf s).size : Int) := by omega
        go_wp2_with fail
        exact ⟨⟨i + 1, by go_num, by omega, by trivial⟩, by simp [intOf]; omega⟩
      · obtain rfl : i = j := by omega
        by_cases hz : i < (sOf s).size
        · have hb := HEn.out hz
          have hz' : (i : Int) < ((sOf s).size : Int) := by omega
          go_wp2_with fail
          all_goals (go_meet; exact ⟨rfl, rfl⟩)
        · have hz' : ¬ (i : Int) < ((sOf s).size : Int) := by omega
          go_wp2_with fail
          all_goals (go_meet; exact ⟨rfl, rfl⟩)
  case rest =>
    obtain ⟨rfl, rfl⟩ := hcut
    clear HLt HEn
    have hjs : (j : Int) ≤ ((sOf s).size : Int) := by omega
    go_wp2_with fail
    refine HKi.out.mono ?_
    rintro e w1 ⟨rfl, rfl⟩
    clear HKi
    have HZ := Lib.hid (res2_lit w Z3 #[.int .i64 5, .int .i64 0])
    go_wp2_with fail
    exact xres2_ret rfl rfl (by rw [HE.out]; rfl) (by rw [HE.out]; rfl) HZ.out
set_option maxRecDepth 100000 in
set_option maxHeartbeats 3200000 in
theorem xparse_4s (s : List UInt8) (hs : s.length ≤ 140737488351232) (hn : ¬ 4100 < s.length) (hk : kindL (cutL s 32) = 4) (h2 : (cutL s 32).length < s.length) (w : World) : Calls Tryd.prog 15 #[.string (sOf s)] w (RetP s w) := by
  have hE := parse_space hn (by rw [hk]; decide) (by rw [hk, decide_eq_true rfl, decide_eq_false (by omega)]; decide)
  have hsz : (sOf s).size = s.length := sOf_size s
  have h' : ¬ (4100 : Int) < ((sOf s).size : Int) := by omega
  have hbz : (sOf s).size ≤ 4100 := by omega
  have hws : (cutL s 32).length ≤ (sOf s).size := by rw [hsz]; exact (List.takeWhile_sublist _).length_le
  have hR := res2_new w
  have HKi := Lib.hid (xkind_any (cutL s 32) ((w.alloc (.cells Z3 23)).alloc (.cells #[.int .i64 0, .int .i64 0] 31)))
  rw [hk] at HKi
  have e1 : (sOf s).extract 0 (cutL s 32).length = sOf (cutL s 32) := by rw [sOf_take, take_cut]
  have e2 : (sOf s).extract ((cutL s 32).length + 1) (sOf s).size = sOf (s.drop ((cutL s 32).length + 1)) := sOf_drop _ _ _ (by rw [sOf_size]; exact Nat.le_refl _)
  have hlt : ∀ i, i < (cutL s 32).length → ∃ h : i < (sOf s).size, ((((sOf s)[i]'h).toNat : Int) == 32) = false := fun i hi => by
    obtain ⟨h1, h2⟩ := cut_lt hi
    have h3 : i < (sOf s).size := by rw [hsz]; exact h1
    refine ⟨h3, ?_⟩
    have h4 := byte_at (sOf s) i h3
    rw [sOf_list] at h4
    rw [← h4]
    cases hh : (((s.getD i 0).toNat : Int) == 32) with
    | false => rfl
    | true =>
      rw [beq_iff_eq] at hh
      exact absurd (UInt8.toNat_inj.1 (by show (s.getD i 0).toNat = 32; omega)) h2
  have hend : ∀ h : (cutL s 32).length < (sOf s).size, ((((sOf s)[(cutL s 32).length]'h).toNat : Int) == 32) = true := fun h => by
    have h4 := byte_at (sOf s) _ h
    rw [sOf_list, cut_end (by rw [← hsz]; exact h)] at h4
    rw [← h4]; rfl
  have hml : (sOf (s.drop ((cutL s 32).length + 1))).size = (s.drop ((cutL s 32).length + 1)).length := sOf_size _
  have hms : (s.drop ((cutL s 32).length + 1)).length ≤ 4100 := by rw [List.length_drop]; omega
  have hq : (((cutL s 32).length : Int) == ((sOf s).size : Int)) = false := by simp; omega
  have HML := Lib.hid hml
  have HMs := Lib.hid hms
  have HE := Lib.hid hE
  have HR := Lib.hid hR
  have HLt := Lib.hid hlt
  have HEn := Lib.hid hend
  clear hE hs hn hk hR hlt hend hml hms hsz
  obtain ⟨wd, hwd⟩ : ∃ x, x = cutL s 32 := ⟨_, rfl⟩
  rw [← hwd] at HKi e1 e2 HLt HEn HML HMs hws
  try rw [← hwd] at hq
  try rw [← hwd] at HE
  obtain ⟨m, hm⟩ : ∃ x, x = s.drop (wd.length + 1) := ⟨_, rfl⟩
  rw [← hm] at e2 HML HMs
  try rw [← hm] at HE
  have HE1 := Lib.hid e1
  obtain ⟨j, hj⟩ : ∃ x, x = wd.length := ⟨_, rfl⟩
  rw [← hj] at e1 e2 HLt HEn hws
  try rw [← hj] at hq
  try rw [← hj] at HE
  have hj41 : j ≤ 4100 := by omega
  rw [← e1] at HKi
  have HEw := Lib.hid e1
  have HE2 := Lib.hid e2
  clear hm hwd hj HE1 e1 e2
  have E : True := trivial
  go_enter Tryd.func15, Tryd.ntmps15
  go_upto_block 0 with fail
  go_cut [4] from 5 (fun v4 wx => v4 = .int .i64 j ∧ wx = ((w.alloc (.cells Z3 23)).alloc (.cells #[.int .i64 0, .int .i64 0] 31)))
  case first =>
    go_wp2_with fail
    go_loopw [4] (fun ix wr => ∃ i : Nat, ix = .int .i64 i ∧ i ≤ j ∧ wr = ((w.alloc (.cells Z3 23)).alloc (.cells #[.int .i64 0, .int .i64 0] 31))) (fun ix _ => j - (intOf ix).toNat)
    case atStart => exact ⟨0, rfl, Nat.zero_le _, rfl⟩
    case round =>
      obtain ⟨i, rfl, hi, rfl⟩ := hrel
      by_cases hij : i < j
      · obtain ⟨hz, hb⟩ := HLt.out i hij
        have hz' : (i : Int) < ((sOf s).size : Int) := by omega
        go_wp2_with fail
        exact ⟨⟨i + 1, by go_num, by omega, by trivial⟩, by simp [intOf]; omega⟩
      · obtain rfl : i = j := by omega
        by_cases hz : i < (sOf s).size
        · have hb := HEn.out hz
          have hz' : (i : Int) < ((sOf s).size : Int) := by omega
          go_wp2_with fail
          all_goals (go_meet; exact ⟨rfl, rfl⟩)
        · have hz' : ¬ (i : Int) < ((sOf s).size : Int) := by omega
          go_wp2_with fail
          all_goals (go_meet; exact ⟨rfl, rfl⟩)
  case rest =>
    obtain ⟨rfl, rfl⟩ := hcut
    clear HLt HEn
    have hjs : (j : Int) ≤ ((sOf s).size : Int) := by omega
    go_wp2_with fail
    refine HKi.out.mono ?_
    rintro e w1 ⟨rfl, rfl⟩
    clear HKi
    have HZ := Lib.hid (res2_lit w Z3 #[.int .i64 5, .int .i64 j])
    go_wp2_with fail
    exact xres2_ret rfl rfl (by rw [HE.out]; rfl) (by rw [HE.out]; rfl) HZ.out
set_option maxRecDepth 100000 in
set_option maxHeartbeats 3200000 in
theorem xparse_1s (s : List UInt8) (hs : s.length ≤ 140737488351232) (hn : ¬ 4100 < s.length) (hk : kindL (cutL s 32) = 1) (h2 : ¬ (cutL s 32).length < s.length) (w : World) : Calls Tryd.prog 15 #[.string (sOf s)] w (RetP s w) := by
  have hE := parse_space hn (by rw [hk]; decide) (by rw [hk, decide_eq_false (by decide), decide_eq_true (by have := (List.takeWhile_sublist (fun x => x != 32) (l := s)).length_le; unfold cutL at h2 ⊢; omega)]; decide)
  have hsz : (sOf s).size = s.length := sOf_size s
  have h' : ¬ (4100 : Int) < ((sOf s).size : Int) := by omega
  have hbz : (sOf s).size ≤ 4100 := by omega
  have hws : (cutL s 32).length ≤ (sOf s).size := by rw [hsz]; exact (List.takeWhile_sublist _).length_le
  have hR := res2_new w
  have HKi := Lib.hid (xkind_any (cutL s 32) ((w.alloc (.cells Z3 23)).alloc (.cells #[.int .i64 0, .int .i64 0] 31)))
  rw [hk] at HKi
  have e1 : (sOf s).extract 0 (cutL s 32).length = sOf (cutL s 32) := by rw [sOf_take, take_cut]
  have e2 : (sOf s).extract ((cutL s 32).length + 1) (sOf s).size = sOf (s.drop ((cutL s 32).length + 1)) := sOf_drop _ _ _ (by rw [sOf_size]; exact Nat.le_refl _)
  have hlt : ∀ i, i < (cutL s 32).length → ∃ h : i < (sOf s).size, ((((sOf s)[i]'h).toNat : Int) == 32) = false := fun i hi => by
    obtain ⟨h1, h2⟩ := cut_lt hi
    have h3 : i < (sOf s).size := by rw [hsz]; exact h1
    refine ⟨h3, ?_⟩
    have h4 := byte_at (sOf s) i h3
    rw [sOf_list] at h4
    rw [← h4]
    cases hh : (((s.getD i 0).toNat : Int) == 32) with
    | false => rfl
    | true =>
      rw [beq_iff_eq] at hh
      exact absurd (UInt8.toNat_inj.1 (by show (s.getD i 0).toNat = 32; omega)) h2
  have hend : ∀ h : (cutL s 32).length < (sOf s).size, ((((sOf s)[(cutL s 32).length]'h).toNat : Int) == 32) = true := fun h => by
    have h4 := byte_at (sOf s) _ h
    rw [sOf_list, cut_end (by rw [← hsz]; exact h)] at h4
    rw [← h4]; rfl
  have hml : (sOf (s.drop ((cutL s 32).length + 1))).size = (s.drop ((cutL s 32).length + 1)).length := sOf_size _
  have hms : (s.drop ((cutL s 32).length + 1)).length ≤ 4100 := by rw [List.length_drop]; omega
  have hq : (((cutL s 32).length : Int) == ((sOf s).size : Int)) = true := by simp; omega
  have HML := Lib.hid hml
  have HMs := Lib.hid hms
  have HE := Lib.hid hE
  have HR := Lib.hid hR
  have HLt := Lib.hid hlt
  have HEn := Lib.hid hend
  clear hE hs hn hk hR hlt hend hml hms hsz
  obtain ⟨wd, hwd⟩ : ∃ x, x = cutL s 32 := ⟨_, rfl⟩
  rw [← hwd] at HKi e1 e2 HLt HEn HML HMs hws
  try rw [← hwd] at hq
  try rw [← hwd] at HE
  obtain ⟨m, hm⟩ : ∃ x, x = s.drop (wd.length + 1) := ⟨_, rfl⟩
  rw [← hm] at e2 HML HMs
  try rw [← hm] at HE
  have HE1 := Lib.hid e1
  obtain ⟨j, hj⟩ : ∃ x, x = wd.length := ⟨_, rfl⟩
  rw [← hj] at e1 e2 HLt HEn hws
  try rw [← hj] at hq
  try rw [← hj] at HE
  have hj41 : j ≤ 4100 := by omega
  rw [← e1] at HKi
  have HEw := Lib.hid e1
  have HE2 := Lib.hid e2
  clear hm hwd hj HE1 e1 e2
  have E : True := trivial
  go_enter Tryd.func15, Tryd.ntmps15
  go_upto_block 0 with fail
  go_cut [4] from 5 (fun v4 wx => v4 = .int .i64 j ∧ wx = ((w.alloc (.cells Z3 23)).alloc (.cells #[.int .i64 0, .int .i64 0] 31)))
  case first =>
    go_wp2_with fail
    go_loopw [4] (fun ix wr => ∃ i : Nat, ix = .int .i64 i ∧ i ≤ j ∧ wr = ((w.alloc (.cells Z3 23)).alloc (.cells #[.int .i64 0, .int .i64 0] 31))) (fun ix _ => j - (intOf ix).toNat)
    case atStart => exact ⟨0, rfl, Nat.zero_le _, rfl⟩
    case round =>
      obtain ⟨i, rfl, hi, rfl⟩ := hrel
      by_cases hij : i < j
      · obtain ⟨hz, hb⟩ := HLt.out i hij
        have hz' : (i : Int) < ((sOf s).size : Int) := by omega
        go_wp2_with fail
        exact ⟨⟨i + 1, by go_num, by omega, by trivial⟩, by simp [intOf]; omega⟩
      · obtain rfl : i = j := by omega
        by_cases hz : i < (sOf s).size
        · have hb := HEn.out hz
          have hz' : (i : Int) < ((sOf s).size : Int) := by omega
          go_wp2_with fail
          all_goals (go_meet; exact ⟨rfl, rfl⟩)
        · have hz' : ¬ (i : Int) < ((sOf s).size : Int) := by omega
          go_wp2_with fail
          all_goals (go_meet; exact ⟨rfl, rfl⟩)
  case rest =>
    obtain ⟨rfl, rfl⟩ := hcut
    clear HLt HEn
    have hjs : (j : Int) ≤ ((sOf s).size : Int) := by omega
    go_wp2_with fail
    refine HKi.out.mono ?_
    rintro e w1 ⟨rfl, rfl⟩
    clear HKi
    have HZ := Lib.hid (res2_lit w Z3 #[.int .i64 5, .int .i64 j])
    go_wp2_with fail
    exact xres2_ret rfl rfl (by rw [HE.out]; rfl) (by rw [HE.out]; rfl) HZ.out
set_option maxRecDepth 100000 in
set_option maxHeartbeats 3200000 in
theorem xparse_2s (s : List UInt8) (hs : s.length ≤ 140737488351232) (hn : ¬ 4100 < s.length) (hk : kindL (cutL s 32) = 2) (h2 : ¬ (cutL s 32).length < s.length) (w : World) : Calls Tryd.prog 15 #[.string (sOf s)] w (RetP s w) := by
  have hE := parse_space hn (by rw [hk]; decide) (by rw [hk, decide_eq_false (by decide), decide_eq_true (by have := (List.takeWhile_sublist (fun x => x != 32) (l := s)).length_le; unfold cutL at h2 ⊢; omega)]; decide)
  have hsz : (sOf s).size = s.length := sOf_size s
  have h' : ¬ (4100 : Int) < ((sOf s).size : Int) := by omega
  have hbz : (sOf s).size ≤ 4100 := by omega
  have hws : (cutL s 32).length ≤ (sOf s).size := by rw [hsz]; exact (List.takeWhile_sublist _).length_le
  have hR := res2_new w
  have HKi := Lib.hid (xkind_any (cutL s 32) ((w.alloc (.cells Z3 23)).alloc (.cells #[.int .i64 0, .int .i64 0] 31)))
  rw [hk] at HKi
  have e1 : (sOf s).extract 0 (cutL s 32).length = sOf (cutL s 32) := by rw [sOf_take, take_cut]
  have e2 : (sOf s).extract ((cutL s 32).length + 1) (sOf s).size = sOf (s.drop ((cutL s 32).length + 1)) := sOf_drop _ _ _ (by rw [sOf_size]; exact Nat.le_refl _)
  have hlt : ∀ i, i < (cutL s 32).length → ∃ h : i < (sOf s).size, ((((sOf s)[i]'h).toNat : Int) == 32) = false := fun i hi => by
    obtain ⟨h1, h2⟩ := cut_lt hi
    have h3 : i < (sOf s).size := by rw [hsz]; exact h1
    refine ⟨h3, ?_⟩
    have h4 := byte_at (sOf s) i h3
    rw [sOf_list] at h4
    rw [← h4]
    cases hh : (((s.getD i 0).toNat : Int) == 32) with
    | false => rfl
    | true =>
      rw [beq_iff_eq] at hh
      exact absurd (UInt8.toNat_inj.1 (by show (s.getD i 0).toNat = 32; omega)) h2
  have hend : ∀ h : (cutL s 32).length < (sOf s).size, ((((sOf s)[(cutL s 32).length]'h).toNat : Int) == 32) = true := fun h => by
    have h4 := byte_at (sOf s) _ h
    rw [sOf_list, cut_end (by rw [← hsz]; exact h)] at h4
    rw [← h4]; rfl
  have hml : (sOf (s.drop ((cutL s 32).length + 1))).size = (s.drop ((cutL s 32).length + 1)).length := sOf_size _
  have hms : (s.drop ((cutL s 32).length + 1)).length ≤ 4100 := by rw [List.length_drop]; omega
  have hq : (((cutL s 32).length : Int) == ((sOf s).size : Int)) = true := by simp; omega
  have HML := Lib.hid hml
  have HMs := Lib.hid hms
  have HE := Lib.hid hE
  have HR := Lib.hid hR
  have HLt := Lib.hid hlt
  have HEn := Lib.hid hend
  clear hE hs hn hk hR hlt hend hml hms hsz
  obtain ⟨wd, hwd⟩ : ∃ x, x = cutL s 32 := ⟨_, rfl⟩
  rw [← hwd] at HKi e1 e2 HLt HEn HML HMs hws
  try rw [← hwd] at hq
  try rw [← hwd] at HE
  obtain ⟨m, hm⟩ : ∃ x, x = s.drop (wd.length + 1) := ⟨_, rfl⟩
  rw [← hm] at e2 HML HMs
  try rw [← hm] at HE
  have HE1 := Lib.hid e1
  obtain ⟨j, hj⟩ : ∃ x, x = wd.length := ⟨_, rfl⟩
  rw [← hj] at e1 e2 HLt HEn hws
  try rw [← hj] at hq
  try rw [← hj] at HE
  have hj41 : j ≤ 4100 := by omega
  rw [← e1] at HKi
  have HEw := Lib.hid e1
  have HE2 := Lib.hid e2
  clear hm hwd hj HE1 e1 e2
  have E : True := trivial
  go_enter Tryd.func15, Tryd.ntmps15
  go_upto_block 0 with fail
  go_cut [4] from 5 (fun v4 wx => v4 = .int .i64 j ∧ wx = ((w.alloc (.cells Z3 23)).alloc (.cells #[.int .i64 0, .int .i64 0] 31)))
  case first =>
    go_wp2_with fail
    go_loopw [4] (fun ix wr => ∃ i : Nat, ix = .int .i64 i ∧ i ≤ j ∧ wr = ((w.alloc (.cells Z3 23)).alloc (.cells #[.int .i64 0, .int .i64 0] 31))) (fun ix _ => j - (intOf ix).toNat)
    case atStart => exact ⟨0, rfl, Nat.zero_le _, rfl⟩
    case round =>
      obtain ⟨i, rfl, hi, rfl⟩ := hrel
      by_cases hij : i < j
      · obtain ⟨hz, hb⟩ := HLt.out i hij
        have hz' : (i : Int) < ((sOf s).size : Int) := by omega
        go_wp2_with fail
        exact ⟨⟨i + 1, by go_num, by omega, by trivial⟩, by simp [intOf]; omega⟩
      · obtain rfl : i = j := by omega
        by_cases hz : i < (sOf s).size
        · have hb := HEn.out hz
          have hz' : (i : Int) < ((sOf s).size : Int) := by omega
          go_wp2_with fail
          all_goals (go_meet; exact ⟨rfl, rfl⟩)
        · have hz' : ¬ (i : Int) < ((sOf s).size : Int) := by omega
          go_wp2_with fail
          all_goals (go_meet; exact ⟨rfl, rfl⟩)
  case rest =>
    obtain ⟨rfl, rfl⟩ := hcut
    clear HLt HEn
    have hjs : (j : Int) ≤ ((sOf s).size : Int) := by omega
    go_wp2_with fail
    refine HKi.out.mono ?_
    rintro e w1 ⟨rfl, rfl⟩
    clear HKi
    have HZ := Lib.hid (res2_lit w Z3 #[.int .i64 5, .int .i64 j])
    go_wp2_with fail
    exact xres2_ret rfl rfl (by rw [HE.out]; rfl) (by rw [HE.out]; rfl) HZ.out
set_option maxRecDepth 100000 in
set_option maxHeartbeats 3200000 in
theorem xparse_3s (s : List UInt8) (hs : s.length ≤ 140737488351232) (hn : ¬ 4100 < s.length) (hk : kindL (cutL s 32) = 3) (h2 : ¬ (cutL s 32).length < s.length) (w : World) : Calls Tryd.prog 15 #[.string (sOf s)] w (RetP s w) := by
  have hE := parse_space hn (by rw [hk]; decide) (by rw [hk, decide_eq_false (by decide), decide_eq_true (by have := (List.takeWhile_sublist (fun x => x != 32) (l := s)).length_le; unfold cutL at h2 ⊢; omega)]; decide)
  have hsz : (sOf s).size = s.length := sOf_size s
  have h' : ¬ (4100 : Int) < ((sOf s).size : Int) := by omega
  have hbz : (sOf s).size ≤ 4100 := by omega
  have hws : (cutL s 32).length ≤ (sOf s).size := by rw [hsz]; exact (List.takeWhile_sublist _).length_le
  have hR := res2_new w
  have HKi := Lib.hid (xkind_any (cutL s 32) ((w.alloc (.cells Z3 23)).alloc (.cells #[.int .i64 0, .int .i64 0] 31)))
  rw [hk] at HKi
  have e1 : (sOf s).extract 0 (cutL s 32).length = sOf (cutL s 32) := by rw [sOf_take, take_cut]
  have e2 : (sOf s).extract ((cutL s 32).length + 1) (sOf s).size = sOf (s.drop ((cutL s 32).length + 1)) := sOf_drop _ _ _ (by rw [sOf_size]; exact Nat.le_refl _)
  have hlt : ∀ i, i < (cutL s 32).length → ∃ h : i < (sOf s).size, ((((sOf s)[i]'h).toNat : Int) == 32) = false := fun i hi => by
    obtain ⟨h1, h2⟩ := cut_lt hi
    have h3 : i < (sOf s).size := by rw [hsz]; exact h1
    refine ⟨h3, ?_⟩
    have h4 := byte_at (sOf s) i h3
    rw [sOf_list] at h4
    rw [← h4]
    cases hh : (((s.getD i 0).toNat : Int) == 32) with
    | false => rfl
    | true =>
      rw [beq_iff_eq] at hh
      exact absurd (UInt8.toNat_inj.1 (by show (s.getD i 0).toNat = 32; omega)) h2
  have hend : ∀ h : (cutL s 32).length < (sOf s).size, ((((sOf s)[(cutL s 32).length]'h).toNat : Int) == 32) = true := fun h => by
    have h4 := byte_at (sOf s) _ h
    rw [sOf_list, cut_end (by rw [← hsz]; exact h)] at h4
    rw [← h4]; rfl
  have hml : (sOf (s.drop ((cutL s 32).length + 1))).size = (s.drop ((cutL s 32).length + 1)).length := sOf_size _
  have hms : (s.drop ((cutL s 32).length + 1)).length ≤ 4100 := by rw [List.length_drop]; omega
  have hq : (((cutL s 32).length : Int) == ((sOf s).size : Int)) = true := by simp; omega
  have HML := Lib.hid hml
  have HMs := Lib.hid hms
  have HE := Lib.hid hE
  have HR := Lib.hid hR
  have HLt := Lib.hid hlt
  have HEn := Lib.hid hend
  clear hE hs hn hk hR hlt hend hml hms hsz
  obtain ⟨wd, hwd⟩ : ∃ x, x = cutL s 32 := ⟨_, rfl⟩
  rw [← hwd] at HKi e1 e2 HLt HEn HML HMs hws
  try rw [← hwd] at hq
  try rw [← hwd] at HE
  obtain ⟨m, hm⟩ : ∃ x, x = s.drop (wd.length + 1) := ⟨_, rfl⟩
  rw [← hm] at e2 HML HMs
  try rw [← hm] at HE
  have HE1 := Lib.hid e1
  obtain ⟨j, hj⟩ : ∃ x, x = wd.length := ⟨_, rfl⟩
  rw [← hj] at e1 e2 HLt HEn hws
  try rw [← hj] at hq
  try rw [← hj] at HE
  have hj41 : j ≤ 4100 := by omega
  rw [← e1] at HKi
  have HEw := Lib.hid e1
  have HE2 := Lib.hid e2
  clear hm hwd hj HE1 e1 e2
  have E : True := trivial
  go_enter Tryd.func15, Tryd.ntmps15
  go_upto_block 0 with fail
  go_cut [4] from 5 (fun v4 wx => v4 = .int .i64 j ∧ wx = ((w.alloc (.cells Z3 23)).alloc (.cells #[.int .i64 0, .int .i64 0] 31)))
  case first =>
    go_wp2_with fail
    go_loopw [4] (fun ix wr => ∃ i : Nat, ix = .int .i64 i ∧ i ≤ j ∧ wr = ((w.alloc (.cells Z3 23)).alloc (.cells #[.int .i64 0, .int .i64 0] 31))) (fun ix _ => j - (intOf ix).toNat)
    case atStart => exact ⟨0, rfl, Nat.zero_le _, rfl⟩
    case round =>
      obtain ⟨i, rfl, hi, rfl⟩ := hrel
      by_cases hij : i < j
      · obtain ⟨hz, hb⟩ := HLt.out i hij
        have hz' : (i : Int) < ((sOf s).size : Int) := by omega
        go_wp2_with fail
        exact ⟨⟨i + 1, by go_num, by omega, by trivial⟩, by simp [intOf]; omega⟩
      · obtain rfl : i = j := by omega
        by_cases hz : i < (sOf s).size
        · have hb := HEn.out hz
          have hz' : (i : Int) < ((sOf s).size : Int) := by omega
          go_wp2_with fail
          all_goals (go_meet; exact ⟨rfl, rfl⟩)
        · have hz' : ¬ (i : Int) < ((sOf s).size : Int) := by omega
          go_wp2_with fail
          all_goals (go_meet; exact ⟨rfl, rfl⟩)
  case rest =>
    obtain ⟨rfl, rfl⟩ := hcut
    clear HLt HEn
    have hjs : (j : Int) ≤ ((sOf s).size : Int) := by omega
    go_wp2_with fail
    refine HKi.out.mono ?_
    rintro e w1 ⟨rfl, rfl⟩
    clear HKi
    have HZ := Lib.hid (res2_lit w Z3 #[.int .i64 5, .int .i64 j])
    go_wp2_with fail
    exact xres2_ret rfl rfl (by rw [HE.out]; rfl) (by rw [HE.out]; rfl) HZ.out
set_option maxRecDepth 100000 in
set_option maxHeartbeats 3200000 in
theorem xparse_4b (s : List UInt8) (hs : s.length ≤ 140737488351232) (hn : ¬ 4100 < s.length) (hk : kindL (cutL s 32) = 4) (h2 : (cutL s 32).length = s.length) (w : World) : Calls Tryd.prog 15 #[.string (sOf s)] w (RetP s w) := by
  have hE := (parse_bare hn hk h2).trans (by rw [(cut_all (s := s) (c := 32) (by omega)).1] : _ = ((⟨s, [], 0⟩ : Cm), ((0 : Int), (0 : Int))))
  have hsz : (sOf s).size = s.length := sOf_size s
  have h' : ¬ (4100 : Int) < ((sOf s).size : Int) := by omega
  have hbz : (sOf s).size ≤ 4100 := by omega
  have hws : (cutL s 32).length ≤ (sOf s).size := by rw [hsz]; exact (List.takeWhile_sublist _).length_le
  have hR := res2_new w
  have HKi := Lib.hid (xkind_any (cutL s 32) ((w.alloc (.cells Z3 23)).alloc (.cells #[.int .i64 0, .int .i64 0] 31)))
  rw [hk] at HKi
  have e1 : (sOf s).extract 0 (cutL s 32).length = sOf (cutL s 32) := by rw [sOf_take, take_cut]
  have e2 : (sOf s).extract ((cutL s 32).length + 1) (sOf s).size = sOf (s.drop ((cutL s 32).length + 1)) := sOf_drop _ _ _ (by rw [sOf_size]; exact Nat.le_refl _)
  have hlt : ∀ i, i < (cutL s 32).length → ∃ h : i < (sOf s).size, ((((sOf s)[i]'h).toNat : Int) == 32) = false := fun i hi => by
    obtain ⟨h1, h2⟩ := cut_lt hi
    have h3 : i < (sOf s).size := by rw [hsz]; exact h1
    refine ⟨h3, ?_⟩
    have h4 := byte_at (sOf s) i h3
    rw [sOf_list] at h4
    rw [← h4]
    cases hh : (((s.getD i 0).toNat : Int) == 32) with
    | false => rfl
    | true =>
      rw [beq_iff_eq] at hh
      exact absurd (UInt8.toNat_inj.1 (by show (s.getD i 0).toNat = 32; omega)) h2
  have hend : ∀ h : (cutL s 32).length < (sOf s).size, ((((sOf s)[(cutL s 32).length]'h).toNat : Int) == 32) = true := fun h => by
    have h4 := byte_at (sOf s) _ h
    rw [sOf_list, cut_end (by rw [← hsz]; exact h)] at h4
    rw [← h4]; rfl
  have hml : (sOf (s.drop ((cutL s 32).length + 1))).size = (s.drop ((cutL s 32).length + 1)).length := sOf_size _
  have hms : (s.drop ((cutL s 32).length + 1)).length ≤ 4100 := by rw [List.length_drop]; omega
  have hq : (((cutL s 32).length : Int) == ((sOf s).size : Int)) = true := by simp; omega
  have HML := Lib.hid hml
  have HMs := Lib.hid hms
  have HE := Lib.hid hE
  have HR := Lib.hid hR
  have HLt := Lib.hid hlt
  have HEn := Lib.hid hend
  clear hE hs hn hk hR hlt hend hml hms hsz
  obtain ⟨wd, hwd⟩ : ∃ x, x = cutL s 32 := ⟨_, rfl⟩
  rw [← hwd] at HKi e1 e2 HLt HEn HML HMs hws
  try rw [← hwd] at hq
  try rw [← hwd] at HE
  obtain ⟨m, hm⟩ : ∃ x, x = s.drop (wd.length + 1) := ⟨_, rfl⟩
  rw [← hm] at e2 HML HMs
  try rw [← hm] at HE
  have HE1 := Lib.hid e1
  obtain ⟨j, hj⟩ : ∃ x, x = wd.length := ⟨_, rfl⟩
  rw [← hj] at e1 e2 HLt HEn hws
  try rw [← hj] at hq
  try rw [← hj] at HE
  have hj41 : j ≤ 4100 := by omega
  rw [← e1] at HKi
  have HEw := Lib.hid e1
  have HE2 := Lib.hid e2
  clear hm hwd hj HE1 e1 e2
  have E : True := trivial
  go_enter Tryd.func15, Tryd.ntmps15
  go_upto_block 0 with fail
  go_cut [4] from 5 (fun v4 wx => v4 = .int .i64 j ∧ wx = ((w.alloc (.cells Z3 23)).alloc (.cells #[.int .i64 0, .int .i64 0] 31)))
  case first =>
    go_wp2_with fail
    go_loopw [4] (fun ix wr => ∃ i : Nat, ix = .int .i64 i ∧ i ≤ j ∧ wr = ((w.alloc (.cells Z3 23)).alloc (.cells #[.int .i64 0, .int .i64 0] 31))) (fun ix _ => j - (intOf ix).toNat)
    case atStart => exact ⟨0, rfl, Nat.zero_le _, rfl⟩
    case round =>
      obtain ⟨i, rfl, hi, rfl⟩ := hrel
      by_cases hij : i < j
      · obtain ⟨hz, hb⟩ := HLt.out i hij
        have hz' : (i : Int) < ((sOf s).size : Int) := by omega
        go_wp2_with fail
        exact ⟨⟨i + 1, by go_num, by omega, by trivial⟩, by simp [intOf]; omega⟩
      · obtain rfl : i = j := by omega
        by_cases hz : i < (sOf s).size
        · have hb := HEn.out hz
          have hz' : (i : Int) < ((sOf s).size : Int) := by omega
          go_wp2_with fail
          all_goals (go_meet; exact ⟨rfl, rfl⟩)
        · have hz' : ¬ (i : Int) < ((sOf s).size : Int) := by omega
          go_wp2_with fail
          all_goals (go_meet; exact ⟨rfl, rfl⟩)
  case rest =>
    obtain ⟨rfl, rfl⟩ := hcut
    clear HLt HEn
    have hjs : (j : Int) ≤ ((sOf s).size : Int) := by omega
    go_wp2_with fail
    refine HKi.out.mono ?_
    rintro e w1 ⟨rfl, rfl⟩
    clear HKi
    have HZ := Lib.hid (res2_lit w #[.string (sOf s), .string ⟨#[]⟩, .int .i64 0] #[.int .i64 0, .int .i64 0])
    go_wp2_with fail
    exact xres2_ret rfl rfl (by rw [HE.out]; rfl) (by rw [HE.out]; rfl) HZ.out
set_option maxRecDepth 100000 in
set_option maxHeartbeats 3200000 in
theorem xparse_1 (s : List UInt8) (hs : s.length ≤ 140737488351232) (hn : ¬ 4100 < s.length) (hk : kindL (cutL s 32) = 1) (h2 : (cutL s 32).length < s.length) (w : World) : Calls Tryd.prog 15 #[.string (sOf s)] w (RetP s w) := by
  have hE := parse_on hn hk (by decide) h2
  have hsz : (sOf s).size = s.length := sOf_size s
  have h' : ¬ (4100 : Int) < ((sOf s).size : Int) := by omega
  have hbz : (sOf s).size ≤ 4100 := by omega
  have hws : (cutL s 32).length ≤ (sOf s).size := by rw [hsz]; exact (List.takeWhile_sublist _).length_le
  have hR := res2_new w
  have HKi := Lib.hid (xkind_any (cutL s 32) ((w.alloc (.cells Z3 23)).alloc (.cells #[.int .i64 0, .int .i64 0] 31)))
  rw [hk] at HKi
  have e1 : (sOf s).extract 0 (cutL s 32).length = sOf (cutL s 32) := by rw [sOf_take, take_cut]
  have e2 : (sOf s).extract ((cutL s 32).length + 1) (sOf s).size = sOf (s.drop ((cutL s 32).length + 1)) := sOf_drop _ _ _ (by rw [sOf_size]; exact Nat.le_refl _)
  have hlt : ∀ i, i < (cutL s 32).length → ∃ h : i < (sOf s).size, ((((sOf s)[i]'h).toNat : Int) == 32) = false := fun i hi => by
    obtain ⟨h1, h2⟩ := cut_lt hi
    have h3 : i < (sOf s).size := by rw [hsz]; exact h1
    refine ⟨h3, ?_⟩
    have h4 := byte_at (sOf s) i h3
    rw [sOf_list] at h4
    rw [← h4]
    cases hh : (((s.getD i 0).toNat : Int) == 32) with
    | false => rfl
    | true =>
      rw [beq_iff_eq] at hh
      exact absurd (UInt8.toNat_inj.1 (by show (s.getD i 0).toNat = 32; omega)) h2
  have hend : ∀ h : (cutL s 32).length < (sOf s).size, ((((sOf s)[(cutL s 32).length]'h).toNat : Int) == 32) = true := fun h => by
    have h4 := byte_at (sOf s) _ h
    rw [sOf_list, cut_end (by rw [← hsz]; exact h)] at h4
    rw [← h4]; rfl
  have hml : (sOf (s.drop ((cutL s 32).length + 1))).size = (s.drop ((cutL s 32).length + 1)).length := sOf_size _
  have hms : (s.drop ((cutL s 32).length + 1)).length ≤ 4100 := by rw [List.length_drop]; omega
  have hq : ((((cutL s 32).length : Int) == ((sOf s).size : Int)) = false) ∧ (cutL s 32).length < (sOf s).size := by constructor; simp; omega; omega
  have HML := Lib.hid hml
  have HMs := Lib.hid hms
  have HE := Lib.hid hE
  have HR := Lib.hid hR
  have HLt := Lib.hid hlt
  have HEn := Lib.hid hend
  clear hE hs hn hk hR hlt hend hml hms hsz
  obtain ⟨wd, hwd⟩ : ∃ x, x = cutL s 32 := ⟨_, rfl⟩
  rw [← hwd] at HKi e1 e2 HLt HEn HML HMs hws
  try rw [← hwd] at hq
  try rw [← hwd] at HE
  obtain ⟨m, hm⟩ : ∃ x, x = s.drop (wd.length + 1) := ⟨_, rfl⟩
  rw [← hm] at e2 HML HMs
  try rw [← hm] at HE
  have HE1 := Lib.hid e1
  obtain ⟨j, hj⟩ : ∃ x, x = wd.length := ⟨_, rfl⟩
  rw [← hj] at e1 e2 HLt HEn hws
  try rw [← hj] at hq
  try rw [← hj] at HE
  have hj41 : j ≤ 4100 := by omega
  rw [← e1] at HKi
  have HEw := Lib.hid e1
  have HE2 := Lib.hid e2
  clear hm hwd hj HE1 e1 e2
  have E : True := trivial
  go_enter Tryd.func15, Tryd.ntmps15
  go_upto_block 0 with fail
  go_cut [4] from 5 (fun v4 wx => v4 = .int .i64 j ∧ wx = ((w.alloc (.cells Z3 23)).alloc (.cells #[.int .i64 0, .int .i64 0] 31)))
  case first =>
    go_wp2_with fail
    go_loopw [4] (fun ix wr => ∃ i : Nat, ix = .int .i64 i ∧ i ≤ j ∧ wr = ((w.alloc (.cells Z3 23)).alloc (.cells #[.int .i64 0, .int .i64 0] 31))) (fun ix _ => j - (intOf ix).toNat)
    case atStart => exact ⟨0, rfl, Nat.zero_le _, rfl⟩
    case round =>
      obtain ⟨i, rfl, hi, rfl⟩ := hrel
      by_cases hij : i < j
      · obtain ⟨hz, hb⟩ := HLt.out i hij
        have hz' : (i : Int) < ((sOf s).size : Int) := by omega
        go_wp2_with fail
        exact ⟨⟨i + 1, by go_num, by omega, by trivial⟩, by simp [intOf]; omega⟩
      · obtain rfl : i = j := by omega
        by_cases hz : i < (sOf s).size
        · have hb := HEn.out hz
          have hz' : (i : Int) < ((sOf s).size : Int) := by omega
          go_wp2_with fail
          all_goals (go_meet; exact ⟨rfl, rfl⟩)
        · have hz' : ¬ (i : Int) < ((sOf s).size : Int) := by omega
          go_wp2_with fail
          all_goals (go_meet; exact ⟨rfl, rfl⟩)
  case rest =>
    obtain ⟨rfl, rfl⟩ := hcut
    clear HLt HEn
    have hjs : (j : Int) ≤ ((sOf s).size : Int) := by omega
    go_wp2_with fail
    refine HKi.out.mono ?_
    rintro e w1 ⟨rfl, rfl⟩
    clear HKi
    obtain ⟨hq, hjl⟩ := hq
    have hj1 : (j : Int) + 1 ≤ ((sOf s).size : Int) := by omega
    have hw1 : IntKind.i64.wrap ((j : Int) + 1) = (j : Int) + 1 := IntWalk.i64_in _ (by omega)
    have hmz : (sOf m).size ≤ 4100 := by rw [HML.out]; exact HMs.out
    have HM : Hid (∀ ch W, Calls Tryd.prog 27 #[.int .i64 1, .int .u8 (UInt8.toNat ch)] W (RetQ (.bool (mayL 1 ch)) W)) := Lib.hid fun ch W => xmay_any 1 (by decide) ch W
    have HFt := Lib.hid (xfits_any 1 (by decide) m (by have := HMs.out; omega) ((w.alloc (.cells Z3 23)).alloc (.cells #[.int .i64 0, .int .i64 0] 31)))
    have HBl := Lib.hid (badAt_le 1 m)
    go_wp2_with fail
    rw [HE2.out]
    go_loopw [7] (fun ix wr => ∃ i : Nat, ix = .int .i64 i ∧ okTo 1 (sOf m) i ∧ i ≤ (sOf m).size ∧ wr = ((w.alloc (.cells Z3 23)).alloc (.cells #[.int .i64 0, .int .i64 0] 31))) (fun ix _ => (sOf m).size - (intOf ix).toNat)
    case atStart => exact ⟨0, rfl, fun j hj => absurd hj (Nat.not_lt_zero j), Nat.zero_le _, rfl⟩
    case round =>
      obtain ⟨i, rfl, hok, hi, rfl⟩ := hrel
      have HOk := Lib.hid hok
      clear hok
      by_cases hlt : i < (sOf m).size
      · have hlt' : (i : Int) < ((sOf m).size : Int) := by omega
        have hby := byte_at (sOf m) i hlt
        have HBy := Lib.hid hby
        have HMi := Lib.hid (HM.out ((sOf m)[i]) ((w.alloc (.cells Z3 23)).alloc (.cells #[.int .i64 0, .int .i64 0] 31)))
        cases hm : mayL 1 ((sOf m)[i]) with
        | true =>
          rw [hm] at HMi
          have HMt := Lib.hid hm
          clear hm hby
          go_wp2_with fail
          refine HMi.out.mono ?_
          rintro e w3 ⟨rfl, rfl⟩
          go_wp2_with fail
          refine ⟨⟨i + 1, by go_num, fun j hj => ?_, by omega, by trivial⟩, by simp [intOf]; omega⟩
          rcases Nat.lt_succ_iff_lt_or_eq.1 hj with h | rfl
          · exact HOk.out j h
          · rw [HBy.out]; exact HMt.out
        | false =>
          rw [hm] at HMi
          have hbad : badAt 1 m = i := badAt_of (by rw [← HML.out]; exact hlt) (fun j hj => by have := HOk.out j hj; rw [sOf_list] at this; exact this) (by have := HBy.out; rw [sOf_list] at this; rw [this]; exact hm)
          have HE3 : Hid (parseL s = (noC, ((5 : Int), (j : Int) + 1 + (i : Int)))) := Lib.hid (by rw [HE.out, hbad, if_pos (by rw [← HML.out]; exact hlt)]; simp)
          have hw2 : IntKind.i64.wrap ((j : Int) + 1 + (i : Int)) = (j : Int) + 1 + (i : Int) := IntWalk.i64_in _ (by omega)
          clear hm hby hbad HE
          have HE := HE3
          clear HE3
          go_wp2_with fail
          refine HMi.out.mono ?_
          rintro e w3 ⟨rfl, rfl⟩
          have HZ := Lib.hid (res2_lit w Z3 #[.int .i64 5, .int .i64 ((j : Int) + 1 + (i : Int))])
          go_wp2_with fail
          exact xres2_ret rfl rfl (by rw [HE.out]; rfl) (by rw [HE.out]; rfl) HZ.out
      · have hlt' : ¬ (i : Int) < ((sOf m).size : Int) := by omega
        have hbad : badAt 1 m = m.length := badAt_all (fun j hj => by have := HOk.out j (by rw [← HML.out] at hj; omega); rw [sOf_list] at this; exact this)
        have hE := HE.out
        rw [hbad, if_neg (Nat.lt_irrefl _)] at hE
        clear hbad
        cases hf : fitsL 1 m with
        | false =>
          rw [hf] at HFt
          rw [hf, if_pos rfl] at hE
          have HE3 : Hid (parseL s = (noC, ((5 : Int), (j : Int) + 1))) := Lib.hid (by rw [hE]; simp)
          clear hf hE HE
          have HE := HE3
          clear HE3
          go_wp2_with fail
          refine HFt.out.mono ?_
          rintro e w3 ⟨rfl, rfl⟩
          have HZ := Lib.hid (res2_lit w Z3 #[.int .i64 5, .int .i64 ((j : Int) + 1)])
          go_wp2_with fail
          exact xres2_ret rfl rfl (by rw [HE.out]; rfl) (by rw [HE.out]; rfl) HZ.out
        | true =>
          rw [hf] at HFt
          rw [hf, if_neg (by decide)] at hE
          have HE3 : Hid (parseL s = (⟨wd, m, 0⟩, (0, 0))) := Lib.hid (by rw [hE]; rfl)
          clear hf hE HE
          have HE := HE3
          clear HE3
          skip
          have HZ := Lib.hid ((res2_lit w #[.string ((sOf s).extract 0 j), .string (sOf m), .int .i64 0] #[.int .i64 0, .int .i64 0]).alloc (.cells #[.string ((sOf s).extract 0 j), .string (sOf m), .int .i64 0] 23))
          go_wp2_with fail
          refine HFt.out.mono ?_
          rintro e w3 ⟨rfl, rfl⟩
          go_wp2_with fail
          exact xres2_ret rfl rfl (by rw [HE.out, HEw.out]; rfl) (by rw [HE.out]; rfl) HZ.out
set_option maxRecDepth 100000 in
set_option maxHeartbeats 3200000 in
theorem xparse_2 (s : List UInt8) (hs : s.length ≤ 140737488351232) (hn : ¬ 4100 < s.length) (hk : kindL (cutL s 32) = 2) (h2 : (cutL s 32).length < s.length) (w : World) : Calls Tryd.prog 15 #[.string (sOf s)] w (RetP s w) := by
  have hE := parse_on hn hk (by decide) h2
  have hsz : (sOf s).size = s.length := sOf_size s
  have h' : ¬ (4100 : Int) < ((sOf s).size : Int) := by omega
  have hbz : (sOf s).size ≤ 4100 := by omega
  have hws : (cutL s 32).length ≤ (sOf s).size := by rw [hsz]; exact (List.takeWhile_sublist _).length_le
  have hR := res2_new w
  have HKi := Lib.hid (xkind_any (cutL s 32) ((w.alloc (.cells Z3 23)).alloc (.cells #[.int .i64 0, .int .i64 0] 31)))
  rw [hk] at HKi
  have e1 : (sOf s).extract 0 (cutL s 32).length = sOf (cutL s 32) := by rw [sOf_take, take_cut]
  have e2 : (sOf s).extract ((cutL s 32).length + 1) (sOf s).size = sOf (s.drop ((cutL s 32).length + 1)) := sOf_drop _ _ _ (by rw [sOf_size]; exact Nat.le_refl _)
  have hlt : ∀ i, i < (cutL s 32).length → ∃ h : i < (sOf s).size, ((((sOf s)[i]'h).toNat : Int) == 32) = false := fun i hi => by
    obtain ⟨h1, h2⟩ := cut_lt hi
    have h3 : i < (sOf s).size := by rw [hsz]; exact h1
    refine ⟨h3, ?_⟩
    have h4 := byte_at (sOf s) i h3
    rw [sOf_list] at h4
    rw [← h4]
    cases hh : (((s.getD i 0).toNat : Int) == 32) with
    | false => rfl
    | true =>
      rw [beq_iff_eq] at hh
      exact absurd (UInt8.toNat_inj.1 (by show (s.getD i 0).toNat = 32; omega)) h2
  have hend : ∀ h : (cutL s 32).length < (sOf s).size, ((((sOf s)[(cutL s 32).length]'h).toNat : Int) == 32) = true := fun h => by
    have h4 := byte_at (sOf s) _ h
    rw [sOf_list, cut_end (by rw [← hsz]; exact h)] at h4
    rw [← h4]; rfl
  have hml : (sOf (s.drop ((cutL s 32).length + 1))).size = (s.drop ((cutL s 32).length + 1)).length := sOf_size _
  have hms : (s.drop ((cutL s 32).length + 1)).length ≤ 4100 := by rw [List.length_drop]; omega
  have hq : ((((cutL s 32).length : Int) == ((sOf s).size : Int)) = false) ∧ (cutL s 32).length < (sOf s).size := by constructor; simp; omega; omega
  have HML := Lib.hid hml
  have HMs := Lib.hid hms
  have HE := Lib.hid hE
  have HR := Lib.hid hR
  have HLt := Lib.hid hlt
  have HEn := Lib.hid hend
  clear hE hs hn hk hR hlt hend hml hms hsz
  obtain ⟨wd, hwd⟩ : ∃ x, x = cutL s 32 := ⟨_, rfl⟩
  rw [← hwd] at HKi e1 e2 HLt HEn HML HMs hws
  try rw [← hwd] at hq
  try rw [← hwd] at HE
  obtain ⟨m, hm⟩ : ∃ x, x = s.drop (wd.length + 1) := ⟨_, rfl⟩
  rw [← hm] at e2 HML HMs
  try rw [← hm] at HE
  have HE1 := Lib.hid e1
  obtain ⟨j, hj⟩ : ∃ x, x = wd.length := ⟨_, rfl⟩
  rw [← hj] at e1 e2 HLt HEn hws
  try rw [← hj] at hq
  try rw [← hj] at HE
  have hj41 : j ≤ 4100 := by omega
  rw [← e1] at HKi
  have HEw := Lib.hid e1
  have HE2 := Lib.hid e2
  clear hm hwd hj HE1 e1 e2
  have E : True := trivial
  go_enter Tryd.func15, Tryd.ntmps15
  go_upto_block 0 with fail
  go_cut [4] from 5 (fun v4 wx => v4 = .int .i64 j ∧ wx = ((w.alloc (.cells Z3 23)).alloc (.cells #[.int .i64 0, .int .i64 0] 31)))
  case first =>
    go_wp2_with fail
    go_loopw [4] (fun ix wr => ∃ i : Nat, ix = .int .i64 i ∧ i ≤ j ∧ wr = ((w.alloc (.cells Z3 23)).alloc (.cells #[.int .i64 0, .int .i64 0] 31))) (fun ix _ => j - (intOf ix).toNat)
    case atStart => exact ⟨0, rfl, Nat.zero_le _, rfl⟩
    case round =>
      obtain ⟨i, rfl, hi, rfl⟩ := hrel
      by_cases hij : i < j
      · obtain ⟨hz, hb⟩ := HLt.out i hij
        have hz' : (i : Int) < ((sOf s).size : Int) := by omega
        go_wp2_with fail
        exact ⟨⟨i + 1, by go_num, by omega, by trivial⟩, by simp [intOf]; omega⟩
      · obtain rfl : i = j := by omega
        by_cases hz : i < (sOf s).size
        · have hb := HEn.out hz
          have hz' : (i : Int) < ((sOf s).size : Int) := by omega
          go_wp2_with fail
          all_goals (go_meet; exact ⟨rfl, rfl⟩)
        · have hz' : ¬ (i : Int) < ((sOf s).size : Int) := by omega
          go_wp2_with fail
          all_goals (go_meet; exact ⟨rfl, rfl⟩)
  case rest =>
    obtain ⟨rfl, rfl⟩ := hcut
    clear HLt HEn
    have hjs : (j : Int) ≤ ((sOf s).size : Int) := by omega
    go_wp2_with fail
    refine HKi.out.mono ?_
    rintro e w1 ⟨rfl, rfl⟩
    clear HKi
    obtain ⟨hq, hjl⟩ := hq
    have hj1 : (j : Int) + 1 ≤ ((sOf s).size : Int) := by omega
    have hw1 : IntKind.i64.wrap ((j : Int) + 1) = (j : Int) + 1 := IntWalk.i64_in _ (by omega)
    have hmz : (sOf m).size ≤ 4100 := by rw [HML.out]; exact HMs.out
    have HM : Hid (∀ ch W, Calls Tryd.prog 27 #[.int .i64 2, .int .u8 (UInt8.toNat ch)] W (RetQ (.bool (mayL 2 ch)) W)) := Lib.hid fun ch W => xmay_any 2 (by decide) ch W
    have HFt := Lib.hid (xfits_any 2 (by decide) m (by have := HMs.out; omega) ((w.alloc (.cells Z3 23)).alloc (.cells #[.int .i64 0, .int .i64 0] 31)))
    have HBl := Lib.hid (badAt_le 2 m)
    go_wp2_with fail
    rw [HE2.out]
    go_loopw [7] (fun ix wr => ∃ i : Nat, ix = .int .i64 i ∧ okTo 2 (sOf m) i ∧ i ≤ (sOf m).size ∧ wr = ((w.alloc (.cells Z3 23)).alloc (.cells #[.int .i64 0, .int .i64 0] 31))) (fun ix _ => (sOf m).size - (intOf ix).toNat)
    case atStart => exact ⟨0, rfl, fun j hj => absurd hj (Nat.not_lt_zero j), Nat.zero_le _, rfl⟩
    case round =>
      obtain ⟨i, rfl, hok, hi, rfl⟩ := hrel
      have HOk := Lib.hid hok
      clear hok
      by_cases hlt : i < (sOf m).size
      · have hlt' : (i : Int) < ((sOf m).size : Int) := by omega
        have hby := byte_at (sOf m) i hlt
        have HBy := Lib.hid hby
        have HMi := Lib.hid (HM.out ((sOf m)[i]) ((w.alloc (.cells Z3 23)).alloc (.cells #[.int .i64 0, .int .i64 0] 31)))
        cases hm : mayL 2 ((sOf m)[i]) with
        | true =>
          rw [hm] at HMi
          have HMt := Lib.hid hm
          clear hm hby
          go_wp2_with fail
          refine HMi.out.mono ?_
          rintro e w3 ⟨rfl, rfl⟩
          go_wp2_with fail
          refine ⟨⟨i + 1, by go_num, fun j hj => ?_, by omega, by trivial⟩, by simp [intOf]; omega⟩
          rcases Nat.lt_succ_iff_lt_or_eq.1 hj with h | rfl
          · exact HOk.out j h
          · rw [HBy.out]; exact HMt.out
        | false =>
          rw [hm] at HMi
          have hbad : badAt 2 m = i := badAt_of (by rw [← HML.out]; exact hlt) (fun j hj => by have := HOk.out j hj; rw [sOf_list] at this; exact this) (by have := HBy.out; rw [sOf_list] at this; rw [this]; exact hm)
          have HE3 : Hid (parseL s = (noC, ((5 : Int), (j : Int) + 1 + (i : Int)))) := Lib.hid (by rw [HE.out, hbad, if_pos (by rw [← HML.out]; exact hlt)]; simp)
          have hw2 : IntKind.i64.wrap ((j : Int) + 1 + (i : Int)) = (j : Int) + 1 + (i : Int) := IntWalk.i64_in _ (by omega)
          clear hm hby hbad HE
          have HE := HE3
          clear HE3
          go_wp2_with fail
          refine HMi.out.mono ?_
          rintro e w3 ⟨rfl, rfl⟩
          have HZ := Lib.hid (res2_lit w Z3 #[.int .i64 5, .int .i64 ((j : Int) + 1 + (i : Int))])
          go_wp2_with fail
          exact xres2_ret rfl rfl (by rw [HE.out]; rfl) (by rw [HE.out]; rfl) HZ.out
      · have hlt' : ¬ (i : Int) < ((sOf m).size : Int) := by omega
        have hbad : badAt 2 m = m.length := badAt_all (fun j hj => by have := HOk.out j (by rw [← HML.out] at hj; omega); rw [sOf_list] at this; exact this)
        have hE := HE.out
        rw [hbad, if_neg (Nat.lt_irrefl _)] at hE
        clear hbad
        cases hf : fitsL 2 m with
        | false =>
          rw [hf] at HFt
          rw [hf, if_pos rfl] at hE
          have HE3 : Hid (parseL s = (noC, ((5 : Int), (j : Int) + 1))) := Lib.hid (by rw [hE]; simp)
          clear hf hE HE
          have HE := HE3
          clear HE3
          go_wp2_with fail
          refine HFt.out.mono ?_
          rintro e w3 ⟨rfl, rfl⟩
          have HZ := Lib.hid (res2_lit w Z3 #[.int .i64 5, .int .i64 ((j : Int) + 1)])
          go_wp2_with fail
          exact xres2_ret rfl rfl (by rw [HE.out]; rfl) (by rw [HE.out]; rfl) HZ.out
        | true =>
          rw [hf] at HFt
          rw [hf, if_neg (by decide)] at hE
          have HE3 : Hid (parseL s = (⟨wd, m, 0⟩, (0, 0))) := Lib.hid (by rw [hE]; rfl)
          clear hf hE HE
          have HE := HE3
          clear HE3
          skip
          have HZ := Lib.hid ((res2_lit w #[.string ((sOf s).extract 0 j), .string (sOf m), .int .i64 0] #[.int .i64 0, .int .i64 0]).alloc (.cells #[.string ((sOf s).extract 0 j), .string (sOf m), .int .i64 0] 23))
          go_wp2_with fail
          refine HFt.out.mono ?_
          rintro e w3 ⟨rfl, rfl⟩
          go_wp2_with fail
          exact xres2_ret rfl rfl (by rw [HE.out, HEw.out]; rfl) (by rw [HE.out]; rfl) HZ.out
set_option maxRecDepth 100000 in
set_option maxHeartbeats 3200000 in
theorem xparse_3 (s : List UInt8) (hs : s.length ≤ 140737488351232) (hn : ¬ 4100 < s.length) (hk : kindL (cutL s 32) = 3) (h2 : (cutL s 32).length < s.length) (w : World) : Calls Tryd.prog 15 #[.string (sOf s)] w (RetP s w) := by
  have hE := parse_on hn hk (by decide) h2
  have hsz : (sOf s).size = s.length := sOf_size s
  have h' : ¬ (4100 : Int) < ((sOf s).size : Int) := by omega
  have hbz : (sOf s).size ≤ 4100 := by omega
  have hws : (cutL s 32).length ≤ (sOf s).size := by rw [hsz]; exact (List.takeWhile_sublist _).length_le
  have hR := res2_new w
  have HKi := Lib.hid (xkind_any (cutL s 32) ((w.alloc (.cells Z3 23)).alloc (.cells #[.int .i64 0, .int .i64 0] 31)))
  rw [hk] at HKi
  have e1 : (sOf s).extract 0 (cutL s 32).length = sOf (cutL s 32) := by rw [sOf_take, take_cut]
  have e2 : (sOf s).extract ((cutL s 32).length + 1) (sOf s).size = sOf (s.drop ((cutL s 32).length + 1)) := sOf_drop _ _ _ (by rw [sOf_size]; exact Nat.le_refl _)
  have hlt : ∀ i, i < (cutL s 32).length → ∃ h : i < (sOf s).size, ((((sOf s)[i]'h).toNat : Int) == 32) = false := fun i hi => by
    obtain ⟨h1, h2⟩ := cut_lt hi
    have h3 : i < (sOf s).size := by rw [hsz]; exact h1
    refine ⟨h3, ?_⟩
    have h4 := byte_at (sOf s) i h3
    rw [sOf_list] at h4
    rw [← h4]
    cases hh : (((s.getD i 0).toNat : Int) == 32) with
    | false => rfl
    | true =>
      rw [beq_iff_eq] at hh
      exact absurd (UInt8.toNat_inj.1 (by show (s.getD i 0).toNat = 32; omega)) h2
  have hend : ∀ h : (cutL s 32).length < (sOf s).size, ((((sOf s)[(cutL s 32).length]'h).toNat : Int) == 32) = true := fun h => by
    have h4 := byte_at (sOf s) _ h
    rw [sOf_list, cut_end (by rw [← hsz]; exact h)] at h4
    rw [← h4]; rfl
  have hml : (sOf (s.drop ((cutL s 32).length + 1))).size = (s.drop ((cutL s 32).length + 1)).length := sOf_size _
  have hms : (s.drop ((cutL s 32).length + 1)).length ≤ 4100 := by rw [List.length_drop]; omega
  have hq : ((((cutL s 32).length : Int) == ((sOf s).size : Int)) = false) ∧ (cutL s 32).length < (sOf s).size := by constructor; simp; omega; omega
  have HML := Lib.hid hml
  have HMs := Lib.hid hms
  have HE := Lib.hid hE
  have HR := Lib.hid hR
  have HLt := Lib.hid hlt
  have HEn := Lib.hid hend
  clear hE hs hn hk hR hlt hend hml hms hsz
  obtain ⟨wd, hwd⟩ : ∃ x, x = cutL s 32 := ⟨_, rfl⟩
  rw [← hwd] at HKi e1 e2 HLt HEn HML HMs hws
  try rw [← hwd] at hq
  try rw [← hwd] at HE
  obtain ⟨m, hm⟩ : ∃ x, x = s.drop (wd.length + 1) := ⟨_, rfl⟩
  rw [← hm] at e2 HML HMs
  try rw [← hm] at HE
  have HE1 := Lib.hid e1
  obtain ⟨j, hj⟩ : ∃ x, x = wd.length := ⟨_, rfl⟩
  rw [← hj] at e1 e2 HLt HEn hws
  try rw [← hj] at hq
  try rw [← hj] at HE
  have hj41 : j ≤ 4100 := by omega
  rw [← e1] at HKi
  have HEw := Lib.hid e1
  have HE2 := Lib.hid e2
  clear hm hwd hj HE1 e1 e2
  have E : True := trivial
  go_enter Tryd.func15, Tryd.ntmps15
  go_upto_block 0 with fail
  go_cut [4] from 5 (fun v4 wx => v4 = .int .i64 j ∧ wx = ((w.alloc (.cells Z3 23)).alloc (.cells #[.int .i64 0, .int .i64 0] 31)))
  case first =>
    go_wp2_with fail
    go_loopw [4] (fun ix wr => ∃ i : Nat, ix = .int .i64 i ∧ i ≤ j ∧ wr = ((w.alloc (.cells Z3 23)).alloc (.cells #[.int .i64 0, .int .i64 0] 31))) (fun ix _ => j - (intOf ix).toNat)
    case atStart => exact ⟨0, rfl, Nat.zero_le _, rfl⟩
    case round =>
      obtain ⟨i, rfl, hi, rfl⟩ := hrel
      by_cases hij : i < j
      · obtain ⟨hz, hb⟩ := HLt.out i hij
        have hz' : (i : Int) < ((sOf s).size : Int) := by omega
        go_wp2_with fail
        exact ⟨⟨i + 1, by go_num, by omega, by trivial⟩, by simp [intOf]; omega⟩
      · obtain rfl : i = j := by omega
        by_cases hz : i < (sOf s).size
        · have hb := HEn.out hz
          have hz' : (i : Int) < ((sOf s).size : Int) := by omega
          go_wp2_with fail
          all_goals (go_meet; exact ⟨rfl, rfl⟩)
        · have hz' : ¬ (i : Int) < ((sOf s).size : Int) := by omega
          go_wp2_with fail
          all_goals (go_meet; exact ⟨rfl, rfl⟩)
  case rest =>
    obtain ⟨rfl, rfl⟩ := hcut
    clear HLt HEn
    have hjs : (j : Int) ≤ ((sOf s).size : Int) := by omega
    go_wp2_with fail
    refine HKi.out.mono ?_
    rintro e w1 ⟨rfl, rfl⟩
    clear HKi
    obtain ⟨hq, hjl⟩ := hq
    have hj1 : (j : Int) + 1 ≤ ((sOf s).size : Int) := by omega
    have hw1 : IntKind.i64.wrap ((j : Int) + 1) = (j : Int) + 1 := IntWalk.i64_in _ (by omega)
    have hmz : (sOf m).size ≤ 4100 := by rw [HML.out]; exact HMs.out
    have HM : Hid (∀ ch W, Calls Tryd.prog 27 #[.int .i64 3, .int .u8 (UInt8.toNat ch)] W (RetQ (.bool (mayL 3 ch)) W)) := Lib.hid fun ch W => xmay_any 3 (by decide) ch W
    have HFt := Lib.hid (xfits_any 3 (by decide) m (by have := HMs.out; omega) ((w.alloc (.cells Z3 23)).alloc (.cells #[.int .i64 0, .int .i64 0] 31)))
    have HBl := Lib.hid (badAt_le 3 m)
    go_wp2_with fail
    rw [HE2.out]
    go_loopw [7] (fun ix wr => ∃ i : Nat, ix = .int .i64 i ∧ okTo 3 (sOf m) i ∧ i ≤ (sOf m).size ∧ wr = ((w.alloc (.cells Z3 23)).alloc (.cells #[.int .i64 0, .int .i64 0] 31))) (fun ix _ => (sOf m).size - (intOf ix).toNat)
    case atStart => exact ⟨0, rfl, fun j hj => absurd hj (Nat.not_lt_zero j), Nat.zero_le _, rfl⟩
    case round =>
      obtain ⟨i, rfl, hok, hi, rfl⟩ := hrel
      have HOk := Lib.hid hok
      clear hok
      by_cases hlt : i < (sOf m).size
      · have hlt' : (i : Int) < ((sOf m).size : Int) := by omega
        have hby := byte_at (sOf m) i hlt
        have HBy := Lib.hid hby
        have HMi := Lib.hid (HM.out ((sOf m)[i]) ((w.alloc (.cells Z3 23)).alloc (.cells #[.int .i64 0, .int .i64 0] 31)))
        cases hm : mayL 3 ((sOf m)[i]) with
        | true =>
          rw [hm] at HMi
          have HMt := Lib.hid hm
          clear hm hby
          go_wp2_with fail
          refine HMi.out.mono ?_
          rintro e w3 ⟨rfl, rfl⟩
          go_wp2_with fail
          refine ⟨⟨i + 1, by go_num, fun j hj => ?_, by omega, by trivial⟩, by simp [intOf]; omega⟩
          rcases Nat.lt_succ_iff_lt_or_eq.1 hj with h | rfl
          · exact HOk.out j h
          · rw [HBy.out]; exact HMt.out
        | false =>
          rw [hm] at HMi
          have hbad : badAt 3 m = i := badAt_of (by rw [← HML.out]; exact hlt) (fun j hj => by have := HOk.out j hj; rw [sOf_list] at this; exact this) (by have := HBy.out; rw [sOf_list] at this; rw [this]; exact hm)
          have HE3 : Hid (parseL s = (noC, ((5 : Int), (j : Int) + 1 + (i : Int)))) := Lib.hid (by rw [HE.out, hbad, if_pos (by rw [← HML.out]; exact hlt)]; simp)
          have hw2 : IntKind.i64.wrap ((j : Int) + 1 + (i : Int)) = (j : Int) + 1 + (i : Int) := IntWalk.i64_in _ (by omega)
          clear hm hby hbad HE
          have HE := HE3
          clear HE3
          go_wp2_with fail
          refine HMi.out.mono ?_
          rintro e w3 ⟨rfl, rfl⟩
          have HZ := Lib.hid (res2_lit w Z3 #[.int .i64 5, .int .i64 ((j : Int) + 1 + (i : Int))])
          go_wp2_with fail
          exact xres2_ret rfl rfl (by rw [HE.out]; rfl) (by rw [HE.out]; rfl) HZ.out
      · have hlt' : ¬ (i : Int) < ((sOf m).size : Int) := by omega
        have hbad : badAt 3 m = m.length := badAt_all (fun j hj => by have := HOk.out j (by rw [← HML.out] at hj; omega); rw [sOf_list] at this; exact this)
        have hE := HE.out
        rw [hbad, if_neg (Nat.lt_irrefl _)] at hE
        clear hbad
        cases hf : fitsL 3 m with
        | false =>
          rw [hf] at HFt
          rw [hf, if_pos rfl] at hE
          have HE3 : Hid (parseL s = (noC, ((5 : Int), (j : Int) + 1))) := Lib.hid (by rw [hE]; simp)
          clear hf hE HE
          have HE := HE3
          clear HE3
          go_wp2_with fail
          refine HFt.out.mono ?_
          rintro e w3 ⟨rfl, rfl⟩
          have HZ := Lib.hid (res2_lit w Z3 #[.int .i64 5, .int .i64 ((j : Int) + 1)])
          go_wp2_with fail
          exact xres2_ret rfl rfl (by rw [HE.out]; rfl) (by rw [HE.out]; rfl) HZ.out
        | true =>
          rw [hf] at HFt
          rw [hf, if_neg (by decide)] at hE
          have HE3 : Hid (parseL s = (⟨wd, [], (readV m).1⟩, (0, 0))) := Lib.hid (by rw [hE]; rfl)
          clear hf hE HE
          have HE := HE3
          clear HE3
          skip
          have HRd := Lib.hid (refread_any (sOf m) (((w.alloc (.cells Z3 23)).alloc (.cells #[.int .i64 0, .int .i64 0] 31)).alloc (.cells #[.string ((sOf s).extract 0 j), .string (sOf m), .int .i64 0] 23)) (by omega))
          rw [sOf_list] at HRd
          unfold RetR at HRd
          have HZ := Lib.hid ((res2_lit w #[.string ((sOf s).extract 0 j), .string ⟨#[]⟩, .int .i64 (readV m).1] #[.int .i64 0, .int .i64 0]).alloc (.cells #[.string ((sOf s).extract 0 j), .string ⟨#[]⟩, .int .i64 (readV m).1] 23))
          go_wp2_with fail
          refine HFt.out.mono ?_
          rintro e w3 ⟨rfl, rfl⟩
          go_wp2_with fail
          refine HRd.out.mono ?_
          rintro e w3 ⟨rfl, rfl⟩
          go_wp2_with fail
          exact xres2_ret rfl rfl (by rw [HE.out, HEw.out]; rfl) (by rw [HE.out]; rfl) HZ.out
theorem xparse_any (s : List UInt8) (hs : s.length ≤ 140737488351232) (w : World) : Calls Tryd.prog 15 #[.string (sOf s)] w (RetP s w) := by
  by_cases hn : 4100 < s.length
  · exact xparse_long s hs hn w
  · have hk := kind_le (cutL s 32)
    have hl : (cutL s 32).length ≤ s.length := (List.takeWhile_sublist _).length_le
    have hc : kindL (cutL s 32) = 0 ∨ kindL (cutL s 32) = 1 ∨ kindL (cutL s 32) = 2 ∨ kindL (cutL s 32) = 3 ∨ kindL (cutL s 32) = 4 := by omega
    rcases hc with h | h | h | h | h
    · exact xparse_0 s hs hn h w
    · by_cases h2 : (cutL s 32).length < s.length
      · exact xparse_1 s hs hn h h2 w
      · exact xparse_1s s hs hn h h2 w
    · by_cases h2 : (cutL s 32).length < s.length
      · exact xparse_2 s hs hn h h2 w
      · exact xparse_2s s hs hn h h2 w
    · by_cases h2 : (cutL s 32).length < s.length
      · exact xparse_3 s hs hn h h2 w
      · exact xparse_3s s hs hn h h2 w
    · by_cases h2 : (cutL s 32).length < s.length
      · exact xparse_4s s hs hn h h2 w
      · exact xparse_4b s hs hn h (by omega) w
end Go.Proofs.YtclejidkahpemaaDoor
