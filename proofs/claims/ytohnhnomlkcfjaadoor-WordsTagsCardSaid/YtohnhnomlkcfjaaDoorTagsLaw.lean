/- WordsTags, walked. -/
import Derived.Test.YtohnhnomlkcfjaaDoorHelps
namespace Go.Proofs.YtohnhnomlkcfjaaDoor
open Go.RowKit
attribute [local irreducible] ByteArray.extract ByteArray.toList

theorem tag_base (s : ByteArray) (h : baseB s = true) : ∃ k, tagV s = (k, 0) ∧ ofTagV k = (s, 0) ∧ hasV resW s = true := by
  have hr : ∀ x ∈ baseW, hasV resW x = true := by
    intro x hx
    rw [has_data]
    have : (baseW.all fun x => resW.any fun y => y.data == x.data) = true := by decide +kernel
    exact List.all_eq_true.1 this x hx
  have hm : s ∈ baseW := by rw [← has_iff, base_has]; exact h
  have hR := hr s hm
  unfold baseB tagV at h
  unfold tagV
  rw [decide_eq_true_iff] at h
  repeat' split at h
  all_goals first | (exfalso; exact absurd h (by decide)) | skip
  all_goals simp_all [ofTagV]
theorem tag_none (s : ByteArray) (h : baseB s = false) : tagV s = (0, 7) := by
  unfold baseB tagV at h
  rw [decide_eq_false_iff_not] at h
  unfold tagV
  repeat' split at h
  all_goals simp_all
theorem of_in (t : Int) (h0 : 1 ≤ t) (h1 : t ≤ 5) : ∃ x, ofTagV t = (x, 0) ∧ tagV x = (t, 0) := by
  have : t = 1 ∨ t = 2 ∨ t = 3 ∨ t = 4 ∨ t = 5 := by omega
  rcases this with rfl | rfl | rfl | rfl | rfl
  all_goals exact ⟨_, rfl, by decide +kernel⟩
theorem of_out (t : Int) (h : ¬ (1 ≤ t ∧ t ≤ 5)) : ofTagV t = (⟨#[]⟩, 7) := by
  unfold ofTagV
  rw [if_neg (by omega), if_neg (by omega), if_neg (by omega), if_neg (by omega), if_neg (by omega)]
theorem kind_base (s : ByteArray) (h : baseB s = true) : kindV s = 1 := by unfold kindV; rw [h]; rfl
theorem kind_nbase (s : ByteArray) (h : baseB s = false) : (kindV s == 1) = false := by
  unfold kindV; rw [h, if_neg (by decide)]
  by_cases a : s = ⟨#[63]⟩
  · rw [if_pos a]; decide
  · rw [if_neg a]
    cases classV s <;> decide
theorem tag_at (s : ByteArray) (v : Int × Int) (h : tagV s = v) (w : World) : Calls Tryd.prog 9 #[.string s] w (RetT v w) := by rw [← h]; exact tag_any s w
theorem oftag_at (t : Int) (v : ByteArray × Int) (h : ofTagV t = v) (w : World) : Calls Tryd.prog 11 #[.int .i64 t] w (RetO v w) := by rw [← h]; exact oftag_any t w
theorem retT_from {f : FuncId} {args : Array Value} {v : Int × Int} {w0 w1 : World} (hb : Below w0.heap.size w0 w1) (c : Calls Tryd.prog f args w1 (RetT v w1)) : Calls Tryd.prog f args w1 (RetT v w0) :=
  c.mono fun _ _ h => ⟨h.1, hb.trans (h.2.mono hb.size)⟩
theorem retO_from {f : FuncId} {args : Array Value} {v : ByteArray × Int} {w0 w1 : World} (hb : Below w0.heap.size w0 w1) (c : Calls Tryd.prog f args w1 (RetO v w1)) : Calls Tryd.prog f args w1 (RetO v w0) :=
  c.mono fun _ _ h => ⟨h.1, hb.trans (h.2.mono hb.size)⟩

set_option maxHeartbeats 800000 in
theorem tags_long (s : ByteArray) (t : Int) (w : World) (hsp : Spaces w) (hl : (60 : Int) < (s.size : Int)) : Calls Tryd.prog 6 #[.string s, .int .i64 t] w (RetB (.bool true) w) := by
  have hb := Below.refl w.heap.size w
  have HS := Lib.hid hsp
  clear hsp
  go_enter Tryd.func6, Tryd.ntmps6
  go_wp2_with fail
  refine (ret_from hb (known_yes _ (spaces_from HS.out hb))).mono ?_
  clear hb
  rintro e w1 ⟨rfl, hb⟩
  go_wp2_with fail
  go_ret
  exact ⟨rfl, hb⟩
set_option maxHeartbeats 1600000 in
theorem tags_11 (s : ByteArray) (t : Int) (w : World) (hsp : Spaces w) (hl : ¬ (60 : Int) < (s.size : Int)) (k : Int) (hk : tagV s = (k, 0)) (ho : ofTagV k = (s, 0)) (hr : hasV resW s = true) (hK : kindV s = 1) (x : ByteArray) (hx : ofTagV t = (x, 0)) (hy : tagV x = (t, 0)) (q0 : 1 ≤ t) (q1 : t ≤ 5) : Calls Tryd.prog 6 #[.string s, .int .i64 t] w (RetB (.bool true) w) := by
  have d0 : decide (1 ≤ t) = true := decide_eq_true q0
  have d1 : decide (t ≤ 5) = true := decide_eq_true q1
  have HO := Lib.hid ho
  have HR := Lib.hid hr
  have HK := Lib.hid hk
  have HKD := Lib.hid hK
  clear ho hr hk hK
  have HX := Lib.hid hx
  have HY := Lib.hid hy
  clear hx hy
  have hb := Below.refl w.heap.size w
  have HS := Lib.hid hsp
  clear hsp
  go_enter Tryd.func6, Tryd.ntmps6
  go_wp2_with fail
  refine (ret_from hb (known_yes _ (spaces_from HS.out hb))).mono ?_
  clear hb
  rintro e w1 ⟨rfl, hb⟩
  go_wp2_with fail
  refine (retT_from hb (tag_at s _ HK.out _)).mono ?_
  clear hb
  rintro e w1 ⟨rfl, hb⟩
  go_wp2_with fail
  refine (ret_from hb (kind_is s _ HKD.out _)).mono ?_
  clear hb
  rintro e w1 ⟨rfl, hb⟩
  go_wp2_with fail
  refine (ret_from hb (of_yes _ _ _ HO.out _)).mono ?_
  clear hb
  rintro e w1 ⟨rfl, hb⟩
  go_wp2_with fail
  refine (ret_from hb (lawres_any s _ (spaces_from HS.out hb))).mono ?_
  clear hb
  rintro e w1 ⟨rfl, hb⟩
  rw [HR.out]
  go_wp2_with fail
  refine (retO_from hb (oftag_at t _ HX.out _)).mono ?_
  clear hb
  rintro e w1 ⟨rfl, hb⟩
  go_wp2_with fail
  refine (ret_from hb (tags_yes _ _ _ HY.out _)).mono ?_
  clear hb
  rintro e w1 ⟨rfl, hb⟩
  go_wp2_with fail
  go_ret
  exact ⟨rfl, hb⟩
set_option maxHeartbeats 1600000 in
theorem tags_10 (s : ByteArray) (t : Int) (w : World) (hsp : Spaces w) (hl : ¬ (60 : Int) < (s.size : Int)) (k : Int) (hk : tagV s = (k, 0)) (ho : ofTagV k = (s, 0)) (hr : hasV resW s = true) (hK : kindV s = 1) (hx : ofTagV t = (⟨#[]⟩, 7)) (q : ¬ (1 ≤ t ∧ t ≤ 5)) : Calls Tryd.prog 6 #[.string s, .int .i64 t] w (RetB (.bool true) w) := by
  have HO := Lib.hid ho
  have HR := Lib.hid hr
  have HK := Lib.hid hk
  have HKD := Lib.hid hK
  clear ho hr hk hK
  have HX := Lib.hid hx
  clear hx
  by_cases q0 : 1 ≤ t
  · have q1 : ¬ t ≤ 5 := fun h => q ⟨q0, h⟩
    have d0 : decide (1 ≤ t) = true := decide_eq_true q0
    have d1 : decide (t ≤ 5) = false := decide_eq_false q1
    clear q
    have hb := Below.refl w.heap.size w
    have HS := Lib.hid hsp
    clear hsp
    go_enter Tryd.func6, Tryd.ntmps6
    go_wp2_with fail
    refine (ret_from hb (known_yes _ (spaces_from HS.out hb))).mono ?_
    clear hb
    rintro e w1 ⟨rfl, hb⟩
    go_wp2_with fail
    refine (retT_from hb (tag_at s _ HK.out _)).mono ?_
    clear hb
    rintro e w1 ⟨rfl, hb⟩
    go_wp2_with fail
    refine (ret_from hb (kind_is s _ HKD.out _)).mono ?_
    clear hb
    rintro e w1 ⟨rfl, hb⟩
    go_wp2_with fail
    refine (ret_from hb (of_yes _ _ _ HO.out _)).mono ?_
    clear hb
    rintro e w1 ⟨rfl, hb⟩
    go_wp2_with fail
    refine (ret_from hb (lawres_any s _ (spaces_from HS.out hb))).mono ?_
    clear hb
    rintro e w1 ⟨rfl, hb⟩
    rw [HR.out]
    go_wp2_with fail
    refine (retO_from hb (oftag_at t _ HX.out _)).mono ?_
    clear hb
    rintro e w1 ⟨rfl, hb⟩
    go_wp2_with fail
    go_ret
    exact ⟨rfl, hb⟩
  · have d0 : decide (1 ≤ t) = false := decide_eq_false q0
    clear q
    have hb := Below.refl w.heap.size w
    have HS := Lib.hid hsp
    clear hsp
    go_enter Tryd.func6, Tryd.ntmps6
    go_wp2_with fail
    refine (ret_from hb (known_yes _ (spaces_from HS.out hb))).mono ?_
    clear hb
    rintro e w1 ⟨rfl, hb⟩
    go_wp2_with fail
    refine (retT_from hb (tag_at s _ HK.out _)).mono ?_
    clear hb
    rintro e w1 ⟨rfl, hb⟩
    go_wp2_with fail
    refine (ret_from hb (kind_is s _ HKD.out _)).mono ?_
    clear hb
    rintro e w1 ⟨rfl, hb⟩
    go_wp2_with fail
    refine (ret_from hb (of_yes _ _ _ HO.out _)).mono ?_
    clear hb
    rintro e w1 ⟨rfl, hb⟩
    go_wp2_with fail
    refine (ret_from hb (lawres_any s _ (spaces_from HS.out hb))).mono ?_
    clear hb
    rintro e w1 ⟨rfl, hb⟩
    rw [HR.out]
    go_wp2_with fail
    refine (retO_from hb (oftag_at t _ HX.out _)).mono ?_
    clear hb
    rintro e w1 ⟨rfl, hb⟩
    go_wp2_with fail
    go_ret
    exact ⟨rfl, hb⟩
set_option maxHeartbeats 1600000 in
theorem tags_01 (s : ByteArray) (t : Int) (w : World) (hsp : Spaces w) (hl : ¬ (60 : Int) < (s.size : Int)) (hk : tagV s = (0, 7)) (hK : (kindV s == 1) = false) (x : ByteArray) (hx : ofTagV t = (x, 0)) (hy : tagV x = (t, 0)) (q0 : 1 ≤ t) (q1 : t ≤ 5) : Calls Tryd.prog 6 #[.string s, .int .i64 t] w (RetB (.bool true) w) := by
  have d0 : decide (1 ≤ t) = true := decide_eq_true q0
  have d1 : decide (t ≤ 5) = true := decide_eq_true q1
  have HK := Lib.hid hk
  clear hk
  have HX := Lib.hid hx
  have HY := Lib.hid hy
  clear hx hy
  have hb := Below.refl w.heap.size w
  have HS := Lib.hid hsp
  clear hsp
  go_enter Tryd.func6, Tryd.ntmps6
  go_wp2_with fail
  refine (ret_from hb (known_yes _ (spaces_from HS.out hb))).mono ?_
  clear hb
  rintro e w1 ⟨rfl, hb⟩
  go_wp2_with fail
  refine (retT_from hb (tag_at s _ HK.out _)).mono ?_
  clear hb
  rintro e w1 ⟨rfl, hb⟩
  go_wp2_with fail
  refine (ret_from hb (kind_any s _)).mono ?_
  clear hb
  rintro e w1 ⟨rfl, hb⟩
  go_wp2_with fail
  refine (retO_from hb (oftag_at t _ HX.out _)).mono ?_
  clear hb
  rintro e w1 ⟨rfl, hb⟩
  go_wp2_with fail
  refine (ret_from hb (tags_yes _ _ _ HY.out _)).mono ?_
  clear hb
  rintro e w1 ⟨rfl, hb⟩
  go_wp2_with fail
  go_ret
  exact ⟨rfl, hb⟩
set_option maxHeartbeats 1600000 in
theorem tags_00 (s : ByteArray) (t : Int) (w : World) (hsp : Spaces w) (hl : ¬ (60 : Int) < (s.size : Int)) (hk : tagV s = (0, 7)) (hK : (kindV s == 1) = false) (hx : ofTagV t = (⟨#[]⟩, 7)) (q : ¬ (1 ≤ t ∧ t ≤ 5)) : Calls Tryd.prog 6 #[.string s, .int .i64 t] w (RetB (.bool true) w) := by
  have HK := Lib.hid hk
  clear hk
  have HX := Lib.hid hx
  clear hx
  by_cases q0 : 1 ≤ t
  · have q1 : ¬ t ≤ 5 := fun h => q ⟨q0, h⟩
    have d0 : decide (1 ≤ t) = true := decide_eq_true q0
    have d1 : decide (t ≤ 5) = false := decide_eq_false q1
    clear q
    have hb := Below.refl w.heap.size w
    have HS := Lib.hid hsp
    clear hsp
    go_enter Tryd.func6, Tryd.ntmps6
    go_wp2_with fail
    refine (ret_from hb (known_yes _ (spaces_from HS.out hb))).mono ?_
    clear hb
    rintro e w1 ⟨rfl, hb⟩
    go_wp2_with fail
    refine (retT_from hb (tag_at s _ HK.out _)).mono ?_
    clear hb
    rintro e w1 ⟨rfl, hb⟩
    go_wp2_with fail
    refine (ret_from hb (kind_any s _)).mono ?_
    clear hb
    rintro e w1 ⟨rfl, hb⟩
    go_wp2_with fail
    refine (retO_from hb (oftag_at t _ HX.out _)).mono ?_
    clear hb
    rintro e w1 ⟨rfl, hb⟩
    go_wp2_with fail
    go_ret
    exact ⟨rfl, hb⟩
  · have d0 : decide (1 ≤ t) = false := decide_eq_false q0
    clear q
    have hb := Below.refl w.heap.size w
    have HS := Lib.hid hsp
    clear hsp
    go_enter Tryd.func6, Tryd.ntmps6
    go_wp2_with fail
    refine (ret_from hb (known_yes _ (spaces_from HS.out hb))).mono ?_
    clear hb
    rintro e w1 ⟨rfl, hb⟩
    go_wp2_with fail
    refine (retT_from hb (tag_at s _ HK.out _)).mono ?_
    clear hb
    rintro e w1 ⟨rfl, hb⟩
    go_wp2_with fail
    refine (ret_from hb (kind_any s _)).mono ?_
    clear hb
    rintro e w1 ⟨rfl, hb⟩
    go_wp2_with fail
    refine (retO_from hb (oftag_at t _ HX.out _)).mono ?_
    clear hb
    rintro e w1 ⟨rfl, hb⟩
    go_wp2_with fail
    go_ret
    exact ⟨rfl, hb⟩
theorem tags_walk (s : ByteArray) (t : Int) (w : World) (hsp : Spaces w) : Calls Tryd.prog 6 #[.string s, .int .i64 t] w (RetB (.bool true) w) := by
  by_cases hl : (60 : Int) < (s.size : Int)
  · exact tags_long s t w hsp hl
  · cases hB : baseB s
    · by_cases q : 1 ≤ t ∧ t ≤ 5
      · obtain ⟨x, hx, hy⟩ := of_in t q.1 q.2
        exact tags_01 s t w hsp hl (tag_none s hB) (kind_nbase s hB) x hx hy q.1 q.2
      · exact tags_00 s t w hsp hl (tag_none s hB) (kind_nbase s hB) (of_out t q) q
    · obtain ⟨k, hk, ho, hr⟩ := tag_base s hB
      by_cases q : 1 ≤ t ∧ t ≤ 5
      · obtain ⟨x, hx, hy⟩ := of_in t q.1 q.2
        exact tags_11 s t w hsp hl k hk ho hr (kind_base s hB) x hx hy q.1 q.2
      · exact tags_10 s t w hsp hl k hk ho hr (kind_base s hB) (of_out t q) q
end Go.Proofs.YtohnhnomlkcfjaaDoor
