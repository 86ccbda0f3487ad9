/- words: tags, of, reserved, Pick, SameTexts, OverTexts, awake, WordsKnown, walked. -/
import Derived.Test.YtohnhnomlkcfjaaDoorRefNames
namespace Go.Proofs.YtohnhnomlkcfjaaDoor
open Go.RowKit
attribute [local irreducible] ByteArray.extract ByteArray.toList

theorem has_data (xs : List ByteArray) (s : ByteArray) : hasV xs s = xs.any fun x => x.data == s.data := by
  unfold hasV
  congr 1
  funext x
  rw [Bool.eq_iff_iff, beq_iff_eq, beq_iff_eq, ba_toList, ba_toList]
  exact ⟨fun h => by simpa using congrArg List.toArray h, fun h => by rw [h]⟩
def nameK (s : ByteArray) : Bool := wordV s smallV && !(resW.any fun x => x.data == s.data)
theorem name_k (s : ByteArray) : nameV s = nameK s := by unfold nameV nameK; rw [has_data]
theorem name_is (s : ByteArray) (b : Bool) (h : nameK s = b) (w : World) (hsp : Spaces w) : Calls Tryd.prog 17 #[.string s] w (RetB (.bool b) w) := by
  have := name_any s w hsp; rwa [name_k, h] at this
theorem class_is (s : ByteArray) (b : Bool) (h : classV s = b) (w : World) : Calls Tryd.prog 19 #[.string s] w (RetB (.bool b) w) := by
  have := class_any s w; rwa [h] at this
theorem type_is (s : ByteArray) (b : Bool) (h : typeV s = b) (w : World) : Calls Tryd.prog 21 #[.string s] w (RetB (.bool b) w) := by
  have := type_any s w; rwa [h] at this
theorem kind_is (s : ByteArray) (b : Int) (h : kindV s = b) (w : World) : Calls Tryd.prog 23 #[.string s] w (RetB (.int .i64 b) w) := by
  have := kind_any s w; rwa [h] at this

theorem tags_yes (s : ByteArray) (want err : Int) (h : tagV s = (want, err)) (w : World) : Calls Tryd.prog 29 #[.string s, .int .i64 want, .int .i64 err] w (RetB (.bool true) w) := by
  have c := tag_any s
  rw [h] at c
  have C := Lib.hid c
  have e1 := beq_self_eq_true want
  have e2 := beq_self_eq_true err
  clear c h
  go_enter Tryd.func29, Tryd.ntmps29
  go_wp2_with fail
  refine (C.out _).mono ?_
  rintro e w' ⟨rfl, hb⟩
  go_wp2_with fail
  go_ret
  exact ⟨rfl, hb⟩
theorem of_yes (t : Int) (want : ByteArray) (err : Int) (h : ofTagV t = (want, err)) (w : World) : Calls Tryd.prog 30 #[.int .i64 t, .string want, .int .i64 err] w (RetB (.bool true) w) := by
  have c := oftag_any t
  rw [h] at c
  have C := Lib.hid c
  have e1 := beq_self_eq_true want.toList
  have e2 := beq_self_eq_true err
  clear c h
  go_enter Tryd.func30, Tryd.ntmps30
  go_wp2_with fail
  refine (C.out _).mono ?_
  rintro e w' ⟨rfl, hb⟩
  go_wp2_with fail
  go_ret
  exact ⟨rfl, hb⟩
theorem lawres_any (s : ByteArray) (w : World) (hsp : Spaces w) : Calls Tryd.prog 31 #[.string s] w (RetB (.bool (hasV resW s)) w) := by
  have H := Lib.hid (reserved_s w hsp)
  clear hsp
  go_enter Tryd.func31, Tryd.ntmps31
  go_wp2_with fail
  refine H.out.mono ?_
  rintro e w1 ⟨g, cap, rfl, hg, hx, _, hb⟩
  have hlen := resW_len
  have hHb := Lib.hid hb
  clear H hb hg
  generalize resW = xs at *
  go_wp2_with fail
  go_loop [4] (fun v => ∃ i : Nat, v = .int .i64 i ∧ i ≤ xs.length ∧ NotBy xs s i) (fun v => match v with | .int _ q => xs.length - q.toNat | _ => 0)
  case atStart => exact ⟨0, rfl, Nat.zero_le _, notBy_zero _ _⟩
  case round =>
    obtain ⟨i, rfl, hi, hn⟩ := hrel
    rcases Nat.lt_or_ge i xs.length with hlt | hge
    · have hc := hx i hlt
      have hn' := Lib.hid hn
      have hl' : (i : Int) < (xs.length : Int) := by omega
      have hl'' : (i : Int) < 24 := by omega
      clear hn
      rcases hb : (xs[i].toList == s.toList)
      · have Hb := Lib.hid hb
        go_wp2
        refine ⟨⟨i + 1, by rw [Int.natCast_add]; rfl, by omega, notBy_succ hlt hn'.out Hb.out⟩, ?_⟩
        show xs.length - (((i : Int) + 1).toNat) < xs.length - ((i : Int).toNat)
        omega
      · have Hb := Lib.hid (has_true hlt hb)
        go_wp2
        go_ret
        exact ⟨by rw [Hb.out]; rfl, hHb.out⟩
    · obtain rfl : i = xs.length := by omega
      have Hb := Lib.hid (has_false hn)
      have hl' : ¬ (xs.length : Int) < (xs.length : Int) := by omega
      have hl'' : ¬ (xs.length : Int) < 24 := by omega
      clear hn
      go_wp2
      go_ret
      exact ⟨by rw [Hb.out]; rfl, hHb.out⟩

set_option maxRecDepth 100000 in
set_option maxHeartbeats 1600000 in
theorem awake_yes (w : World) (hsp : Spaces w) : Calls Tryd.prog 8 #[] w (RetB (.bool true) w) := by
  have hb := Below.refl w.heap.size w
  have HS := Lib.hid hsp
  clear hsp
  go_enter Tryd.func8, Tryd.ntmps8
  go_wp2_with fail
  refine (ret_from hb (name_is ⟨#[120, 49, 89]⟩ true (by decide +kernel) _ (spaces_from HS.out hb))).mono ?_
  clear hb
  rintro e w1 ⟨rfl, hb⟩
  go_wp2_with fail
  refine (ret_from hb (name_is ⟨#[105, 102]⟩ false (by decide +kernel) _ (spaces_from HS.out hb))).mono ?_
  clear hb
  rintro e w1 ⟨rfl, hb⟩
  go_wp2_with fail
  refine (ret_from hb (class_is ⟨#[67, 97, 116, 50]⟩ true (by decide +kernel) _)).mono ?_
  clear hb
  rintro e w1 ⟨rfl, hb⟩
  go_wp2_with fail
  refine (ret_from hb (type_is ⟨#[63]⟩ true (by decide +kernel) _)).mono ?_
  clear hb
  rintro e w1 ⟨rfl, hb⟩
  go_wp2_with fail
  refine (ret_from hb (kind_is ⟨#[115, 116, 114]⟩ 1 (by decide +kernel) _)).mono ?_
  clear hb
  rintro e w1 ⟨rfl, hb⟩
  go_wp2_with fail
  refine (ret_from hb (tags_yes ⟨#[98, 111, 111, 108]⟩ 3 0 (by decide +kernel) _)).mono ?_
  clear hb
  rintro e w1 ⟨rfl, hb⟩
  go_wp2_with fail
  go_ret
  exact ⟨rfl, hb⟩
set_option maxRecDepth 100000 in
set_option maxHeartbeats 1600000 in
theorem known_yes (w : World) (hsp : Spaces w) : Calls Tryd.prog 4 #[] w (RetB (.bool true) w) := by
  have hb := Below.refl w.heap.size w
  have HS := Lib.hid hsp
  clear hsp
  go_enter Tryd.func4, Tryd.ntmps4
  go_wp2_with fail
  refine (ret_from hb (name_is ⟨#[97]⟩ true (by decide +kernel) _ (spaces_from HS.out hb))).mono ?_
  clear hb
  rintro e w1 ⟨rfl, hb⟩
  go_wp2_with fail
  refine (ret_from hb (name_is ⟨#[88]⟩ false (by decide +kernel) _ (spaces_from HS.out hb))).mono ?_
  clear hb
  rintro e w1 ⟨rfl, hb⟩
  go_wp2_with fail
  refine (ret_from hb (name_is ⟨#[]⟩ false (by decide +kernel) _ (spaces_from HS.out hb))).mono ?_
  clear hb
  rintro e w1 ⟨rfl, hb⟩
  go_wp2_with fail
  refine (ret_from hb (name_is ⟨#[97, 95, 98]⟩ false (by decide +kernel) _ (spaces_from HS.out hb))).mono ?_
  clear hb
  rintro e w1 ⟨rfl, hb⟩
  go_wp2_with fail
  refine (ret_from hb (name_is ⟨#[97, 97, 97, 97, 97, 97, 97, 97, 97, 97, 97, 97, 97, 97, 97, 97, 97, 97, 97, 97, 97]⟩ false (by decide +kernel) _ (spaces_from HS.out hb))).mono ?_
  clear hb
  rintro e w1 ⟨rfl, hb⟩
  go_wp2_with fail
  refine (ret_from hb (name_is ⟨#[97, 97, 97, 97, 97, 97, 97, 97, 97, 97, 97, 97, 97, 97, 97, 97, 97, 97, 97, 97]⟩ true (by decide +kernel) _ (spaces_from HS.out hb))).mono ?_
  clear hb
  rintro e w1 ⟨rfl, hb⟩
  go_wp2_with fail
  refine (ret_from hb (class_is ⟨#[67]⟩ true (by decide +kernel) _)).mono ?_
  clear hb
  rintro e w1 ⟨rfl, hb⟩
  go_wp2_with fail
  refine (ret_from hb (class_is ⟨#[99]⟩ false (by decide +kernel) _)).mono ?_
  clear hb
  rintro e w1 ⟨rfl, hb⟩
  go_wp2_with fail
  refine (ret_from hb (class_is ⟨#[50, 67]⟩ false (by decide +kernel) _)).mono ?_
  clear hb
  rintro e w1 ⟨rfl, hb⟩
  go_wp2_with fail
  refine (ret_from hb (type_is ⟨#[117, 110, 105, 116]⟩ true (by decide +kernel) _)).mono ?_
  clear hb
  rintro e w1 ⟨rfl, hb⟩
  go_wp2_with fail
  refine (ret_from hb (type_is ⟨#[67, 97, 116]⟩ true (by decide +kernel) _)).mono ?_
  clear hb
  rintro e w1 ⟨rfl, hb⟩
  go_wp2_with fail
  refine (ret_from hb (type_is ⟨#[99, 97, 116]⟩ false (by decide +kernel) _)).mono ?_
  clear hb
  rintro e w1 ⟨rfl, hb⟩
  go_wp2_with fail
  refine (ret_from hb (type_is ⟨#[108, 101, 110]⟩ false (by decide +kernel) _)).mono ?_
  clear hb
  rintro e w1 ⟨rfl, hb⟩
  go_wp2_with fail
  refine (ret_from hb (awake_yes _ (spaces_from HS.out hb))).mono ?_
  clear hb
  rintro e w1 ⟨rfl, hb⟩
  go_wp2_with fail
  refine (ret_from hb (kind_is ⟨#[63]⟩ 2 (by decide +kernel) _)).mono ?_
  clear hb
  rintro e w1 ⟨rfl, hb⟩
  go_wp2_with fail
  refine (ret_from hb (kind_is ⟨#[65]⟩ 3 (by decide +kernel) _)).mono ?_
  clear hb
  rintro e w1 ⟨rfl, hb⟩
  go_wp2_with fail
  refine (ret_from hb (kind_is ⟨#[97]⟩ 0 (by decide +kernel) _)).mono ?_
  clear hb
  rintro e w1 ⟨rfl, hb⟩
  go_wp2_with fail
  refine (ret_from hb (tags_yes ⟨#[65]⟩ 0 7 (by decide +kernel) _)).mono ?_
  clear hb
  rintro e w1 ⟨rfl, hb⟩
  go_wp2_with fail
  refine (ret_from hb (of_yes 1 ⟨#[105, 110, 116]⟩ 0 (by decide +kernel) _)).mono ?_
  clear hb
  rintro e w1 ⟨rfl, hb⟩
  go_wp2_with fail
  refine (ret_from hb (of_yes 6 ⟨#[]⟩ 7 (by decide +kernel) _)).mono ?_
  clear hb
  rintro e w1 ⟨rfl, hb⟩
  go_wp2_with fail
  go_ret
  exact ⟨rfl, hb⟩
end Go.Proofs.YtohnhnomlkcfjaaDoor
