/- WordsApart, walked. -/
import Derived.Test.YtohnhnomlkcfjaaDoorApart
import Derived.Test.YtohnhnomlkcfjaaDoorClass
import Derived.Laws.BytesArg
namespace Go.Proofs.YtohnhnomlkcfjaaDoor
open Go.RowKit
open Go.BigFrame
set_option linter.unusedVariables false
attribute [local irreducible] ByteArray.extract ByteArray.toList
theorem name_at (s : ByteArray) (b : Bool) (h : nameV s = b) (w : World) (hsp : Spaces w) : Calls Tryd.prog 17 #[.string s] w (RetB (.bool b) w) := by rw [← h]; exact name_any s w hsp
theorem base_is (s : ByteArray) (b : Bool) (h : baseB s = b) (w : World) : Calls Tryd.prog 25 #[.string s] w (RetB (.bool b) w) := by rw [← h]; exact base_any s w
theorem key_is (s : ByteArray) (b : Bool) (h : hasV resW s = b) (w : World) (hsp : Spaces w) : Calls Tryd.prog 27 #[.string s] w (RetB (.bool b) w) := by rw [← h]; exact key_any s w hsp
theorem lawres_is (s : ByteArray) (b : Bool) (h : hasV resW s = b) (w : World) (hsp : Spaces w) : Calls Tryd.prog 31 #[.string s] w (RetB (.bool b) w) := by rw [← h]; exact lawres_any s w hsp

theorem ret_from' {f : FuncId} {args : Array Value} {v : Value} {w0 w1 : World} (hb : Below w0.heap.size w0 w1) (c : Calls Tryd.prog f args w1 (RetB v w1)) :
    Calls Tryd.prog f args w1 fun e w' => e = .returned v ∧ Below w0.heap.size w0 w' := c.mono fun _ _ ⟨he, h⟩ => ⟨he, hb.trans (h.mono hb.size)⟩
/-- A letter as a text. -/
def ltr (p : Nat) : ByteArray := strOfNums [97 + (p : Int)]
theorem conv_ltr (p : Nat) (w1 : World) : (convert 38 9 (.slice (some ⟨w1.heap.size, 0, none⟩) 1 1)).run Tryd.prog (w1.alloc (.cells #[.int .u8 (97 + (p : Int))] 5)) = .ok (.string (ltr p)) (w1.alloc (.cells #[.int .u8 (97 + (p : Int))] 5)) :=
  run_convert_bytes_arg (P := Tryd.prog) (w1.alloc (.cells #[.int .u8 (97 + (p : Int))] 5)) 38 5 Tryd.underlying38 Tryd.underlying5 w1.heap.size 0 1 1 [97 + (p : Int)] rfl (fun i hi => by
    obtain rfl : i = 0 := by omega
    exact (cell_new1 w1 _ 5).1) 9 Tryd.underlying9
theorem ltr_more (s : ByteArray) (p : Nat) : s ++ ltr p = moreS s (UInt8.ofNat (97 + p)) := by
  unfold moreS ltr strOfNums
  congr 1
theorem ltr_size (p : Nat) : (ltr p).size = 1 := rfl
theorem ltr_alnum (p : Nat) (hp : p < 26) : alnumV (UInt8.ofNat (97 + p)).toNat = true := by
  have : (UInt8.ofNat (97 + p)).toNat = 97 + p := by simp; omega
  rw [this]; unfold alnumV smallV
  rw [decide_eq_true (show 97 ≤ 97 + p by omega), decide_eq_true (show 97 + p ≤ 122 by omega)]; rfl
theorem ltr_word (s : ByteArray) (p : Nat) (hp : p < 26) (f : Nat → Bool) (h : wordV s f = true) : wordV (s ++ ltr p) f = decide (s.size < 20) := by
  rw [ltr_more s p]; exact more_word s _ (ltr_alnum p hp) f h

set_option maxHeartbeats 800000 in
theorem apart_long (s : ByteArray) (t : Int) (w : World) (hsp : Spaces w) (hl : (60 : Int) < (s.size : Int)) : Calls Tryd.prog 5 #[.string s, .int .i64 t] w (RetB (.bool true) w) := by
  have hb := Below.refl w.heap.size w
  have HS := Lib.hid hsp
  clear hsp
  go_enter Tryd.func5, Tryd.ntmps5
  go_wp2_with fail
  refine (ret_from hb (known_yes _ (spaces_from HS.out hb))).mono ?_
  clear hb
  rintro e w1 ⟨rfl, hb⟩
  go_wp2_with fail
  go_ret
  exact ⟨rfl, hb⟩

set_option maxRecDepth 100000 in
set_option maxHeartbeats 1600000 in
theorem apart_00 (s : ByteArray) (t : Int) (w : World) (hsp : Spaces w) (hl : ¬ (60 : Int) < (s.size : Int)) (hn : nameV s = false) (hc : classV s = false) (hk : kindV s = 0) (hbb : baseB s = false) (hkey : hasV resW s = false) (ht : typeV s = false) : Calls Tryd.prog 5 #[.string s, .int .i64 t] w (RetB (.bool true) w) := by
  have hb := Below.refl w.heap.size w
  have HS := Lib.hid hsp
  have HN := Lib.hid hn
  have HC := Lib.hid hc
  have HK := Lib.hid hk
  have HBB := Lib.hid hbb
  have HKEY := Lib.hid hkey
  have HT := Lib.hid ht
  clear hsp hn hc hk hbb hkey ht
  go_enter Tryd.func5, Tryd.ntmps5
  go_wp2_with fail
  refine (ret_from hb (known_yes _ (spaces_from HS.out hb))).mono ?_
  clear hb
  rintro e w1 ⟨rfl, hb⟩
  go_wp2_with fail
  refine (ret_from hb (name_at s false HN.out _ (spaces_from HS.out hb))).mono ?_
  clear hb
  rintro e w1 ⟨rfl, hb⟩
  go_wp2_with fail
  refine (ret_from hb (class_is s false HC.out _)).mono ?_
  clear hb
  rintro e w1 ⟨rfl, hb⟩
  go_wp2_with fail
  refine (ret_from hb (kind_is s 0 HK.out _)).mono ?_
  clear hb
  rintro e w1 ⟨rfl, hb⟩
  go_wp2_with fail
  refine (ret_from hb (base_is s false HBB.out _)).mono ?_
  clear hb
  rintro e w1 ⟨rfl, hb⟩
  go_wp2_with fail
  refine (ret_from hb (key_is s false HKEY.out _ (spaces_from HS.out hb))).mono ?_
  clear hb
  rintro e w1 ⟨rfl, hb⟩
  go_wp2_with fail
  refine (ret_from hb (lawres_is s false HKEY.out _ (spaces_from HS.out hb))).mono ?_
  clear hb
  rintro e w1 ⟨rfl, hb⟩
  go_wp2_with fail
  refine (ret_from hb (key_is s false HKEY.out _ (spaces_from HS.out hb))).mono ?_
  clear hb
  rintro e w1 ⟨rfl, hb⟩
  go_wp2_with fail
  refine (ret_from hb (type_is s false HT.out _)).mono ?_
  clear hb
  rintro e w1 ⟨rfl, hb⟩
  go_wp2_with fail
  refine (pick_26 t _).mono ?_
  rintro e w' ⟨p, hp, rfl, rfl⟩
  have hcv := conv_ltr p w1
  have hle : ¬ 9223372036854775807 < s.size + (ltr p).size   := by rw [ltr_size]; omega
  have hz : (s ++ ltr p).size = s.size + 1 := by rw [ByteArray.size_append, ltr_size]
  clear hz
  go_wp2_with fail
  have hb := hb.alloc hb.size (.cells #[.int .u8 (97 + (p : Int))] 5)
  go_ret
  exact ⟨rfl, hb⟩
set_option maxRecDepth 100000 in
set_option maxHeartbeats 1600000 in
theorem apart_01 (s : ByteArray) (t : Int) (w : World) (hsp : Spaces w) (hl : ¬ (60 : Int) < (s.size : Int)) (hn : nameV s = false) (hc : classV s = false) (hk : kindV s = 0) (hbb : baseB s = false) (hkey : hasV resW s = true) (ht : typeV s = false) : Calls Tryd.prog 5 #[.string s, .int .i64 t] w (RetB (.bool true) w) := by
  have hb := Below.refl w.heap.size w
  have HS := Lib.hid hsp
  have HN := Lib.hid hn
  have HC := Lib.hid hc
  have HK := Lib.hid hk
  have HBB := Lib.hid hbb
  have HKEY := Lib.hid hkey
  have HT := Lib.hid ht
  clear hsp hn hc hk hbb hkey ht
  go_enter Tryd.func5, Tryd.ntmps5
  go_wp2_with fail
  refine (ret_from hb (known_yes _ (spaces_from HS.out hb))).mono ?_
  clear hb
  rintro e w1 ⟨rfl, hb⟩
  go_wp2_with fail
  refine (ret_from hb (name_at s false HN.out _ (spaces_from HS.out hb))).mono ?_
  clear hb
  rintro e w1 ⟨rfl, hb⟩
  go_wp2_with fail
  refine (ret_from hb (class_is s false HC.out _)).mono ?_
  clear hb
  rintro e w1 ⟨rfl, hb⟩
  go_wp2_with fail
  refine (ret_from hb (kind_is s 0 HK.out _)).mono ?_
  clear hb
  rintro e w1 ⟨rfl, hb⟩
  go_wp2_with fail
  refine (ret_from hb (base_is s false HBB.out _)).mono ?_
  clear hb
  rintro e w1 ⟨rfl, hb⟩
  go_wp2_with fail
  refine (ret_from hb (key_is s true HKEY.out _ (spaces_from HS.out hb))).mono ?_
  clear hb
  rintro e w1 ⟨rfl, hb⟩
  go_wp2_with fail
  refine (ret_from hb (lawres_is s true HKEY.out _ (spaces_from HS.out hb))).mono ?_
  clear hb
  rintro e w1 ⟨rfl, hb⟩
  go_wp2_with fail
  refine (ret_from hb (key_is s true HKEY.out _ (spaces_from HS.out hb))).mono ?_
  clear hb
  rintro e w1 ⟨rfl, hb⟩
  go_wp2_with fail
  refine (ret_from hb (type_is s false HT.out _)).mono ?_
  clear hb
  rintro e w1 ⟨rfl, hb⟩
  go_wp2_with fail
  refine (pick_26 t _).mono ?_
  rintro e w' ⟨p, hp, rfl, rfl⟩
  have hcv := conv_ltr p w1
  have hle : ¬ 9223372036854775807 < s.size + (ltr p).size   := by rw [ltr_size]; omega
  have hz : (s ++ ltr p).size = s.size + 1 := by rw [ByteArray.size_append, ltr_size]
  clear hz
  go_wp2_with fail
  have hb := hb.alloc hb.size (.cells #[.int .u8 (97 + (p : Int))] 5)
  go_ret
  exact ⟨rfl, hb⟩
set_option maxRecDepth 100000 in
set_option maxHeartbeats 1600000 in
theorem apart_11 (s : ByteArray) (t : Int) (w : World) (hsp : Spaces w) (hl : ¬ (60 : Int) < (s.size : Int)) (hn : nameV s = false) (hc : classV s = false) (hk : kindV s = 1) (hbb : baseB s = true) (hkey : hasV resW s = true) (ht : typeV s = true) : Calls Tryd.prog 5 #[.string s, .int .i64 t] w (RetB (.bool true) w) := by
  have hb := Below.refl w.heap.size w
  have HS := Lib.hid hsp
  have HN := Lib.hid hn
  have HC := Lib.hid hc
  have HK := Lib.hid hk
  have HBB := Lib.hid hbb
  have HKEY := Lib.hid hkey
  have HT := Lib.hid ht
  clear hsp hn hc hk hbb hkey ht
  go_enter Tryd.func5, Tryd.ntmps5
  go_wp2_with fail
  refine (ret_from hb (known_yes _ (spaces_from HS.out hb))).mono ?_
  clear hb
  rintro e w1 ⟨rfl, hb⟩
  go_wp2_with fail
  refine (ret_from hb (name_at s false HN.out _ (spaces_from HS.out hb))).mono ?_
  clear hb
  rintro e w1 ⟨rfl, hb⟩
  go_wp2_with fail
  refine (ret_from hb (class_is s false HC.out _)).mono ?_
  clear hb
  rintro e w1 ⟨rfl, hb⟩
  go_wp2_with fail
  refine (ret_from hb (kind_is s 1 HK.out _)).mono ?_
  clear hb
  rintro e w1 ⟨rfl, hb⟩
  go_wp2_with fail
  refine (ret_from hb (base_is s true HBB.out _)).mono ?_
  clear hb
  rintro e w1 ⟨rfl, hb⟩
  go_wp2_with fail
  refine (ret_from hb (key_is s true HKEY.out _ (spaces_from HS.out hb))).mono ?_
  clear hb
  rintro e w1 ⟨rfl, hb⟩
  go_wp2_with fail
  refine (ret_from hb (lawres_is s true HKEY.out _ (spaces_from HS.out hb))).mono ?_
  clear hb
  rintro e w1 ⟨rfl, hb⟩
  go_wp2_with fail
  refine (ret_from hb (key_is s true HKEY.out _ (spaces_from HS.out hb))).mono ?_
  clear hb
  rintro e w1 ⟨rfl, hb⟩
  go_wp2_with fail
  refine (ret_from hb (type_is s true HT.out _)).mono ?_
  clear hb
  rintro e w1 ⟨rfl, hb⟩
  go_wp2_with fail
  refine (pick_26 t _).mono ?_
  rintro e w' ⟨p, hp, rfl, rfl⟩
  have hcv := conv_ltr p w1
  have hle : ¬ 9223372036854775807 < s.size + (ltr p).size   := by rw [ltr_size]; omega
  have hz : (s ++ ltr p).size = s.size + 1 := by rw [ByteArray.size_append, ltr_size]
  clear hz
  go_wp2_with fail
  have hb := hb.alloc hb.size (.cells #[.int .u8 (97 + (p : Int))] 5)
  go_ret
  exact ⟨rfl, hb⟩
set_option maxRecDepth 100000 in
set_option maxHeartbeats 1600000 in
theorem apart_20 (s : ByteArray) (t : Int) (w : World) (hsp : Spaces w) (hl : ¬ (60 : Int) < (s.size : Int)) (hn : nameV s = false) (hc : classV s = false) (hk : kindV s = 2) (hbb : baseB s = false) (hkey : hasV resW s = false) (ht : typeV s = true) : Calls Tryd.prog 5 #[.string s, .int .i64 t] w (RetB (.bool true) w) := by
  have hb := Below.refl w.heap.size w
  have HS := Lib.hid hsp
  have HN := Lib.hid hn
  have HC := Lib.hid hc
  have HK := Lib.hid hk
  have HBB := Lib.hid hbb
  have HKEY := Lib.hid hkey
  have HT := Lib.hid ht
  clear hsp hn hc hk hbb hkey ht
  go_enter Tryd.func5, Tryd.ntmps5
  go_wp2_with fail
  refine (ret_from hb (known_yes _ (spaces_from HS.out hb))).mono ?_
  clear hb
  rintro e w1 ⟨rfl, hb⟩
  go_wp2_with fail
  refine (ret_from hb (name_at s false HN.out _ (spaces_from HS.out hb))).mono ?_
  clear hb
  rintro e w1 ⟨rfl, hb⟩
  go_wp2_with fail
  refine (ret_from hb (class_is s false HC.out _)).mono ?_
  clear hb
  rintro e w1 ⟨rfl, hb⟩
  go_wp2_with fail
  refine (ret_from hb (kind_is s 2 HK.out _)).mono ?_
  clear hb
  rintro e w1 ⟨rfl, hb⟩
  go_wp2_with fail
  refine (ret_from hb (base_is s false HBB.out _)).mono ?_
  clear hb
  rintro e w1 ⟨rfl, hb⟩
  go_wp2_with fail
  refine (ret_from hb (key_is s false HKEY.out _ (spaces_from HS.out hb))).mono ?_
  clear hb
  rintro e w1 ⟨rfl, hb⟩
  go_wp2_with fail
  refine (ret_from hb (lawres_is s false HKEY.out _ (spaces_from HS.out hb))).mono ?_
  clear hb
  rintro e w1 ⟨rfl, hb⟩
  go_wp2_with fail
  refine (ret_from hb (key_is s false HKEY.out _ (spaces_from HS.out hb))).mono ?_
  clear hb
  rintro e w1 ⟨rfl, hb⟩
  go_wp2_with fail
  refine (ret_from hb (type_is s true HT.out _)).mono ?_
  clear hb
  rintro e w1 ⟨rfl, hb⟩
  go_wp2_with fail
  refine (pick_26 t _).mono ?_
  rintro e w' ⟨p, hp, rfl, rfl⟩
  have hcv := conv_ltr p w1
  have hle : ¬ 9223372036854775807 < s.size + (ltr p).size   := by rw [ltr_size]; omega
  have hz : (s ++ ltr p).size = s.size + 1 := by rw [ByteArray.size_append, ltr_size]
  clear hz
  go_wp2_with fail
  have hb := hb.alloc hb.size (.cells #[.int .u8 (97 + (p : Int))] 5)
  go_ret
  exact ⟨rfl, hb⟩
set_option maxRecDepth 100000 in
set_option maxHeartbeats 1600000 in
theorem apart_class_lt (s : ByteArray) (t : Int) (w : World) (hsp : Spaces w) (_hl : ¬ (60 : Int) < (s.size : Int)) (hn : nameV s = false) (hc : classV s = true) (hk : kindV s = 3) (hbb : baseB s = false) (hkey : hasV resW s = false) (ht : typeV s = true) (h1 : (1 : Int) ≤ s.size) (hlt : (s.size : Int) < 20) : Calls Tryd.prog 5 #[.string s, .int .i64 t] w (RetB (.bool true) w) := by
  have hw := hc
  have hb := Below.refl w.heap.size w
  have HS := Lib.hid hsp
  have HN := Lib.hid hn
  have HC := Lib.hid hc
  have HK := Lib.hid hk
  have HBB := Lib.hid hbb
  have HKEY := Lib.hid hkey
  have HT := Lib.hid ht
  clear hsp hn hc hk hbb hkey ht
  go_enter Tryd.func5, Tryd.ntmps5
  go_wp2_with fail
  refine (ret_from hb (known_yes _ (spaces_from HS.out hb))).mono ?_
  clear hb
  rintro e w1 ⟨rfl, hb⟩
  go_wp2_with fail
  refine (ret_from hb (name_at s false HN.out _ (spaces_from HS.out hb))).mono ?_
  clear hb
  rintro e w1 ⟨rfl, hb⟩
  go_wp2_with fail
  refine (ret_from hb (class_is s true HC.out _)).mono ?_
  clear hb
  rintro e w1 ⟨rfl, hb⟩
  go_wp2_with fail
  refine (ret_from hb (kind_is s 3 HK.out _)).mono ?_
  clear hb
  rintro e w1 ⟨rfl, hb⟩
  go_wp2_with fail
  refine (ret_from hb (base_is s false HBB.out _)).mono ?_
  clear hb
  rintro e w1 ⟨rfl, hb⟩
  go_wp2_with fail
  refine (ret_from hb (key_is s false HKEY.out _ (spaces_from HS.out hb))).mono ?_
  clear hb
  rintro e w1 ⟨rfl, hb⟩
  go_wp2_with fail
  refine (ret_from hb (lawres_is s false HKEY.out _ (spaces_from HS.out hb))).mono ?_
  clear hb
  rintro e w1 ⟨rfl, hb⟩
  go_wp2_with fail
  refine (ret_from hb (key_is s false HKEY.out _ (spaces_from HS.out hb))).mono ?_
  clear hb
  rintro e w1 ⟨rfl, hb⟩
  go_wp2_with fail
  refine (ret_from hb (type_is s true HT.out _)).mono ?_
  clear hb
  rintro e w1 ⟨rfl, hb⟩
  go_wp2_with fail
  refine (pick_26 t _).mono ?_
  rintro e w' ⟨p, hp, rfl, rfl⟩
  have hcv := conv_ltr p w1
  have hle : ¬ 9223372036854775807 < s.size + (ltr p).size   := by rw [ltr_size]; omega
  have hz : (s ++ ltr p).size = s.size + 1 := by rw [ByteArray.size_append, ltr_size]
  have HM : Hid (classV (s ++ ltr p) = true) := by
    have := ltr_word s p hp greatV hw
    rw [decide_eq_true (show s.size < 20 by omega)] at this
    exact this
  clear hw
  have h20 : ((s.size : Int) == 20) = false := beq_eq_false_iff_ne.2 (by omega)
  clear hz
  go_wp2_with fail
  have hb := hb.alloc hb.size (.cells #[.int .u8 (97 + (p : Int))] 5)
  refine (ret_from hb (class_is (s ++ ltr p) true HM.out _)).mono ?_
  clear hb
  rintro e w1 ⟨rfl, hb⟩
  go_wp2_with fail
  go_ret
  exact ⟨rfl, hb⟩
set_option maxRecDepth 100000 in
set_option maxHeartbeats 1600000 in
theorem apart_class_20 (s : ByteArray) (t : Int) (w : World) (hsp : Spaces w) (_hl : ¬ (60 : Int) < (s.size : Int)) (hn : nameV s = false) (hc : classV s = true) (hk : kindV s = 3) (hbb : baseB s = false) (hkey : hasV resW s = false) (ht : typeV s = true) (h1 : (1 : Int) ≤ s.size) (hle20 : (s.size : Int) ≤ 20) (hlt : ¬ (s.size : Int) < 20) (h20 : ((s.size : Int) == 20) = true) : Calls Tryd.prog 5 #[.string s, .int .i64 t] w (RetB (.bool true) w) := by
  have hw := hc
  have hb := Below.refl w.heap.size w
  have HS := Lib.hid hsp
  have HN := Lib.hid hn
  have HC := Lib.hid hc
  have HK := Lib.hid hk
  have HBB := Lib.hid hbb
  have HKEY := Lib.hid hkey
  have HT := Lib.hid ht
  clear hsp hn hc hk hbb hkey ht
  go_enter Tryd.func5, Tryd.ntmps5
  go_wp2_with fail
  refine (ret_from hb (known_yes _ (spaces_from HS.out hb))).mono ?_
  clear hb
  rintro e w1 ⟨rfl, hb⟩
  go_wp2_with fail
  refine (ret_from hb (name_at s false HN.out _ (spaces_from HS.out hb))).mono ?_
  clear hb
  rintro e w1 ⟨rfl, hb⟩
  go_wp2_with fail
  refine (ret_from hb (class_is s true HC.out _)).mono ?_
  clear hb
  rintro e w1 ⟨rfl, hb⟩
  go_wp2_with fail
  refine (ret_from hb (kind_is s 3 HK.out _)).mono ?_
  clear hb
  rintro e w1 ⟨rfl, hb⟩
  go_wp2_with fail
  refine (ret_from hb (base_is s false HBB.out _)).mono ?_
  clear hb
  rintro e w1 ⟨rfl, hb⟩
  go_wp2_with fail
  refine (ret_from hb (key_is s false HKEY.out _ (spaces_from HS.out hb))).mono ?_
  clear hb
  rintro e w1 ⟨rfl, hb⟩
  go_wp2_with fail
  refine (ret_from hb (lawres_is s false HKEY.out _ (spaces_from HS.out hb))).mono ?_
  clear hb
  rintro e w1 ⟨rfl, hb⟩
  go_wp2_with fail
  refine (ret_from hb (key_is s false HKEY.out _ (spaces_from HS.out hb))).mono ?_
  clear hb
  rintro e w1 ⟨rfl, hb⟩
  go_wp2_with fail
  refine (ret_from hb (type_is s true HT.out _)).mono ?_
  clear hb
  rintro e w1 ⟨rfl, hb⟩
  go_wp2_with fail
  refine (pick_26 t _).mono ?_
  rintro e w' ⟨p, hp, rfl, rfl⟩
  have hcv := conv_ltr p w1
  have hle : ¬ 9223372036854775807 < s.size + (ltr p).size   := by rw [ltr_size]; omega
  have hz : (s ++ ltr p).size = s.size + 1 := by rw [ByteArray.size_append, ltr_size]
  have HM : Hid (classV (s ++ ltr p) = false) := by
    have := ltr_word s p hp greatV hw
    rw [decide_eq_false (show ¬ s.size < 20 by omega)] at this
    exact this
  clear hw
  clear hz
  go_wp2_with fail
  have hb := hb.alloc hb.size (.cells #[.int .u8 (97 + (p : Int))] 5)
  refine (ret_from hb (class_is (s ++ ltr p) false HM.out _)).mono ?_
  clear hb
  rintro e w1 ⟨rfl, hb⟩
  go_wp2_with fail
  go_ret
  exact ⟨rfl, hb⟩
set_option maxRecDepth 100000 in
set_option maxHeartbeats 1600000 in
theorem apart_name_11 (s : ByteArray) (t : Int) (w : World) (hsp : Spaces w) (hl : ¬ (60 : Int) < (s.size : Int)) (hn : nameV s = true) (hc : classV s = false) (hk : kindV s = 0) (hbb : baseB s = false) (hkey : hasV resW s = false) (ht : typeV s = false) (h1 : (1 : Int) ≤ s.size) (hle20 : (s.size : Int) ≤ 20) (hlt : (s.size : Int) < 20) (hone : ((s.size : Int) == 1) = true) : Calls Tryd.prog 5 #[.string s, .int .i64 t] w (RetB (.bool true) w) := by
  have hw : wordV s smallV = true := by unfold nameV at hn; rw [Bool.and_eq_true] at hn; exact hn.1
  have hb := Below.refl w.heap.size w
  have HS := Lib.hid hsp
  have HN := Lib.hid hn
  have HC := Lib.hid hc
  have HK := Lib.hid hk
  have HBB := Lib.hid hbb
  have HKEY := Lib.hid hkey
  have HT := Lib.hid ht
  clear hsp hn hc hk hbb hkey ht
  go_enter Tryd.func5, Tryd.ntmps5
  go_wp2_with fail
  refine (ret_from hb (known_yes _ (spaces_from HS.out hb))).mono ?_
  clear hb
  rintro e w1 ⟨rfl, hb⟩
  go_wp2_with fail
  refine (ret_from hb (name_at s true HN.out _ (spaces_from HS.out hb))).mono ?_
  clear hb
  rintro e w1 ⟨rfl, hb⟩
  go_wp2_with fail
  refine (ret_from hb (class_is s false HC.out _)).mono ?_
  clear hb
  rintro e w1 ⟨rfl, hb⟩
  go_wp2_with fail
  refine (ret_from hb (kind_is s 0 HK.out _)).mono ?_
  clear hb
  rintro e w1 ⟨rfl, hb⟩
  go_wp2_with fail
  refine (ret_from hb (base_is s false HBB.out _)).mono ?_
  clear hb
  rintro e w1 ⟨rfl, hb⟩
  go_wp2_with fail
  refine (ret_from hb (key_is s false HKEY.out _ (spaces_from HS.out hb))).mono ?_
  clear hb
  rintro e w1 ⟨rfl, hb⟩
  go_wp2_with fail
  refine (ret_from hb (lawres_is s false HKEY.out _ (spaces_from HS.out hb))).mono ?_
  clear hb
  rintro e w1 ⟨rfl, hb⟩
  go_wp2_with fail
  refine (ret_from hb (key_is s false HKEY.out _ (spaces_from HS.out hb))).mono ?_
  clear hb
  rintro e w1 ⟨rfl, hb⟩
  go_wp2_with fail
  refine (ret_from hb (type_is s false HT.out _)).mono ?_
  clear hb
  rintro e w1 ⟨rfl, hb⟩
  go_wp2_with fail
  refine (pick_26 t _).mono ?_
  rintro e w' ⟨p, hp, rfl, rfl⟩
  have hcv := conv_ltr p w1
  have hle : ¬ 9223372036854775807 < s.size + (ltr p).size   := by rw [ltr_size]; omega
  have hz : (s ++ ltr p).size = s.size + 1 := by rw [ByteArray.size_append, ltr_size]
  have HW : Hid (wordV (s ++ ltr p) smallV = decide (s.size < 20)) := ltr_word s p hp smallV hw
  clear hw
  rw [decide_eq_true (show s.size < 20 by omega)] at HW
  clear hz
  have hle2 : decide ((s.size : Int) + ((ltr p).size : Int) ≤ 20) = true := decide_eq_true (by rw [ltr_size]; omega)
  go_wp2_with fail
  have hb := hb.alloc hb.size (.cells #[.int .u8 (97 + (p : Int))] 5)
  rcases hr : hasV resW (s ++ ltr p) with _ | _
  · have HR := Lib.hid hr
    have HN2 : Hid (nameV (s ++ ltr p) = true) := by
      show (wordV (s ++ ltr p) smallV && !hasV resW (s ++ ltr p)) = _
      rw [HW.out, hr]; rfl
    clear hr
    refine wp_region_in (fun w' => Below w.heap.size w w') (by kernel_rfl) (by kernel_rfl) hb.drew ?_
    intro hne
    repeat (first | go_big_quiet_skip | (go_big_quiet_want; go_big_quiet_op; first | go_big_quiet_on | (first | (refine ⟨.bool true, fun x => call_in x (fun W hW => ?_), ?_⟩; (· with_reducible exact ret_from' hW (name_at (s ++ ltr p) true HN2.out _ (spaces_from HS.out hW))); go_big_quiet_on) | (refine ⟨.bool false, fun x => call_in x (fun W hW => ?_), ?_⟩; (· with_reducible exact ret_from' hW (lawres_is (s ++ ltr p) false HR.out _ (spaces_from HS.out hW))); go_big_quiet_on))))
    refine wpQuiet_nil ?_
    rintro _ ⟨⟨w2, hb2⟩, rfl⟩
    go_wp2_with fail
    go_ret
    exact ⟨rfl, hb2⟩
  · have HR := Lib.hid hr
    have HN2 : Hid (nameV (s ++ ltr p) = false) := by
      show (wordV (s ++ ltr p) smallV && !hasV resW (s ++ ltr p)) = _
      rw [HW.out, hr]; rfl
    clear hr
    refine wp_region_in (fun w' => Below w.heap.size w w') (by kernel_rfl) (by kernel_rfl) hb.drew ?_
    intro hne
    repeat (first | go_big_quiet_skip | (go_big_quiet_want; go_big_quiet_op; first | go_big_quiet_on | (first | (refine ⟨.bool false, fun x => call_in x (fun W hW => ?_), ?_⟩; (· with_reducible exact ret_from' hW (name_at (s ++ ltr p) false HN2.out _ (spaces_from HS.out hW))); go_big_quiet_on) | (refine ⟨.bool true, fun x => call_in x (fun W hW => ?_), ?_⟩; (· with_reducible exact ret_from' hW (lawres_is (s ++ ltr p) true HR.out _ (spaces_from HS.out hW))); go_big_quiet_on))))
    refine wpQuiet_nil ?_
    rintro _ ⟨⟨w2, hb2⟩, rfl⟩
    go_wp2_with fail
    go_ret
    exact ⟨rfl, hb2⟩
set_option maxRecDepth 100000 in
set_option maxHeartbeats 1600000 in
theorem apart_name_100 (s : ByteArray) (t : Int) (w : World) (hsp : Spaces w) (hl : ¬ (60 : Int) < (s.size : Int)) (hn : nameV s = true) (hc : classV s = false) (hk : kindV s = 0) (hbb : baseB s = false) (hkey : hasV resW s = false) (ht : typeV s = false) (h1 : (1 : Int) ≤ s.size) (hle20 : (s.size : Int) ≤ 20) (hlt : (s.size : Int) < 20) (hone : ((s.size : Int) == 1) = false) (m : Nat) (hm : (s.size : Int) - 1 = m) (hr2 : hasV resW (s.extract 0 m) = false) : Calls Tryd.prog 5 #[.string s, .int .i64 t] w (RetB (.bool true) w) := by
  have hw : wordV s smallV = true := by unfold nameV at hn; rw [Bool.and_eq_true] at hn; exact hn.1
  have hm1 : 1 ≤ m := by
    have : ¬ (s.size : Int) = 1 := by simpa using hone
    omega
  have hwm : IntKind.i64.wrap (m : Int) = m := IntWalk.i64_in _ (by omega)
  have hm2 : (m : Int) ≤ (s.size : Int) := by omega
  have HR2 := Lib.hid hr2
  have HL : Hid (nameV (s.extract 0 m) = true) := by
    have e : wordV (s.extract 0 m) smallV = true := less_word s _ (by omega) hm1 smallV hw
    show (wordV (s.extract 0 m) smallV && !hasV resW (s.extract 0 m)) = _
    rw [e, hr2]; rfl
  clear hr2
  have hb := Below.refl w.heap.size w
  have HS := Lib.hid hsp
  have HN := Lib.hid hn
  have HC := Lib.hid hc
  have HK := Lib.hid hk
  have HBB := Lib.hid hbb
  have HKEY := Lib.hid hkey
  have HT := Lib.hid ht
  clear hsp hn hc hk hbb hkey ht
  go_enter Tryd.func5, Tryd.ntmps5
  go_wp2_with fail
  refine (ret_from hb (known_yes _ (spaces_from HS.out hb))).mono ?_
  clear hb
  rintro e w1 ⟨rfl, hb⟩
  go_wp2_with fail
  refine (ret_from hb (name_at s true HN.out _ (spaces_from HS.out hb))).mono ?_
  clear hb
  rintro e w1 ⟨rfl, hb⟩
  go_wp2_with fail
  refine (ret_from hb (class_is s false HC.out _)).mono ?_
  clear hb
  rintro e w1 ⟨rfl, hb⟩
  go_wp2_with fail
  refine (ret_from hb (kind_is s 0 HK.out _)).mono ?_
  clear hb
  rintro e w1 ⟨rfl, hb⟩
  go_wp2_with fail
  refine (ret_from hb (base_is s false HBB.out _)).mono ?_
  clear hb
  rintro e w1 ⟨rfl, hb⟩
  go_wp2_with fail
  refine (ret_from hb (key_is s false HKEY.out _ (spaces_from HS.out hb))).mono ?_
  clear hb
  rintro e w1 ⟨rfl, hb⟩
  go_wp2_with fail
  refine (ret_from hb (lawres_is s false HKEY.out _ (spaces_from HS.out hb))).mono ?_
  clear hb
  rintro e w1 ⟨rfl, hb⟩
  go_wp2_with fail
  refine (ret_from hb (key_is s false HKEY.out _ (spaces_from HS.out hb))).mono ?_
  clear hb
  rintro e w1 ⟨rfl, hb⟩
  go_wp2_with fail
  refine (ret_from hb (type_is s false HT.out _)).mono ?_
  clear hb
  rintro e w1 ⟨rfl, hb⟩
  go_wp2_with fail
  refine (pick_26 t _).mono ?_
  rintro e w' ⟨p, hp, rfl, rfl⟩
  have hcv := conv_ltr p w1
  have hle : ¬ 9223372036854775807 < s.size + (ltr p).size   := by rw [ltr_size]; omega
  have hz : (s ++ ltr p).size = s.size + 1 := by rw [ByteArray.size_append, ltr_size]
  have HW : Hid (wordV (s ++ ltr p) smallV = decide (s.size < 20)) := ltr_word s p hp smallV hw
  clear hw
  rw [decide_eq_true (show s.size < 20 by omega)] at HW
  clear hz
  have hle2 : decide ((s.size : Int) + ((ltr p).size : Int) ≤ 20) = true := decide_eq_true (by rw [ltr_size]; omega)
  go_wp2_with fail
  have hb := hb.alloc hb.size (.cells #[.int .u8 (97 + (p : Int))] 5)
  rcases hr : hasV resW (s ++ ltr p) with _ | _
  · have HR := Lib.hid hr
    have HN2 : Hid (nameV (s ++ ltr p) = true) := by
      show (wordV (s ++ ltr p) smallV && !hasV resW (s ++ ltr p)) = _
      rw [HW.out, hr]; rfl
    clear hr
    refine wp_region_in (fun w' => Below w.heap.size w w') (by kernel_rfl) (by kernel_rfl) hb.drew ?_
    intro hne
    repeat (first | go_big_quiet_skip | (go_big_quiet_want; go_big_quiet_op; first | go_big_quiet_on | (first | (refine ⟨.bool true, fun x => call_in x (fun W hW => ?_), ?_⟩; (· with_reducible exact ret_from' hW (name_at (s ++ ltr p) true HN2.out _ (spaces_from HS.out hW))); go_big_quiet_on) | (refine ⟨.bool false, fun x => call_in x (fun W hW => ?_), ?_⟩; (· with_reducible exact ret_from' hW (lawres_is (s ++ ltr p) false HR.out _ (spaces_from HS.out hW))); go_big_quiet_on) | (refine ⟨.bool true, fun x => call_in x (fun W hW => ?_), ?_⟩; (· with_reducible exact ret_from' hW (name_at (s.extract 0 m) true HL.out _ (spaces_from HS.out hW))); go_big_quiet_on) | (refine ⟨.bool false, fun x => call_in x (fun W hW => ?_), ?_⟩; (· with_reducible exact ret_from' hW (lawres_is (s.extract 0 m) false HR2.out _ (spaces_from HS.out hW))); go_big_quiet_on))))
    refine wpQuiet_nil ?_
    rintro _ ⟨⟨w2, hb2⟩, rfl⟩
    go_wp2_with fail
    go_ret
    exact ⟨rfl, hb2⟩
  · have HR := Lib.hid hr
    have HN2 : Hid (nameV (s ++ ltr p) = false) := by
      show (wordV (s ++ ltr p) smallV && !hasV resW (s ++ ltr p)) = _
      rw [HW.out, hr]; rfl
    clear hr
    refine wp_region_in (fun w' => Below w.heap.size w w') (by kernel_rfl) (by kernel_rfl) hb.drew ?_
    intro hne
    repeat (first | go_big_quiet_skip | (go_big_quiet_want; go_big_quiet_op; first | go_big_quiet_on | (first | (refine ⟨.bool false, fun x => call_in x (fun W hW => ?_), ?_⟩; (· with_reducible exact ret_from' hW (name_at (s ++ ltr p) false HN2.out _ (spaces_from HS.out hW))); go_big_quiet_on) | (refine ⟨.bool true, fun x => call_in x (fun W hW => ?_), ?_⟩; (· with_reducible exact ret_from' hW (lawres_is (s ++ ltr p) true HR.out _ (spaces_from HS.out hW))); go_big_quiet_on) | (refine ⟨.bool true, fun x => call_in x (fun W hW => ?_), ?_⟩; (· with_reducible exact ret_from' hW (name_at (s.extract 0 m) true HL.out _ (spaces_from HS.out hW))); go_big_quiet_on) | (refine ⟨.bool false, fun x => call_in x (fun W hW => ?_), ?_⟩; (· with_reducible exact ret_from' hW (lawres_is (s.extract 0 m) false HR2.out _ (spaces_from HS.out hW))); go_big_quiet_on))))
    refine wpQuiet_nil ?_
    rintro _ ⟨⟨w2, hb2⟩, rfl⟩
    go_wp2_with fail
    go_ret
    exact ⟨rfl, hb2⟩
set_option maxRecDepth 100000 in
set_option maxHeartbeats 1600000 in
theorem apart_name_101 (s : ByteArray) (t : Int) (w : World) (hsp : Spaces w) (hl : ¬ (60 : Int) < (s.size : Int)) (hn : nameV s = true) (hc : classV s = false) (hk : kindV s = 0) (hbb : baseB s = false) (hkey : hasV resW s = false) (ht : typeV s = false) (h1 : (1 : Int) ≤ s.size) (hle20 : (s.size : Int) ≤ 20) (hlt : (s.size : Int) < 20) (hone : ((s.size : Int) == 1) = false) (m : Nat) (hm : (s.size : Int) - 1 = m) (hr2 : hasV resW (s.extract 0 m) = true) : Calls Tryd.prog 5 #[.string s, .int .i64 t] w (RetB (.bool true) w) := by
  have hw : wordV s smallV = true := by unfold nameV at hn; rw [Bool.and_eq_true] at hn; exact hn.1
  have hm1 : 1 ≤ m := by
    have : ¬ (s.size : Int) = 1 := by simpa using hone
    omega
  have hwm : IntKind.i64.wrap (m : Int) = m := IntWalk.i64_in _ (by omega)
  have hm2 : (m : Int) ≤ (s.size : Int) := by omega
  have HR2 := Lib.hid hr2
  have HL : Hid (nameV (s.extract 0 m) = false) := by
    have e : wordV (s.extract 0 m) smallV = true := less_word s _ (by omega) hm1 smallV hw
    show (wordV (s.extract 0 m) smallV && !hasV resW (s.extract 0 m)) = _
    rw [e, hr2]; rfl
  clear hr2
  have hb := Below.refl w.heap.size w
  have HS := Lib.hid hsp
  have HN := Lib.hid hn
  have HC := Lib.hid hc
  have HK := Lib.hid hk
  have HBB := Lib.hid hbb
  have HKEY := Lib.hid hkey
  have HT := Lib.hid ht
  clear hsp hn hc hk hbb hkey ht
  go_enter Tryd.func5, Tryd.ntmps5
  go_wp2_with fail
  refine (ret_from hb (known_yes _ (spaces_from HS.out hb))).mono ?_
  clear hb
  rintro e w1 ⟨rfl, hb⟩
  go_wp2_with fail
  refine (ret_from hb (name_at s true HN.out _ (spaces_from HS.out hb))).mono ?_
  clear hb
  rintro e w1 ⟨rfl, hb⟩
  go_wp2_with fail
  refine (ret_from hb (class_is s false HC.out _)).mono ?_
  clear hb
  rintro e w1 ⟨rfl, hb⟩
  go_wp2_with fail
  refine (ret_from hb (kind_is s 0 HK.out _)).mono ?_
  clear hb
  rintro e w1 ⟨rfl, hb⟩
  go_wp2_with fail
  refine (ret_from hb (base_is s false HBB.out _)).mono ?_
  clear hb
  rintro e w1 ⟨rfl, hb⟩
  go_wp2_with fail
  refine (ret_from hb (key_is s false HKEY.out _ (spaces_from HS.out hb))).mono ?_
  clear hb
  rintro e w1 ⟨rfl, hb⟩
  go_wp2_with fail
  refine (ret_from hb (lawres_is s false HKEY.out _ (spaces_from HS.out hb))).mono ?_
  clear hb
  rintro e w1 ⟨rfl, hb⟩
  go_wp2_with fail
  refine (ret_from hb (key_is s false HKEY.out _ (spaces_from HS.out hb))).mono ?_
  clear hb
  rintro e w1 ⟨rfl, hb⟩
  go_wp2_with fail
  refine (ret_from hb (type_is s false HT.out _)).mono ?_
  clear hb
  rintro e w1 ⟨rfl, hb⟩
  go_wp2_with fail
  refine (pick_26 t _).mono ?_
  rintro e w' ⟨p, hp, rfl, rfl⟩
  have hcv := conv_ltr p w1
  have hle : ¬ 9223372036854775807 < s.size + (ltr p).size   := by rw [ltr_size]; omega
  have hz : (s ++ ltr p).size = s.size + 1 := by rw [ByteArray.size_append, ltr_size]
  have HW : Hid (wordV (s ++ ltr p) smallV = decide (s.size < 20)) := ltr_word s p hp smallV hw
  clear hw
  rw [decide_eq_true (show s.size < 20 by omega)] at HW
  clear hz
  have hle2 : decide ((s.size : Int) + ((ltr p).size : Int) ≤ 20) = true := decide_eq_true (by rw [ltr_size]; omega)
  go_wp2_with fail
  have hb := hb.alloc hb.size (.cells #[.int .u8 (97 + (p : Int))] 5)
  rcases hr : hasV resW (s ++ ltr p) with _ | _
  · have HR := Lib.hid hr
    have HN2 : Hid (nameV (s ++ ltr p) = true) := by
      show (wordV (s ++ ltr p) smallV && !hasV resW (s ++ ltr p)) = _
      rw [HW.out, hr]; rfl
    clear hr
    refine wp_region_in (fun w' => Below w.heap.size w w') (by kernel_rfl) (by kernel_rfl) hb.drew ?_
    intro hne
    repeat (first | go_big_quiet_skip | (go_big_quiet_want; go_big_quiet_op; first | go_big_quiet_on | (first | (refine ⟨.bool true, fun x => call_in x (fun W hW => ?_), ?_⟩; (· with_reducible exact ret_from' hW (name_at (s ++ ltr p) true HN2.out _ (spaces_from HS.out hW))); go_big_quiet_on) | (refine ⟨.bool false, fun x => call_in x (fun W hW => ?_), ?_⟩; (· with_reducible exact ret_from' hW (lawres_is (s ++ ltr p) false HR.out _ (spaces_from HS.out hW))); go_big_quiet_on) | (refine ⟨.bool false, fun x => call_in x (fun W hW => ?_), ?_⟩; (· with_reducible exact ret_from' hW (name_at (s.extract 0 m) false HL.out _ (spaces_from HS.out hW))); go_big_quiet_on) | (refine ⟨.bool true, fun x => call_in x (fun W hW => ?_), ?_⟩; (· with_reducible exact ret_from' hW (lawres_is (s.extract 0 m) true HR2.out _ (spaces_from HS.out hW))); go_big_quiet_on))))
    refine wpQuiet_nil ?_
    rintro _ ⟨⟨w2, hb2⟩, rfl⟩
    go_wp2_with fail
    go_ret
    exact ⟨rfl, hb2⟩
  · have HR := Lib.hid hr
    have HN2 : Hid (nameV (s ++ ltr p) = false) := by
      show (wordV (s ++ ltr p) smallV && !hasV resW (s ++ ltr p)) = _
      rw [HW.out, hr]; rfl
    clear hr
    refine wp_region_in (fun w' => Below w.heap.size w w') (by kernel_rfl) (by kernel_rfl) hb.drew ?_
    intro hne
    repeat (first | go_big_quiet_skip | (go_big_quiet_want; go_big_quiet_op; first | go_big_quiet_on | (first | (refine ⟨.bool false, fun x => call_in x (fun W hW => ?_), ?_⟩; (· with_reducible exact ret_from' hW (name_at (s ++ ltr p) false HN2.out _ (spaces_from HS.out hW))); go_big_quiet_on) | (refine ⟨.bool true, fun x => call_in x (fun W hW => ?_), ?_⟩; (· with_reducible exact ret_from' hW (lawres_is (s ++ ltr p) true HR.out _ (spaces_from HS.out hW))); go_big_quiet_on) | (refine ⟨.bool false, fun x => call_in x (fun W hW => ?_), ?_⟩; (· with_reducible exact ret_from' hW (name_at (s.extract 0 m) false HL.out _ (spaces_from HS.out hW))); go_big_quiet_on) | (refine ⟨.bool true, fun x => call_in x (fun W hW => ?_), ?_⟩; (· with_reducible exact ret_from' hW (lawres_is (s.extract 0 m) true HR2.out _ (spaces_from HS.out hW))); go_big_quiet_on))))
    refine wpQuiet_nil ?_
    rintro _ ⟨⟨w2, hb2⟩, rfl⟩
    go_wp2_with fail
    go_ret
    exact ⟨rfl, hb2⟩
set_option maxRecDepth 100000 in
set_option maxHeartbeats 1600000 in
theorem apart_name_000 (s : ByteArray) (t : Int) (w : World) (hsp : Spaces w) (hl : ¬ (60 : Int) < (s.size : Int)) (hn : nameV s = true) (hc : classV s = false) (hk : kindV s = 0) (hbb : baseB s = false) (hkey : hasV resW s = false) (ht : typeV s = false) (h1 : (1 : Int) ≤ s.size) (hle20 : (s.size : Int) ≤ 20) (hlt : ¬ (s.size : Int) < 20) (hone : ((s.size : Int) == 1) = false) (m : Nat) (hm : (s.size : Int) - 1 = m) (hr2 : hasV resW (s.extract 0 m) = false) : Calls Tryd.prog 5 #[.string s, .int .i64 t] w (RetB (.bool true) w) := by
  have hw : wordV s smallV = true := by unfold nameV at hn; rw [Bool.and_eq_true] at hn; exact hn.1
  have hm1 : 1 ≤ m := by
    have : ¬ (s.size : Int) = 1 := by simpa using hone
    omega
  have hwm : IntKind.i64.wrap (m : Int) = m := IntWalk.i64_in _ (by omega)
  have hm2 : (m : Int) ≤ (s.size : Int) := by omega
  have HR2 := Lib.hid hr2
  have HL : Hid (nameV (s.extract 0 m) = true) := by
    have e : wordV (s.extract 0 m) smallV = true := less_word s _ (by omega) hm1 smallV hw
    show (wordV (s.extract 0 m) smallV && !hasV resW (s.extract 0 m)) = _
    rw [e, hr2]; rfl
  clear hr2
  have hb := Below.refl w.heap.size w
  have HS := Lib.hid hsp
  have HN := Lib.hid hn
  have HC := Lib.hid hc
  have HK := Lib.hid hk
  have HBB := Lib.hid hbb
  have HKEY := Lib.hid hkey
  have HT := Lib.hid ht
  clear hsp hn hc hk hbb hkey ht
  go_enter Tryd.func5, Tryd.ntmps5
  go_wp2_with fail
  refine (ret_from hb (known_yes _ (spaces_from HS.out hb))).mono ?_
  clear hb
  rintro e w1 ⟨rfl, hb⟩
  go_wp2_with fail
  refine (ret_from hb (name_at s true HN.out _ (spaces_from HS.out hb))).mono ?_
  clear hb
  rintro e w1 ⟨rfl, hb⟩
  go_wp2_with fail
  refine (ret_from hb (class_is s false HC.out _)).mono ?_
  clear hb
  rintro e w1 ⟨rfl, hb⟩
  go_wp2_with fail
  refine (ret_from hb (kind_is s 0 HK.out _)).mono ?_
  clear hb
  rintro e w1 ⟨rfl, hb⟩
  go_wp2_with fail
  refine (ret_from hb (base_is s false HBB.out _)).mono ?_
  clear hb
  rintro e w1 ⟨rfl, hb⟩
  go_wp2_with fail
  refine (ret_from hb (key_is s false HKEY.out _ (spaces_from HS.out hb))).mono ?_
  clear hb
  rintro e w1 ⟨rfl, hb⟩
  go_wp2_with fail
  refine (ret_from hb (lawres_is s false HKEY.out _ (spaces_from HS.out hb))).mono ?_
  clear hb
  rintro e w1 ⟨rfl, hb⟩
  go_wp2_with fail
  refine (ret_from hb (key_is s false HKEY.out _ (spaces_from HS.out hb))).mono ?_
  clear hb
  rintro e w1 ⟨rfl, hb⟩
  go_wp2_with fail
  refine (ret_from hb (type_is s false HT.out _)).mono ?_
  clear hb
  rintro e w1 ⟨rfl, hb⟩
  go_wp2_with fail
  refine (pick_26 t _).mono ?_
  rintro e w' ⟨p, hp, rfl, rfl⟩
  have hcv := conv_ltr p w1
  have hle : ¬ 9223372036854775807 < s.size + (ltr p).size   := by rw [ltr_size]; omega
  have hz : (s ++ ltr p).size = s.size + 1 := by rw [ByteArray.size_append, ltr_size]
  have HW : Hid (wordV (s ++ ltr p) smallV = decide (s.size < 20)) := ltr_word s p hp smallV hw
  clear hw
  rw [decide_eq_false (show ¬ s.size < 20 by omega)] at HW
  clear hz
  have hle2 : decide ((s.size : Int) + ((ltr p).size : Int) ≤ 20) = false := decide_eq_false (by rw [ltr_size]; omega)
  go_wp2_with fail
  have hb := hb.alloc hb.size (.cells #[.int .u8 (97 + (p : Int))] 5)
  have HN2 : Hid (nameV (s ++ ltr p) = false) := by
    show (wordV (s ++ ltr p) smallV && _) = _
    rw [HW.out]; rfl
  refine wp_region_in (fun w' => Below w.heap.size w w') (by kernel_rfl) (by kernel_rfl) hb.drew ?_
  intro hne
  repeat (first | go_big_quiet_skip | (go_big_quiet_want; go_big_quiet_op; first | go_big_quiet_on | (first | (refine ⟨.bool false, fun x => call_in x (fun W hW => ?_), ?_⟩; (· with_reducible exact ret_from' hW (name_at (s ++ ltr p) false HN2.out _ (spaces_from HS.out hW))); go_big_quiet_on) | (refine ⟨.bool true, fun x => call_in x (fun W hW => ?_), ?_⟩; (· with_reducible exact ret_from' hW (name_at (s.extract 0 m) true HL.out _ (spaces_from HS.out hW))); go_big_quiet_on) | (refine ⟨.bool false, fun x => call_in x (fun W hW => ?_), ?_⟩; (· with_reducible exact ret_from' hW (lawres_is (s.extract 0 m) false HR2.out _ (spaces_from HS.out hW))); go_big_quiet_on))))
  refine wpQuiet_nil ?_
  rintro _ ⟨⟨w2, hb2⟩, rfl⟩
  go_wp2_with fail
  go_ret
  exact ⟨rfl, hb2⟩
set_option maxRecDepth 100000 in
set_option maxHeartbeats 1600000 in
theorem apart_name_001 (s : ByteArray) (t : Int) (w : World) (hsp : Spaces w) (hl : ¬ (60 : Int) < (s.size : Int)) (hn : nameV s = true) (hc : classV s = false) (hk : kindV s = 0) (hbb : baseB s = false) (hkey : hasV resW s = false) (ht : typeV s = false) (h1 : (1 : Int) ≤ s.size) (hle20 : (s.size : Int) ≤ 20) (hlt : ¬ (s.size : Int) < 20) (hone : ((s.size : Int) == 1) = false) (m : Nat) (hm : (s.size : Int) - 1 = m) (hr2 : hasV resW (s.extract 0 m) = true) : Calls Tryd.prog 5 #[.string s, .int .i64 t] w (RetB (.bool true) w) := by
  have hw : wordV s smallV = true := by unfold nameV at hn; rw [Bool.and_eq_true] at hn; exact hn.1
  have hm1 : 1 ≤ m := by
    have : ¬ (s.size : Int) = 1 := by simpa using hone
    omega
  have hwm : IntKind.i64.wrap (m : Int) = m := IntWalk.i64_in _ (by omega)
  have hm2 : (m : Int) ≤ (s.size : Int) := by omega
  have HR2 := Lib.hid hr2
  have HL : Hid (nameV (s.extract 0 m) = false) := by
    have e : wordV (s.extract 0 m) smallV = true := less_word s _ (by omega) hm1 smallV hw
    show (wordV (s.extract 0 m) smallV && !hasV resW (s.extract 0 m)) = _
    rw [e, hr2]; rfl
  clear hr2
  have hb := Below.refl w.heap.size w
  have HS := Lib.hid hsp
  have HN := Lib.hid hn
  have HC := Lib.hid hc
  have HK := Lib.hid hk
  have HBB := Lib.hid hbb
  have HKEY := Lib.hid hkey
  have HT := Lib.hid ht
  clear hsp hn hc hk hbb hkey ht
  go_enter Tryd.func5, Tryd.ntmps5
  go_wp2_with fail
  refine (ret_from hb (known_yes _ (spaces_from HS.out hb))).mono ?_
  clear hb
  rintro e w1 ⟨rfl, hb⟩
  go_wp2_with fail
  refine (ret_from hb (name_at s true HN.out _ (spaces_from HS.out hb))).mono ?_
  clear hb
  rintro e w1 ⟨rfl, hb⟩
  go_wp2_with fail
  refine (ret_from hb (class_is s false HC.out _)).mono ?_
  clear hb
  rintro e w1 ⟨rfl, hb⟩
  go_wp2_with fail
  refine (ret_from hb (kind_is s 0 HK.out _)).mono ?_
  clear hb
  rintro e w1 ⟨rfl, hb⟩
  go_wp2_with fail
  refine (ret_from hb (base_is s false HBB.out _)).mono ?_
  clear hb
  rintro e w1 ⟨rfl, hb⟩
  go_wp2_with fail
  refine (ret_from hb (key_is s false HKEY.out _ (spaces_from HS.out hb))).mono ?_
  clear hb
  rintro e w1 ⟨rfl, hb⟩
  go_wp2_with fail
  refine (ret_from hb (lawres_is s false HKEY.out _ (spaces_from HS.out hb))).mono ?_
  clear hb
  rintro e w1 ⟨rfl, hb⟩
  go_wp2_with fail
  refine (ret_from hb (key_is s false HKEY.out _ (spaces_from HS.out hb))).mono ?_
  clear hb
  rintro e w1 ⟨rfl, hb⟩
  go_wp2_with fail
  refine (ret_from hb (type_is s false HT.out _)).mono ?_
  clear hb
  rintro e w1 ⟨rfl, hb⟩
  go_wp2_with fail
  refine (pick_26 t _).mono ?_
  rintro e w' ⟨p, hp, rfl, rfl⟩
  have hcv := conv_ltr p w1
  have hle : ¬ 9223372036854775807 < s.size + (ltr p).size   := by rw [ltr_size]; omega
  have hz : (s ++ ltr p).size = s.size + 1 := by rw [ByteArray.size_append, ltr_size]
  have HW : Hid (wordV (s ++ ltr p) smallV = decide (s.size < 20)) := ltr_word s p hp smallV hw
  clear hw
  rw [decide_eq_false (show ¬ s.size < 20 by omega)] at HW
  clear hz
  have hle2 : decide ((s.size : Int) + ((ltr p).size : Int) ≤ 20) = false := decide_eq_false (by rw [ltr_size]; omega)
  go_wp2_with fail
  have hb := hb.alloc hb.size (.cells #[.int .u8 (97 + (p : Int))] 5)
  have HN2 : Hid (nameV (s ++ ltr p) = false) := by
    show (wordV (s ++ ltr p) smallV && _) = _
    rw [HW.out]; rfl
  refine wp_region_in (fun w' => Below w.heap.size w w') (by kernel_rfl) (by kernel_rfl) hb.drew ?_
  intro hne
  repeat (first | go_big_quiet_skip | (go_big_quiet_want; go_big_quiet_op; first | go_big_quiet_on | (first | (refine ⟨.bool false, fun x => call_in x (fun W hW => ?_), ?_⟩; (· with_reducible exact ret_from' hW (name_at (s ++ ltr p) false HN2.out _ (spaces_from HS.out hW))); go_big_quiet_on) | (refine ⟨.bool false, fun x => call_in x (fun W hW => ?_), ?_⟩; (· with_reducible exact ret_from' hW (name_at (s.extract 0 m) false HL.out _ (spaces_from HS.out hW))); go_big_quiet_on) | (refine ⟨.bool true, fun x => call_in x (fun W hW => ?_), ?_⟩; (· with_reducible exact ret_from' hW (lawres_is (s.extract 0 m) true HR2.out _ (spaces_from HS.out hW))); go_big_quiet_on))))
  refine wpQuiet_nil ?_
  rintro _ ⟨⟨w2, hb2⟩, rfl⟩
  go_wp2_with fail
  go_ret
  exact ⟨rfl, hb2⟩

theorem word_len {s : ByteArray} {f : Nat → Bool} (h : wordV s f = true) : 1 ≤ s.size ∧ s.size ≤ 20 := by
  unfold wordV at h
  simp only [Bool.and_eq_true, decide_eq_true_eq] at h
  omega
theorem base_key (s : ByteArray) (hh : baseB s = true) : hasV resW s = true := by
  rw [← base_has] at hh
  have hm := (has_iff baseW s).1 hh
  have : (baseW.all fun x => resW.any fun y => y.data == x.data) = true := by decide +kernel
  have := List.all_eq_true.1 this s hm
  rw [has_data]; exact this
theorem apart_walk (s : ByteArray) (t : Int) (w : World) (hsp : Spaces w) : Calls Tryd.prog 5 #[.string s, .int .i64 t] w (RetB (.bool true) w) := by
  by_cases hl : (60 : Int) < (s.size : Int)
  · exact apart_long s t w hsp hl
  rcases hn : nameV s with _ | _
  · rcases hc : classV s with _ | _
    · rcases hbb : baseB s with _ | _
      · by_cases hq : s = ⟨#[63]⟩
        · have hk : kindV s = 2 := by unfold kindV; rw [hbb, if_neg (by decide), if_pos hq]
          have hkey : hasV resW s = false := by rw [hq]; decide +kernel
          exact apart_20 s t w hsp hl hn hc hk hbb hkey (by unfold typeV; rw [hk]; rfl)
        · have hk : kindV s = 0 := by unfold kindV; rw [hbb, hc, if_neg (by decide), if_neg hq, if_neg (by decide)]
          rcases hkey : hasV resW s with _ | _
          · exact apart_00 s t w hsp hl hn hc hk hbb hkey (by unfold typeV; rw [hk]; rfl)
          · exact apart_01 s t w hsp hl hn hc hk hbb hkey (by unfold typeV; rw [hk]; rfl)
      · have hk : kindV s = 1 := by unfold kindV; rw [hbb, if_pos rfl]
        exact apart_11 s t w hsp hl hn hc hk hbb (base_key s hbb) (by unfold typeV; rw [hk]; rfl)
    · obtain ⟨g1, g2, g3, g4⟩ := class_kind s hc
      have hk : kindV s = 3 := by unfold kindV; rw [g1, hc, if_neg (by decide), if_neg g2, if_pos rfl]
      obtain ⟨l1, l2⟩ := word_len hc
      have ht : typeV s = true := by unfold typeV; rw [hk]; rfl
      by_cases hlt : (s.size : Int) < 20
      · exact apart_class_lt s t w hsp hl hn hc hk g1 g3 ht (by omega) hlt
      · exact apart_class_20 s t w hsp hl hn hc hk g1 g3 ht (by omega) (by omega) hlt (by rw [beq_iff_eq]; omega)
  · have hk := name_kind s hn
    have hn' := hn
    unfold nameV at hn'
    rw [Bool.and_eq_true, Bool.not_eq_true'] at hn'
    obtain ⟨hw, hkey⟩ := hn'
    have hc : classV s = false := by
      cases hh : classV s
      · rfl
      · have := (class_kind s hh).2.2.2; rw [hw] at this; cases this
    have hbb : baseB s = false := by
      cases hh : baseB s
      · rfl
      · rw [base_key s hh] at hkey; cases hkey
    have ht : typeV s = false := by unfold typeV; rw [hk]; rfl
    obtain ⟨l1, l2⟩ := word_len hw
    by_cases hone : ((s.size : Int) == 1) = true
    · by_cases hlt : (s.size : Int) < 20
      · exact apart_name_11 s t w hsp hl hn hc hk hbb hkey ht (by omega) (by omega) hlt hone
      · have := beq_iff_eq.1 hone; omega
    · have hone' : ((s.size : Int) == 1) = false := by simpa using hone
      obtain ⟨m, hm⟩ : ∃ m : Nat, (s.size : Int) - 1 = m := ⟨s.size - 1, by omega⟩
      by_cases hlt : (s.size : Int) < 20
      · rcases hr2 : hasV resW (s.extract 0 m) with _ | _
        · exact apart_name_100 s t w hsp hl hn hc hk hbb hkey ht (by omega) (by omega) hlt hone' m hm hr2
        · exact apart_name_101 s t w hsp hl hn hc hk hbb hkey ht (by omega) (by omega) hlt hone' m hm hr2
      · rcases hr2 : hasV resW (s.extract 0 m) with _ | _
        · exact apart_name_000 s t w hsp hl hn hc hk hbb hkey ht (by omega) (by omega) hlt hone' m hm hr2
        · exact apart_name_001 s t w hsp hl hn hc hk hbb hkey ht (by omega) (by omega) hlt hone' m hm hr2
end Go.Proofs.YtohnhnomlkcfjaaDoor
