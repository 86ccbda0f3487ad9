/- WordsTells, walked. -/
import Derived.Test.YtohnhnomlkcfjaaDoorSame
namespace Go.Proofs.YtohnhnomlkcfjaaDoor
open Go.RowKit
attribute [local irreducible] ByteArray.extract ByteArray.toList
theorem retT_from' {f : FuncId} {args : Array Value} {v : Int × Int} {w0 w1 : World} (hb : Below w0.heap.size w0 w1) (c : Calls Tryd.prog f args w1 (RetT v w1)) : Calls Tryd.prog f args w1 (RetT v w0) :=
  c.mono fun _ _ h => ⟨h.1, hb.trans (h.2.mono hb.size)⟩
theorem retO_from' {f : FuncId} {args : Array Value} {v : ByteArray × Int} {w0 w1 : World} (hb : Below w0.heap.size w0 w1) (c : Calls Tryd.prog f args w1 (RetO v w1)) : Calls Tryd.prog f args w1 (RetO v w0) :=
  c.mono fun _ _ h => ⟨h.1, hb.trans (h.2.mono hb.size)⟩
theorem texts_below {n g : Nat} {xs : List ByteArray} {A B : World} (h : Texts A g xs) (hb : Below n A B) (hg : g < n) : Texts B g xs := fun j hj => (World.cell?_of_block (w := A) (hb.block g hg)).trans (h j hj)

set_option maxHeartbeats 800000 in
theorem tells_long (s : ByteArray) (t : Int) (w : World) (hsp : Spaces w) (hl : (60 : Int) < (s.size : Int)) : Calls Tryd.prog 3 #[.string s, .int .i64 t] w (RetB (.bool true) w) := by
  have hb := Below.refl w.heap.size w
  have HS := Lib.hid hsp
  clear hsp
  go_enter Tryd.func3, Tryd.ntmps3
  go_wp2_with fail
  refine (ret_from hb (awake_yes _ (spaces_from HS.out hb))).mono ?_
  clear hb
  rintro e w1 ⟨rfl, hb⟩
  go_wp2_with fail
  go_ret
  exact ⟨rfl, hb⟩
set_option maxRecDepth 100000 in
set_option maxHeartbeats 3200000 in
theorem tells_short (s : ByteArray) (t : Int) (w : World) (hsp : Spaces w) (hl : ¬ (60 : Int) < (s.size : Int)) : Calls Tryd.prog 3 #[.string s, .int .i64 t] w (RetB (.bool true) w) := by
  have hb := Below.refl w.heap.size w
  have HS := Lib.hid hsp
  clear hsp
  have C9 := Lib.hid (tag_any s)
  have C10 := Lib.hid (reftag_any s)
  have C11 := Lib.hid (oftag_any t)
  have C12 := Lib.hid (refoftag_any t)
  have C17 := Lib.hid (name_any s)
  have C18 := Lib.hid (refname_any s)
  have C19 := Lib.hid (class_any s)
  have C20 := Lib.hid (refclass_any s)
  have C21 := Lib.hid (type_any s)
  have C22 := Lib.hid (reftype_any s)
  have C23 := Lib.hid (kind_any s)
  have C24 := Lib.hid (refkind_any s)
  have C25 := Lib.hid (base_any s)
  have C26 := Lib.hid (refbase_any s)
  have C27 := Lib.hid (key_any s)
  have C28 := Lib.hid (refkey_any s)
  rw [base_has] at C26
  generalize tagV s = A at *
  generalize ofTagV t = O at *
  generalize nameV s = b1 at *
  generalize classV s = b2 at *
  generalize typeV s = b3 at *
  generalize kindV s = k at *
  generalize baseB s = b4 at *
  generalize hasV resW s = b5 at *
  obtain ⟨A1, A2⟩ := A
  obtain ⟨O1, O2⟩ := O
  have q0 := beq_self_eq_true A1
  have q1 := beq_self_eq_true A2
  have q2 := beq_self_eq_true O1.toList
  have q3 := beq_self_eq_true O2
  have q4 := beq_self_eq_true b1
  have q5 := beq_self_eq_true b2
  have q6 := beq_self_eq_true b3
  have q7 := beq_self_eq_true k
  have q8 := beq_self_eq_true b4
  have q9 := beq_self_eq_true b5
  go_enter Tryd.func3, Tryd.ntmps3
  go_wp2_with fail
  refine (retT_from' hb (C9.out _)).mono ?_
  clear hb
  rintro e w1 ⟨rfl, hb⟩
  go_wp2_with fail
  refine (retT_from' hb (C10.out _)).mono ?_
  clear hb
  rintro e w1 ⟨rfl, hb⟩
  go_wp2_with fail
  refine (retO_from' hb (C11.out _)).mono ?_
  clear hb
  rintro e w1 ⟨rfl, hb⟩
  go_wp2_with fail
  refine (retO_from' hb (C12.out _)).mono ?_
  clear hb
  rintro e w1 ⟨rfl, hb⟩
  go_wp2_with fail
  refine (reserved_s _ (spaces_from HS.out hb)).mono ?_
  rintro e w2 ⟨g0, cap0, rfl, hg0, hx0, hf0, hb2⟩
  have HX0 := Lib.hid hx0
  have HF0 := Lib.hid hf0
  have hz0 := lt_of_cell (hx0 0 (by decide))
  have hge0 := Nat.le_trans hb.size hg0
  have hb3 := hb.trans (hb2.mono hb.size)
  clear hx0 hf0 hb hb2 hg0
  have hb := hb3
  clear hb3
  go_wp2_with fail
  refine (refreserved_s _).mono ?_
  rintro e w3 ⟨h0, dap0, rfl, kg0, kx0, _, kb2⟩
  have S0 := Lib.hid (same_yes g0 cap0 h0 dap0 resW w3 (texts_below HX0.out kb2 hz0) kx0 (by decide))
  have FZ0 : Hid (∀ j, j < resW.length → w3.frozen? ⟨g0, j, none⟩ = false) := fun j hj => (World.frozen?_of_block (w := w2) (kb2.block g0 hz0)).trans (HF0.out j hj)
  have TX0 := Lib.hid (texts_below HX0.out kb2 hz0)
  have hz30 := Nat.lt_of_lt_of_le hz0 kb2.size
  have hb3 := hb.trans (kb2.mono hb.size)
  clear kx0 kb2 kg0 hb
  have hb := hb3
  clear hb3
  go_wp2_with fail
  refine S0.out.mono ?_
  rintro e w4 ⟨rfl, sb⟩
  have OV := Lib.hid (over_any w.heap.size g0 cap0 resW w4 (texts_below TX0.out sb hz30) (fun j hj => (World.frozen?_of_block (w := w3) (sb.block g0 hz30)).trans (FZ0.out j hj)) hge0 (by decide))
  have hb3 := hb.trans (sb.mono hb.size)
  clear sb hb
  have hb := hb3
  clear hb3
  go_wp2_with fail
  refine OV.out.mono ?_
  rintro e w5 ⟨⟨v, rfl⟩, ob⟩
  have hb3 := hb.trans ob
  clear ob hb
  have hb := hb3
  clear hb3
  go_wp2_with fail
  refine (reserved_s _ (spaces_from HS.out hb)).mono ?_
  rintro e w2 ⟨g1, cap1, rfl, hg1, hx1, hf1, hb2⟩
  have HX1 := Lib.hid hx1
  have HF1 := Lib.hid hf1
  have hz1 := lt_of_cell (hx1 0 (by decide))
  have hge1 := Nat.le_trans hb.size hg1
  have hb3 := hb.trans (hb2.mono hb.size)
  clear hx1 hf1 hb hb2 hg1
  have hb := hb3
  clear hb3
  go_wp2_with fail
  refine (refreserved_s _).mono ?_
  rintro e w3 ⟨h1, dap1, rfl, kg1, kx1, _, kb2⟩
  have S1 := Lib.hid (same_yes g1 cap1 h1 dap1 resW w3 (texts_below HX1.out kb2 hz1) kx1 (by decide))
  have FZ1 : Hid (∀ j, j < resW.length → w3.frozen? ⟨g1, j, none⟩ = false) := fun j hj => (World.frozen?_of_block (w := w2) (kb2.block g1 hz1)).trans (HF1.out j hj)
  have TX1 := Lib.hid (texts_below HX1.out kb2 hz1)
  have hz31 := Nat.lt_of_lt_of_le hz1 kb2.size
  have hb3 := hb.trans (kb2.mono hb.size)
  clear kx1 kb2 kg1 hb
  have hb := hb3
  clear hb3
  go_wp2_with fail
  refine S1.out.mono ?_
  rintro e w4 ⟨rfl, sb⟩
  have hb3 := hb.trans (sb.mono hb.size)
  clear sb hb
  have hb := hb3
  clear hb3
  go_wp2_with fail
  refine (ret_from hb (C17.out _ (spaces_from HS.out hb))).mono ?_
  clear hb
  rintro e w1 ⟨rfl, hb⟩
  go_wp2_with fail
  refine (ret_from hb (C18.out _)).mono ?_
  clear hb
  rintro e w1 ⟨rfl, hb⟩
  go_wp2_with fail
  refine (ret_from hb (C19.out _)).mono ?_
  clear hb
  rintro e w1 ⟨rfl, hb⟩
  go_wp2_with fail
  refine (C20.out _).mono ?_
  rintro e w' ⟨rfl, rfl⟩
  go_wp2_with fail
  refine (ret_from hb (C21.out _)).mono ?_
  clear hb
  rintro e w1 ⟨rfl, hb⟩
  go_wp2_with fail
  refine (ret_from hb (C22.out _)).mono ?_
  clear hb
  rintro e w1 ⟨rfl, hb⟩
  go_wp2_with fail
  refine (ret_from hb (C23.out _)).mono ?_
  clear hb
  rintro e w1 ⟨rfl, hb⟩
  go_wp2_with fail
  refine (ret_from hb (C24.out _)).mono ?_
  clear hb
  rintro e w1 ⟨rfl, hb⟩
  go_wp2_with fail
  refine (ret_from hb (C25.out _)).mono ?_
  clear hb
  rintro e w1 ⟨rfl, hb⟩
  go_wp2_with fail
  refine (ret_from hb (C26.out _)).mono ?_
  clear hb
  rintro e w1 ⟨rfl, hb⟩
  go_wp2_with fail
  refine (ret_from hb (C27.out _ (spaces_from HS.out hb))).mono ?_
  clear hb
  rintro e w1 ⟨rfl, hb⟩
  go_wp2_with fail
  refine (ret_from hb (C28.out _)).mono ?_
  clear hb
  rintro e w1 ⟨rfl, hb⟩
  go_wp2_with fail
  refine (ret_from hb (awake_yes _ (spaces_from HS.out hb))).mono ?_
  clear hb
  rintro e w1 ⟨rfl, hb⟩
  go_wp2_with fail
  go_ret
  exact ⟨rfl, hb⟩
theorem tells_walk (s : ByteArray) (t : Int) (w : World) (hsp : Spaces w) : Calls Tryd.prog 3 #[.string s, .int .i64 t] w (RetB (.bool true) w) := by
  by_cases hl : (60 : Int) < (s.size : Int)
  · exact tells_long s t w hsp hl
  · exact tells_short s t w hsp hl
end Go.Proofs.YtohnhnomlkcfjaaDoor
