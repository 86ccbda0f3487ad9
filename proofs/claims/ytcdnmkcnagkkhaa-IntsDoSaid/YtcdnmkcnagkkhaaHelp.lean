/- The statements' own helpers, where they say yes. -/
import Derived.Test.YtcdnmkcnagkkhaaRefText
import Derived.Test.YtcdnmkcnagkkhaaRefDo2
import Derived.Test.YtcdnmkcnagkkhaaRefRead
namespace Go.Proofs.Ytcdnmkcnagkkhaa
open Go.RowKit
attribute [local irreducible] ByteArray.extract ByteArray.toList

def Yes (w : World) (e : Ending) (w' : World) : Prop := e = .returned (.bool true) ∧ Below w.heap.size w w'

theorem does_yes (s : ByteArray) (a b x err : Int) (w : World) (h : doV s a b = (x, err)) : Calls Try.prog 18 #[.string s, .int .i64 a, .int .i64 b, .int .i64 x, .int .i64 err] w (Yes w) := by
  have H := Lib.hid h
  clear h
  have h1 : (x == x) = true := by simp
  have h2 : (err == err) = true := by simp
  go_enter Try.func18, Try.ntmps18
  go_wp2_with fail
  refine (do_any s a b _).mono ?_
  rintro e w1 ⟨rfl, hb⟩
  rw [H.out]
  go_wp2_with fail
  go_ret
  exact ⟨rfl, hb⟩
theorem reads_yes (s : ByteArray) (x err : Int) (w : World) (hs : s.size ≤ 140737488351232) (h : readV s.data.toList = (x, err)) : Calls Try.prog 19 #[.string s, .int .i64 x, .int .i64 err] w (Yes w) := by
  have H := Lib.hid h
  clear h
  have h1 : (x == x) = true := by simp
  have h2 : (err == err) = true := by simp
  go_enter Try.func19, Try.ntmps19
  go_wp2_with fail
  refine (read_any s _ hs).mono ?_
  rintro e w1 ⟨rfl, rfl⟩
  rw [H.out]
  go_wp2_with fail
  go_ret
  exact ⟨rfl, Below.refl _ _⟩

def addV (a b : Int) : Int := wrap64 (a + b)
def subV (a b : Int) : Int := wrap64 (a - b)
def mulV (a b : Int) : Int := wrap64 (a * b)
def RetI (x : Int) (w : World) (e : Ending) (w' : World) : Prop := e = .returned (.int .i64 x) ∧ Below w.heap.size w w'
theorem op_ok (s : ByteArray) (a b x : Int) (w : World) (h : doV s a b = (x, 0)) : Calls Try.prog 20 #[.string s, .int .i64 a, .int .i64 b] w (RetI x w) := by
  have H := Lib.hid h
  clear h
  go_enter Try.func20, Try.ntmps20
  go_wp2_with fail
  refine (do_any s a b _).mono ?_
  rintro e w1 ⟨rfl, hb⟩
  rw [H.out]
  go_wp2_with fail
  go_ret
  exact ⟨rfl, hb⟩
theorem op_add (a b : Int) (w : World) : Calls Try.prog 20 #[.string ⟨#[43]⟩, .int .i64 a, .int .i64 b] w (RetI (addV a b) w) := op_ok _ a b _ w (by unfold doV; rw [if_pos rfl]; rfl)
theorem op_sub (a b : Int) (w : World) : Calls Try.prog 20 #[.string ⟨#[45]⟩, .int .i64 a, .int .i64 b] w (RetI (subV a b) w) := op_ok _ a b _ w (by unfold doV; rw [if_neg (by decide), if_pos rfl]; rfl)
theorem op_mul (a b : Int) (w : World) : Calls Try.prog 20 #[.string ⟨#[42]⟩, .int .i64 a, .int .i64 b] w (RetI (mulV a b) w) := op_ok _ a b _ w (by unfold doV; rw [if_neg (by decide), if_neg (by decide), if_pos rfl]; rfl)

set_option maxHeartbeats 800000 in
theorem awake_yes (w : World) : Calls Try.prog 9 #[] w (Yes w) := by
  have hT := text_any (-12)
  have HT := Lib.hid hT
  clear hT
  go_enter Try.func9, Try.ntmps9
  go_wp2_with fail
  refine (does_yes _ _ _ _ _ _ (by decide +kernel)).mono ?_
  rintro e w1 ⟨rfl, hb1⟩
  go_wp2_with fail
  refine (does_yes _ _ _ _ _ _ (by decide +kernel)).mono ?_
  rintro e w2 ⟨rfl, hb2⟩
  go_wp2_with fail
  refine (does_yes _ _ _ _ _ _ (by decide +kernel)).mono ?_
  rintro e w3 ⟨rfl, hb3⟩
  go_wp2_with fail
  refine (does_yes _ _ _ _ _ _ (by decide +kernel)).mono ?_
  rintro e w4 ⟨rfl, hb4⟩
  go_wp2_with fail
  refine (HT.out _ (by decide) (by decide)).mono ?_
  rintro e w5 ⟨rfl, hb5⟩
  have ht : sOf (textL (-12)) = ⟨#[45, 49, 50]⟩ := by decide +kernel
  rw [ht]
  go_wp2_with fail
  refine (reads_yes _ _ _ _ (by decide) (by decide +kernel)).mono ?_
  rintro e w6 ⟨rfl, hb6⟩
  go_wp2_with fail
  go_ret
  exact ⟨rfl, hb1.trans ((hb2.trans ((hb3.trans ((hb4.trans ((hb5.trans (hb6.mono hb5.size)).mono hb4.size)).mono hb3.size)).mono hb2.size)).mono hb1.size)⟩
end Go.Proofs.Ytcdnmkcnagkkhaa
