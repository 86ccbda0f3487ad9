/- IntsKnown, walked. -/
import Derived.Test.YtcdnmkcnagkkhaaHelp
namespace Go.Proofs.Ytcdnmkcnagkkhaa
open Go.RowKit
attribute [local irreducible] ByteArray.extract ByteArray.toList

theorem yes_from {f : FuncId} {args : Array Value} {w0 w1 : World} (hb : Below w0.heap.size w0 w1) (c : Calls Try.prog f args w1 (Yes w1)) : Calls Try.prog f args w1 (Yes w0) :=
  c.mono fun _ _ h => ⟨h.1, hb.trans (h.2.mono hb.size)⟩
theorem int_from {f : FuncId} {args : Array Value} {x : Int} {w0 w1 : World} (hb : Below w0.heap.size w0 w1) (c : Calls Try.prog f args w1 (RetI x w1)) : Calls Try.prog f args w1 (RetI x w0) :=
  c.mono fun _ _ h => ⟨h.1, hb.trans (h.2.mono hb.size)⟩
theorem two_from {f : FuncId} {args : Array Value} {p : Int × Int} {w0 w1 : World} (hb : Below w0.heap.size w0 w1) (c : Calls Try.prog f args w1 (Res2 p w1)) : Calls Try.prog f args w1 (Res2 p w0) :=
  c.mono fun _ _ h => ⟨h.1, hb.trans (h.2.mono hb.size)⟩
theorem text_from {f : FuncId} {args : Array Value} {n : Int} {w0 w1 : World} (hb : Below w0.heap.size w0 w1) (c : Calls Try.prog f args w1 (RetT n w1)) : Calls Try.prog f args w1 (RetT n w0) :=
  c.mono fun _ _ h => ⟨h.1, hb.trans (h.2.mono hb.size)⟩

set_option maxHeartbeats 800000 in
theorem known_yes (w : World) : Calls Try.prog 5 #[] w (Yes w) := by
  have hb := Below.refl w.heap.size w
  go_enter Try.func5, Try.ntmps5
  go_wp2_with fail
  refine (yes_from hb (does_yes _ _ _ _ _ _ (by decide +kernel))).mono ?_
  clear hb
  rintro e w1 ⟨rfl, hb⟩
  go_wp2_with fail
  refine (yes_from hb (does_yes _ _ _ _ _ _ (by decide +kernel))).mono ?_
  clear hb
  rintro e w1 ⟨rfl, hb⟩
  go_wp2_with fail
  refine (yes_from hb (does_yes _ _ _ _ _ _ (by decide +kernel))).mono ?_
  clear hb
  rintro e w1 ⟨rfl, hb⟩
  go_wp2_with fail
  refine (yes_from hb (does_yes _ _ _ _ _ _ (by decide +kernel))).mono ?_
  clear hb
  rintro e w1 ⟨rfl, hb⟩
  go_wp2_with fail
  refine (yes_from hb (does_yes _ _ _ _ _ _ (by decide +kernel))).mono ?_
  clear hb
  rintro e w1 ⟨rfl, hb⟩
  go_wp2_with fail
  refine (yes_from hb (does_yes _ _ _ _ _ _ (by decide +kernel))).mono ?_
  clear hb
  rintro e w1 ⟨rfl, hb⟩
  go_wp2_with fail
  refine (yes_from hb (does_yes _ _ _ _ _ _ (by decide +kernel))).mono ?_
  clear hb
  rintro e w1 ⟨rfl, hb⟩
  go_wp2_with fail
  refine (yes_from hb (reads_yes _ _ _ _ (by decide) (by decide +kernel))).mono ?_
  clear hb
  rintro e w1 ⟨rfl, hb⟩
  go_wp2_with fail
  refine (yes_from hb (reads_yes _ _ _ _ (by decide) (by decide +kernel))).mono ?_
  clear hb
  rintro e w1 ⟨rfl, hb⟩
  go_wp2_with fail
  refine (yes_from hb (reads_yes _ _ _ _ (by decide) (by decide +kernel))).mono ?_
  clear hb
  rintro e w1 ⟨rfl, hb⟩
  go_wp2_with fail
  refine (yes_from hb (reads_yes _ _ _ _ (by decide) (by decide +kernel))).mono ?_
  clear hb
  rintro e w1 ⟨rfl, hb⟩
  go_wp2_with fail
  refine (yes_from hb (reads_yes _ _ _ _ (by decide) (by decide +kernel))).mono ?_
  clear hb
  rintro e w1 ⟨rfl, hb⟩
  go_wp2_with fail
  refine (yes_from hb (awake_yes _)).mono ?_
  clear hb
  rintro e w1 ⟨rfl, hb⟩
  go_wp2_with fail
  refine (neg_any _ _).mono ?_
  rintro e w1 ⟨rfl, rfl⟩
  have hn : wrap64 (- -9223372036854775808) = -9223372036854775808 := by decide +kernel
  rw [hn]
  go_wp2_with fail
  go_ret
  exact ⟨rfl, hb⟩
end Go.Proofs.Ytcdnmkcnagkkhaa
