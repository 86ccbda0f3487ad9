/- many, below: has a module more than it may. -/
import Derived.Test.YtcapdmicekialaaCoIdx
namespace Go.Proofs.Ytcapdmicekialaa
open Go.RowKit
set_option linter.unusedVariables false
set_option linter.unusedSimpArgs false
def manySg (s : Sg) : Bool := decide (8 < s.params.length)
def manyCl (c : Cl) : Bool := decide (20 < c.fields.length) || decide (20 < c.methods.length) || c.methods.any manySg
def manyFu (f : Fu) : Bool := decide (200 < f.locals.length) || decide (20000 < f.code.length)
def manyM (m : Md) : Bool := decide (40 < m.table.length) || decide (5000 < m.sites.length) || decide (2000 < m.pool.length) || decide (1000 < m.funcs.length) || (m.table.any manyCl || m.funcs.any manyFu)
def belowIn (x : In) : Bool := decide (x.op < 0)
def belowSt (s : St) : Bool := decide (s.what < 0)
def belowFu (f : Fu) : Bool := f.code.any belowIn
def belowM (m : Md) : Bool := m.sites.any belowSt || m.funcs.any belowFu
def RetB (b : Bool) (W : World) (e : Ending) (w' : World) : Prop := e = .returned (.bool b) ∧ Below W.heap.size W w'
set_option maxRecDepth 100000 in
theorem many11_any (W : World) (cs : List Value) (x : Sg) (h : sgK.tells W cs x) : Calls Try.prog 82 #[.agg cs.toArray] W (RetB (manySg x) W) := by
  obtain ⟨ps, rfl, h1, h2, h3⟩ := h
  obtain ⟨A, c, rfl, hl⟩ := Kind.sl_form h3
  have HE : Hid (manySg x = decide ((8 : Int) < (x.params.length : Int))) := Lib.hid (by unfold manySg; exact decide_eq_decide.2 (by omega))
  rw [HE.out]
  clear h1 h2 h3
  show Calls Try.prog 82 #[.agg #[.string x.name, .slice A x.params.length c, .string x.result]] W _
  go_enter Try.func82, Try.ntmps82
  go_wp2
  go_ret
  exact ⟨rfl, (Below.refl _ W).alloc (Nat.le_refl _) _⟩
set_option maxRecDepth 100000 in
theorem many1_any (W : World) (cs : List Value) (x : Cl) (h : clK.tells W cs x) : Calls Try.prog 80 #[.agg cs.toArray] W (RetB (manyCl x) W) := by
  obtain ⟨fs, ms, rfl, h1, h2, h3, h4⟩ := h
  obtain ⟨A, c, rfl, hl⟩ := Kind.sl_form h3
  obtain ⟨B, d, rfl, hl2⟩ := Kind.sl_form h4
  have hb := (Below.refl W.heap.size W).alloc (Nat.le_refl _) (.cells #[.string x.name, .string x.super, .slice A x.fields.length c, .slice B x.methods.length d] 95)
  have HB := Lib.hid hb
  show Calls Try.prog 80 #[.agg #[.string x.name, .string x.super, .slice A x.fields.length c, .slice B x.methods.length d]] W _
  by_cases g1 : (20 : Int) < (x.fields.length : Int)
  · have HE : Hid (manyCl x = true) := Lib.hid (by unfold manyCl; rw [decide_eq_true (show 20 < x.fields.length by omega)]; rfl)
    rw [HE.out]
    clear h1 h2 h3 h4 hb HB
    go_enter Try.func80, Try.ntmps80
    go_wp2
    go_ret
    exact ⟨rfl, (Below.refl _ W).alloc (Nat.le_refl _) _⟩
  · by_cases g2 : (20 : Int) < (x.methods.length : Int)
    · have HE : Hid (manyCl x = true) := Lib.hid (by unfold manyCl; rw [decide_eq_true (show 20 < x.methods.length by omega), Bool.or_true]; rfl)
      rw [HE.out]
      clear h1 h2 h3 h4 hb HB
      go_enter Try.func80, Try.ntmps80
      go_wp2
      go_ret
      exact ⟨rfl, (Below.refl _ W).alloc (Nat.le_refl _) _⟩
    · have HE : Hid (manyCl x = x.methods.any manySg) := Lib.hid (by unfold manyCl; rw [decide_eq_false (show ¬ 20 < x.fields.length by omega), decide_eq_false (show ¬ 20 < x.methods.length by omega)]; rfl)
      rw [HE.out]
      have HC := Lib.hid (hasSg_any 82 manySg (fun _ _ => rfl) (Kind.sl_below h4 hb) (fun W' cs y _ hy => many11_any W' cs y hy))
      clear h1 h2 h3 h4 hb
      go_enter Try.func80, Try.ntmps80
      go_wp2_with fail
      refine HC.out.mono ?_
      rintro e w1 ⟨rfl, hb1⟩
      have HF := Lib.hid (HB.out.trans (hb1.mono HB.out.size))
      clear hb1 HC HB
      go_wp2_with fail
      go_ret
      exact ⟨rfl, HF.out⟩
set_option maxRecDepth 100000 in
theorem many2_any (W : World) (cs : List Value) (x : Fu) (h : fuK.tells W cs x) : Calls Try.prog 83 #[.agg cs.toArray] W (RetB (manyFu x) W) := by
  obtain ⟨fs, ms, rfl, h1, h2, h3, h4⟩ := h
  obtain ⟨A, c, rfl, hl⟩ := Kind.sl_form h3
  obtain ⟨B, d, rfl, hl2⟩ := Kind.sl_form h4
  show Calls Try.prog 83 #[.agg #[.string x.cls, .string x.name, .slice A x.locals.length c, .slice B x.code.length d]] W _
  by_cases g1 : (200 : Int) < (x.locals.length : Int)
  · have HE : Hid (manyFu x = true) := Lib.hid (by unfold manyFu; rw [decide_eq_true (show 200 < x.locals.length by omega)]; rfl)
    rw [HE.out]
    clear h1 h2 h3 h4
    go_enter Try.func83, Try.ntmps83
    go_wp2
    go_ret
    exact ⟨rfl, (Below.refl _ W).alloc (Nat.le_refl _) _⟩
  · have HE : Hid (manyFu x = decide ((20000 : Int) < (x.code.length : Int))) := Lib.hid (by unfold manyFu; rw [decide_eq_false (show ¬ 200 < x.locals.length by omega), Bool.false_or]; exact decide_eq_decide.2 (by omega))
    rw [HE.out]
    clear h1 h2 h3 h4
    go_enter Try.func83, Try.ntmps83
    go_wp2
    go_ret
    exact ⟨rfl, (Below.refl _ W).alloc (Nat.le_refl _) _⟩
set_option maxRecDepth 100000 in
theorem below21_any (W : World) (cs : List Value) (x : In) (h : inK.tells W cs x) : Calls Try.prog 90 #[.agg cs.toArray] W (RetB (belowIn x) W) := by
  obtain ⟨rfl, h1⟩ := h
  unfold belowIn
  show Calls Try.prog 90 #[.agg #[.int .i64 x.op, .int .i64 x.a, .int .i64 x.b, .int .i64 x.c]] W _
  go_enter Try.func90, Try.ntmps90
  go_wp2
  go_ret
  exact ⟨rfl, (Below.refl _ W).alloc (Nat.le_refl _) _⟩
set_option maxRecDepth 100000 in
theorem below1_any (W : World) (cs : List Value) (x : St) (h : stK.tells W cs x) : Calls Try.prog 87 #[.agg cs.toArray] W (RetB (belowSt x) W) := by
  obtain ⟨rfl, h1⟩ := h
  unfold belowSt
  show Calls Try.prog 87 #[.agg #[.int .i64 x.what, .string x.src, .string x.dst]] W _
  go_enter Try.func87, Try.ntmps87
  go_wp2
  go_ret
  exact ⟨rfl, (Below.refl _ W).alloc (Nat.le_refl _) _⟩
set_option maxRecDepth 100000 in
theorem below2_any (W : World) (cs : List Value) (x : Fu) (h : fuK.tells W cs x) : Calls Try.prog 88 #[.agg cs.toArray] W (RetB (belowFu x) W) := by
  obtain ⟨fs, ms, rfl, h1, h2, h3, h4⟩ := h
  have hb := (Below.refl W.heap.size W).alloc (Nat.le_refl _) (.cells #[.string x.cls, .string x.name, fs, ms] 106)
  have HB := Lib.hid hb
  have HC := Lib.hid (hasIn_any 90 belowIn (fun _ _ => rfl) (Kind.sl_below h4 hb) (fun W' cs y _ hy => below21_any W' cs y hy))
  clear h1 h2 h3 h4 hb
  show Calls Try.prog 88 #[.agg #[.string x.cls, .string x.name, fs, ms]] W (RetB (x.code.any belowIn) W)
  go_enter Try.func88, Try.ntmps88
  go_wp2_with fail
  refine HC.out.mono ?_
  rintro e w1 ⟨rfl, hb1⟩
  have HF := Lib.hid (HB.out.trans (hb1.mono HB.out.size))
  clear hb1 HC HB
  go_wp2_with fail
  go_ret
  exact ⟨rfl, HF.out⟩
set_option maxRecDepth 100000 in
theorem below_any (W : World) (cs : List Value) (x : Md) (h : mdK.tells W cs x) : Calls Try.prog 53 #[.agg cs.toArray] W (RetB (belowM x) W) := by
  obtain ⟨t, s, p, f, rfl, h1, h2, h3, h4⟩ := h
  have hb := (Below.refl W.heap.size W).alloc (Nat.le_refl _) (.cells #[t, s, p, f] 68)
  have HB := Lib.hid hb
  have HC := Lib.hid (hasSt_any 87 belowSt (fun _ _ => rfl) (Kind.sl_below h2 hb) (fun W' cs y _ hy => below1_any W' cs y hy))
  have H4 := Lib.hid (Kind.sl_below h4 hb)
  clear h1 h2 h3 h4 hb
  show Calls Try.prog 53 #[.agg #[t, s, p, f]] W _
  by_cases g : x.sites.any belowSt = true
  · have HE : Hid (belowM x = true) := Lib.hid (by unfold belowM; rw [g]; rfl)
    rw [HE.out]
    rw [g] at HC
    clear g
    go_enter Try.func53, Try.ntmps53
    go_wp2_with fail
    refine HC.out.mono ?_
    rintro e w1 ⟨rfl, hb1⟩
    have HF := Lib.hid (HB.out.trans (hb1.mono HB.out.size))
    clear hb1 HC HB
    go_wp2_with fail
    go_ret
    exact ⟨rfl, HF.out⟩
  · have gf : x.sites.any belowSt = false := by simpa using g
    have HE : Hid (belowM x = x.funcs.any belowFu) := Lib.hid (by unfold belowM; rw [gf]; rfl)
    rw [HE.out]
    rw [gf] at HC
    clear g gf
    go_enter Try.func53, Try.ntmps53
    go_wp2_with fail
    refine HC.out.mono ?_
    rintro e w1 ⟨rfl, hb1⟩
    have HC2 := Lib.hid (hasFu_any 88 belowFu (fun _ _ => rfl) (Kind.sl_below H4.out hb1) (fun W' cs y _ hy => below2_any W' cs y hy))
    have HF := Lib.hid (HB.out.trans (hb1.mono HB.out.size))
    have e3 := cell_below ((Blk.new W 68 #[t, s, p, f]).cell 3) hb1
    clear hb1 HC HB H4
    go_wp2_with fail
    refine HC2.out.mono ?_
    rintro e w2 ⟨rfl, hb1⟩
    have HF2 := Lib.hid (HF.out.trans (hb1.mono HF.out.size))
    clear hb1 HC2 HF
    go_wp2_with fail
    go_ret
    exact ⟨rfl, HF2.out⟩
set_option maxRecDepth 100000 in
theorem many_any (W : World) (cs : List Value) (x : Md) (h : mdK.tells W cs x) : Calls Try.prog 52 #[.agg cs.toArray] W (RetB (manyM x) W) := by
  obtain ⟨t, s, p, f, rfl, h1, h2, h3, h4⟩ := h
  have hb := (Below.refl W.heap.size W).alloc (Nat.le_refl _) (.cells #[t, s, p, f] 68)
  obtain ⟨At, ct, ht, hlt⟩ := Kind.sl_form h1
  obtain ⟨As, c2, hs, hls⟩ := Kind.sl_form h2
  obtain ⟨Ap, cp, hp, hlp⟩ := Kind.sl_form h3
  obtain ⟨Af, cf, hf, hlf⟩ := Kind.sl_form h4
  subst ht hs hp hf
  have HB := Lib.hid hb
  have HC := Lib.hid (hasCl_any 80 manyCl (fun _ _ => rfl) (Kind.sl_below h1 hb) (fun W' cs y _ hy => many1_any W' cs y hy))
  have H4 := Lib.hid (Kind.sl_below h4 hb)
  clear h1 h2 h3 h4 hb
  show Calls Try.prog 52 #[.agg #[.slice At x.table.length ct, .slice As x.sites.length c2, .slice Ap x.pool.length cp, .slice Af x.funcs.length cf]] W _
  by_cases g1 : (40 : Int) < (x.table.length : Int)
  · have HE : Hid (manyM x = true) := Lib.hid (by unfold manyM; rw [decide_eq_true (show 40 < x.table.length by omega)]; simp)
    rw [HE.out]
    clear HC H4
    go_enter Try.func52, Try.ntmps52
    go_wp2
    go_ret
    exact ⟨rfl, HB.out⟩
  by_cases g2 : (5000 : Int) < (x.sites.length : Int)
  · have HE : Hid (manyM x = true) := Lib.hid (by unfold manyM; rw [decide_eq_true (show 5000 < x.sites.length by omega)]; simp)
    rw [HE.out]
    clear HC H4
    go_enter Try.func52, Try.ntmps52
    go_wp2
    go_ret
    exact ⟨rfl, HB.out⟩
  by_cases g3 : (2000 : Int) < (x.pool.length : Int)
  · have HE : Hid (manyM x = true) := Lib.hid (by unfold manyM; rw [decide_eq_true (show 2000 < x.pool.length by omega)]; simp)
    rw [HE.out]
    clear HC H4
    go_enter Try.func52, Try.ntmps52
    go_wp2
    go_ret
    exact ⟨rfl, HB.out⟩
  by_cases g4 : (1000 : Int) < (x.funcs.length : Int)
  · have HE : Hid (manyM x = true) := Lib.hid (by unfold manyM; rw [decide_eq_true (show 1000 < x.funcs.length by omega)]; simp)
    rw [HE.out]
    clear HC H4
    go_enter Try.func52, Try.ntmps52
    go_wp2
    go_ret
    exact ⟨rfl, HB.out⟩
  have HE0 : Hid (manyM x = (x.table.any manyCl || x.funcs.any manyFu)) := Lib.hid (by unfold manyM; rw [decide_eq_false (show ¬ 40 < x.table.length by omega), decide_eq_false (show ¬ 5000 < x.sites.length by omega), decide_eq_false (show ¬ 2000 < x.pool.length by omega), decide_eq_false (show ¬ 1000 < x.funcs.length by omega)]; rfl)
  rw [HE0.out]
  by_cases g : x.table.any manyCl = true
  · rw [g, Bool.true_or]
    rw [g] at HC
    clear g
    go_enter Try.func52, Try.ntmps52
    go_wp2_with fail
    refine HC.out.mono ?_
    rintro e w1 ⟨rfl, hb1⟩
    have HF := Lib.hid (HB.out.trans (hb1.mono HB.out.size))
    clear hb1 HC HB
    go_wp2_with fail
    go_ret
    exact ⟨rfl, HF.out⟩
  · have gf : x.table.any manyCl = false := by simpa using g
    rw [gf, Bool.false_or]
    rw [gf] at HC
    clear g gf
    go_enter Try.func52, Try.ntmps52
    go_wp2_with fail
    refine HC.out.mono ?_
    rintro e w1 ⟨rfl, hb1⟩
    have HC2 := Lib.hid (hasFu_any 83 manyFu (fun _ _ => rfl) (Kind.sl_below H4.out hb1) (fun W' cs y _ hy => many2_any W' cs y hy))
    have HF := Lib.hid (HB.out.trans (hb1.mono HB.out.size))
    have e3 := cell_below ((Blk.new W 68 #[.slice At x.table.length ct, .slice As x.sites.length c2, .slice Ap x.pool.length cp, .slice Af x.funcs.length cf]).cell 3) hb1
    clear hb1 HC HB H4
    go_wp2_with fail
    refine HC2.out.mono ?_
    rintro e w2 ⟨rfl, hb1⟩
    have HF2 := Lib.hid (HF.out.trans (hb1.mono HF.out.size))
    clear hb1 HC2 HF
    go_wp2_with fail
    go_ret
    exact ⟨rfl, HF2.out⟩
end Go.Proofs.Ytcapdmicekialaa
