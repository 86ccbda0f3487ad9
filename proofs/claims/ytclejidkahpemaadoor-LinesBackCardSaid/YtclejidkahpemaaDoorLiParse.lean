/- lines.Parse. Printed by mkparse.py. -/
import Derived.Test.YtclejidkahpemaaDoorLiCheck
import Derived.Test.YtclejidkahpemaaDoorLiCut
import Derived.Test.YtclejidkahpemaaDoorCells2
namespace Go.Proofs.YtclejidkahpemaaDoor
open Go.RowKit
set_option linter.unusedVariables false
set_option linter.unusedSimpArgs false
attribute [local irreducible] ByteArray.extract ByteArray.toList
attribute [local go_sem] Oper.semAt_some run_store_func run_store_nilFunc
abbrev Z3 : Array Value := #[.string ⟨#[]⟩, .string ⟨#[]⟩, .int .i64 0]
def flV (f : Int × Int) : Array Value := #[.int .i64 f.1, .int .i64 f.2]
theorem fault_any (er at_ : Int) (w : World) : Calls Tryd.prog 29 #[.int .i64 er, .int .i64 at_] w fun e w' => e = .returned (.tuple #[.agg Z3, .agg #[.int .i64 er, .int .i64 at_]]) ∧ Below w.heap.size w w' := by
  have HB : Hid (Below w.heap.size w ((w.alloc (.cells Z3 23)).alloc (.cells #[.int .i64 er, .int .i64 at_] 31))) := Lib.hid (((Below.refl _ _).alloc (Nat.le_refl _) _).alloc (by simp) _)
  have h1 := (Blk.new w 23 Z3).alloc (.cells #[.int .i64 er, .int .i64 at_] 31)
  have h2 := Blk.new (w.alloc (.cells Z3 23)) 31 #[.int .i64 er, .int .i64 at_]
  rw [World.size_alloc] at h2
  have HK := Lib.hid (And.intro h1 h2)
  clear h1 h2
  go_enter Tryd.func29, Tryd.ntmps29
  go_wp2_with fail
  refine bodyPost_ret (results_rows2 rfl _ _ w.heap.size (w.heap.size + 1) 23 31 Z3 #[.int .i64 er, .int .i64 at_] (0, 0) (0, 0) _ _ rfl HK.out.1 Tryd.underlying23 rfl (by kernel_rfl) rfl HK.out.2 Tryd.underlying31 rfl (by kernel_rfl)) rfl ⟨rfl, HB.out⟩
/-- What Parse comes to. -/
def RetP (s : List UInt8) (w : World) (e : Ending) (w' : World) : Prop := e = .returned (.tuple #[cmV (parseL s).1, .agg (flV (parseL s).2)]) ∧ Below w.heap.size w w'
/-- The two results, as they lie. -/
def Res2 (w : World) (a b : Array Value) (R : Thing) : Thing := sepT (blkT w.heap.size 23 a) (sepT (blkT (w.heap.size + 1) 31 b) R)
section
variable {w W : World} {R : Thing} {a b : Array Value}
theorem res2_new (w : World) : Lies w.heap.size w ((w.alloc (.cells Z3 23)).alloc (.cells #[.int .i64 0, .int .i64 0] 31)) (Res2 w Z3 #[.int .i64 0, .int .i64 0] empT) := by
  have h := ((Lies.nil w).newBlk 23 Z3).newBlk 31 #[.int .i64 0, .int .i64 0]
  rw [World.size_alloc] at h
  exact h.turn (by unfold Res2; ac_rfl)
/-- A fault is told: what the stores make of the two. -/
theorem res2_fault (er at_ : Int) (h : Lies w.heap.size w W (Res2 w Z3 #[.int .i64 0, .int .i64 0] R)) :
    Lies w.heap.size w (((((W.setCell ⟨w.heap.size, 0, none⟩ (.string ⟨#[]⟩)).setCell ⟨w.heap.size, 1, none⟩ (.string ⟨#[]⟩)).setCell ⟨w.heap.size, 2, none⟩ (.int .i64 0)).setCell ⟨w.heap.size + 1, 0, none⟩ (.int .i64 er)).setCell ⟨w.heap.size + 1, 1, none⟩ (.int .i64 at_)) (Res2 w Z3 #[.int .i64 er, .int .i64 at_] R) := by
  have h1 := ((h.setBlk 0 (.string ⟨#[]⟩)).setBlk 1 (.string ⟨#[]⟩)).setBlk 2 (.int .i64 0)
  have h2 := ((h1.turn (a' := sepT (blkT (w.heap.size + 1) 31 #[.int .i64 0, .int .i64 0]) (sepT (blkT w.heap.size 23 Z3) R)) (by show sepT (blkT w.heap.size 23 Z3) _ = _; ac_rfl)).setBlk 0 (.int .i64 er)).setBlk 1 (.int .i64 at_)
  exact h2.turn (by unfold Res2; show sepT (blkT (w.heap.size + 1) 31 #[.int .i64 er, .int .i64 at_]) _ = _; ac_rfl)
theorem res2_cells (h : Lies w.heap.size w W (Res2 w a b R)) : (∀ i, W.cell? ⟨w.heap.size, i, none⟩ = a[i]?) ∧ (∀ i, W.cell? ⟨w.heap.size + 1, i, none⟩ = b[i]?) ∧ (∀ i, W.frozen? ⟨w.heap.size, i, none⟩ = false) ∧ (∀ i, W.frozen? ⟨w.heap.size + 1, i, none⟩ = false) := by
  have h1 := (show Lies _ _ _ (sepT _ _) from h).blk.1
  have h2 := ((show Lies _ _ _ (sepT _ _) from h).turn (a' := sepT (blkT (w.heap.size + 1) 31 b) (sepT (blkT w.heap.size 23 a) R)) (by ac_rfl)).blk.1
  exact ⟨h1.cell, h2.cell, h1.frozen, h2.frozen⟩
theorem res2_whole (x y : ByteArray) (n : Int) (h : Lies w.heap.size w W (Res2 w Z3 #[.int .i64 0, .int .i64 0] R)) :
    Lies w.heap.size w (((((W.setCell ⟨w.heap.size, 0, none⟩ (.string x)).setCell ⟨w.heap.size, 1, none⟩ (.string y)).setCell ⟨w.heap.size, 2, none⟩ (.int .i64 n)).setCell ⟨w.heap.size + 1, 0, none⟩ (.int .i64 0)).setCell ⟨w.heap.size + 1, 1, none⟩ (.int .i64 0)) (Res2 w #[.string x, .string y, .int .i64 n] #[.int .i64 0, .int .i64 0] R) := by
  have h1 := ((h.setBlk 0 (.string x)).setBlk 1 (.string y)).setBlk 2 (.int .i64 n)
  have h2 := ((h1.turn (a' := sepT (blkT (w.heap.size + 1) 31 #[.int .i64 0, .int .i64 0]) (sepT (blkT w.heap.size 23 #[.string x, .string y, .int .i64 n]) R)) (by show sepT (blkT w.heap.size 23 #[.string x, .string y, .int .i64 n]) _ = _; ac_rfl)).setBlk 0 (.int .i64 0)).setBlk 1 (.int .i64 0)
  exact h2.turn (by unfold Res2; show sepT (blkT (w.heap.size + 1) 31 #[.int .i64 0, .int .i64 0]) _ = _; ac_rfl)
/-- At the return. -/
theorem res2_ret {s : List UInt8} {tmps : Array Value} (h2 : tmps.getD 2 undef = .pointer (some ⟨w.heap.size, 0, none⟩)) (h3 : tmps.getD 3 undef = .pointer (some ⟨w.heap.size + 1, 0, none⟩)) (hE : parseL s = (⟨(parseL s).1.word, (parseL s).1.text, (parseL s).1.n⟩, (parseL s).2)) (ha : a = cmA (parseL s).1) (hb : b = flV (parseL s).2) (H : Lies w.heap.size w W (Res2 w a b R)) :
    bodyPost Tryd.prog Tryd.f14 (RetP s w) .ret { tmps := tmps, defers := [] } W := by
  have h1 := (show Lies _ _ _ (sepT _ _) from H).blk.1
  have h4 := ((show Lies _ _ _ (sepT _ _) from H).turn (a' := sepT (blkT (w.heap.size + 1) 31 b) (sepT (blkT w.heap.size 23 a) R)) (by ac_rfl)).blk.1
  subst ha hb
  exact bodyPost_ret (results_rows2 rfl _ _ w.heap.size (w.heap.size + 1) 23 31 (cmA (parseL s).1) (flV (parseL s).2) (0, 0) (0, 0) _ _ h2 h1 Tryd.underlying23 rfl (by kernel_rfl) h3 h4 Tryd.underlying31 rfl (by kernel_rfl)) rfl ⟨rfl, H.below⟩
end
theorem parse_far {s : List UInt8} (h : 4100 < s.length) : parseL s = (noC, (4, 4100)) := if_pos h
theorem parse_no {s : List UInt8} (h : ¬ 4100 < s.length) (hk : kindL (cutL s 32) = 0) : parseL s = (noC, (5, 0)) := by unfold parseL; rw [if_neg h]; exact if_pos hk
theorem parse_space {s : List UInt8} (h : ¬ 4100 < s.length) (hk : kindL (cutL s 32) ≠ 0) (h2 : decide (kindL (cutL s 32) = 4) ≠ decide ((cutL s 32).length = s.length)) : parseL s = (noC, ((5 : Int), ((cutL s 32).length : Int))) := by
  unfold parseL; rw [if_neg h, if_neg (show ¬ kindL (wordOf s) = 0 from hk)]; exact if_pos h2
theorem parse_bare {s : List UInt8} (h : ¬ 4100 < s.length) (hk : kindL (cutL s 32) = 4) (h2 : (cutL s 32).length = s.length) : parseL s = (⟨cutL s 32, [], 0⟩, (0, 0)) := by
  unfold parseL
  rw [if_neg h, if_neg (show ¬ kindL (wordOf s) = 0 from by show ¬ kindL (cutL s 32) = 0; rw [hk]; decide), if_neg (show ¬ decide (kindL (wordOf s) = 4) ≠ decide ((wordOf s).length = s.length) from by show ¬ decide (kindL (cutL s 32) = 4) ≠ decide ((cutL s 32).length = s.length); rw [hk, h2]; simp), if_pos (show kindL (wordOf s) = 4 from hk)]
  rfl
theorem parse_on {s : List UInt8} {k : Nat} (h : ¬ 4100 < s.length) (hk : kindL (cutL s 32) = k) (hk3 : k = 1 ∨ k = 2 ∨ k = 3) (h2 : (cutL s 32).length < s.length) : parseL s =
    if badAt k (s.drop ((cutL s 32).length + 1)) < (s.drop ((cutL s 32).length + 1)).length then (noC, ((5 : Int), (((cutL s 32).length + 1 + badAt k (s.drop ((cutL s 32).length + 1)) : Nat) : Int))) else
    if fitsL k (s.drop ((cutL s 32).length + 1)) = false then (noC, ((5 : Int), (((cutL s 32).length + 1 : Nat) : Int))) else
    (⟨cutL s 32, if k = 3 then [] else s.drop ((cutL s 32).length + 1), if k = 3 then (readV (s.drop ((cutL s 32).length + 1))).1 else 0⟩, (0, 0)) := by
  subst hk
  unfold parseL
  rw [if_neg h, if_neg (show ¬ kindL (wordOf s) = 0 from by show ¬ kindL (cutL s 32) = 0; omega), if_neg (show ¬ decide (kindL (wordOf s) = 4) ≠ decide ((wordOf s).length = s.length) from by
    show ¬ decide (kindL (cutL s 32) = 4) ≠ decide ((cutL s 32).length = s.length)
    rw [decide_eq_false (by omega : ¬ kindL (cutL s 32) = 4), decide_eq_false (by omega : ¬ (cutL s 32).length = s.length)]; simp), if_neg (show ¬ kindL (wordOf s) = 4 from by show ¬ kindL (cutL s 32) = 4; omega)]
  rfl
set_option maxRecDepth 100000 in
set_option maxHeartbeats 3200000 in
theorem parse_long (s : List UInt8) (hs : s.length ≤ 140737488351232) (h : 4100 < s.length) (w : World) : Calls Tryd.prog 14 #[.string (sOf s)] w (RetP s w) := by
  have HE := Lib.hid (parse_far h)
  have hsz : (sOf s).size = s.length := sOf_size s
  have h' : (4100 : Int) < ((sOf s).size : Int) := by omega
  have HF := Lib.hid (fault_any 4 4100 ((w.alloc (.cells Z3 23)).alloc (.cells #[.int .i64 0, .int .i64 0] 31)))
  have HR := Lib.hid (res2_new w)
  clear h hsz
  go_enter Tryd.func14, Tryd.ntmps14
  go_wp2_with fail
  refine HF.out.mono ?_
  rintro e w1 ⟨rfl, hb⟩
  have h1 := HR.out.past hb
  obtain ⟨c2, c3, f2, f3⟩ := res2_cells h1
  have c20 := c2 0; have c21 := c2 1; have c22 := c2 2; have c30 := c3 0; have c31 := c3 1
  have f20 := f2 0; have f21 := f2 1; have f22 := f2 2; have f30 := f3 0; have f31 := f3 1
  simp at c20 c21 c22 c30 c31
  have HZ := Lib.hid (res2_fault 4 4100 h1)
  clear hb h1 c2 c3 f2 f3 HF
  go_wp2_with fail
  exact res2_ret rfl rfl rfl (by rw [HE.out]; rfl) (by rw [HE.out]; rfl) HZ.out
set_option maxRecDepth 100000 in
set_option maxHeartbeats 3200000 in
theorem parse_0 (s : List UInt8) (hs : s.length ≤ 140737488351232) (hn : ¬ 4100 < s.length) (hk : kindL (cutL s 32) = 0) (w : World) (hsp : Spaces w) : Calls Tryd.prog 14 #[.string (sOf s)] w (RetP s w) := by
  have hE := parse_no hn hk
  have hsz : (sOf s).size = s.length := sOf_size s
  have h' : ¬ (4100 : Int) < ((sOf s).size : Int) := by omega
  have hB0 : Below w.heap.size w ((w.alloc (.cells Z3 23)).alloc (.cells #[.int .i64 0, .int .i64 0] 31)) := ((Below.refl _ _).alloc (Nat.le_refl _) _).alloc (by simp) _
  have HC := Lib.hid (cut_any s 32 hs ((w.alloc (.cells Z3 23)).alloc (.cells #[.int .i64 0, .int .i64 0] 31)))
  have HF : Hid (∀ W, Below w.heap.size w W → Calls Tryd.prog 22 #[] W (RetForms W)) := Lib.hid fun W hb => forms_any W (spaces_below hsp hb (spaces_pos hsp))
  have HR := Lib.hid (res2_new w)
  have hlk : ∀ (W : World) (r : Nat), W.heap[r]? = some (.map (esA 15) 15) → (Instr.lookup _ (.map (some r)) (.string (sOf (cutL s 32))) true).run Tryd.prog W = .ok (.tuple #[.agg #[.bool false, .nilFunc, .nilFunc], .bool false]) W := fun W r hb => by
    have := look_kind (sOf (cutL s 32)) hb true
    rw [sOf_list, hk] at this
    exact this
  have HLk := Lib.hid hlk
  have HWl := Lib.hid (kind_len (w := cutL s 32))
  unfold cutR at HC
  skip
  have hwl : (sOf (cutL s 32)).size = (cutL s 32).length := sOf_size _
  have HWL := Lib.hid hwl
  have hml : (sOf (s.drop ((cutL s 32).length + 1))).size = (s.drop ((cutL s 32).length + 1)).length := sOf_size _
  have HML := Lib.hid hml
  have hms : (s.drop ((cutL s 32).length + 1)).length ≤ 140737488351232 := by rw [List.length_drop]; omega
  have HMs := Lib.hid hms
  have hws : (cutL s 32).length ≤ s.length := (List.takeWhile_sublist _).length_le
  have HWs := Lib.hid (Nat.le_trans hws (by omega : s.length ≤ 4100))
  have HE := Lib.hid hE
  have HK := Lib.hid hk
  clear hsz hB0 hlk hwl hml hms hws hE hn hs hk hsp
  obtain ⟨P1, hP1⟩ : ∃ x, x = parseL s := ⟨_, rfl⟩
  obtain ⟨wd, hwd⟩ : ∃ x, x = cutL s 32 := ⟨_, rfl⟩
  rw [← hwd] at HC HLk HWl HWL HML HMs HWs HK
  try rw [← hwd] at HE
  obtain ⟨m, hm⟩ : ∃ x, x = s.drop (wd.length + 1) := ⟨_, rfl⟩
  rw [← hm] at HC HML HMs
  try rw [← hm] at HE
  clear hm hwd hP1
  go_enter Tryd.func14, Tryd.ntmps14
  go_wp2_with fail
  refine HC.out.mono ?_
  rintro e w1 ⟨rfl, hb⟩
  have h1 := HR.out.past hb
  have HF1 := Lib.hid (HF.out w1 h1.below)
  have HK1 := Lib.hid h1
  clear hb h1 HF HC HR
  go_wp2_with fail
  refine HF1.out.mono ?_
  rintro e w2 ⟨r, rfl, hmap, hb, hr⟩
  have h2 := HK1.out.past hb
  have hlk := HLk.out w2 r hmap
  have h3 := (h2.newBlk 47 #[.bool false, .nilFunc, .nilFunc])
  have h3 := h3.turn (a' := Res2 w Z3 #[.int .i64 0, .int .i64 0] (sepT (blkT w2.heap.size 47 #[.bool false, .nilFunc, .nilFunc]) empT)) (by unfold Res2; ac_rfl)
  clear hb hmap h2 HK1 HF1 HLk
  have HFa := Lib.hid (fault_any 5 0 (w2.alloc (.cells #[.bool false, .nilFunc, .nilFunc] 47)))
  have H3 := Lib.hid h3
  clear h3
  go_wp2_with fail
  refine HFa.out.mono ?_
  rintro e wf ⟨rfl, hb⟩
  have hf := H3.out.past hb
  obtain ⟨c2, c3, f2, f3⟩ := res2_cells hf
  have c20 := c2 0; have c21 := c2 1; have c22 := c2 2; have c30 := c3 0; have c31 := c3 1
  have f20 := f2 0; have f21 := f2 1; have f22 := f2 2; have f30 := f3 0; have f31 := f3 1
  simp at c20 c21 c22 c30 c31
  clear c2 c3 f2 f3
  have HZ := Lib.hid (res2_fault 5 0 hf)
  clear hb hf HFa
  go_wp2_with fail
  exact res2_ret rfl rfl rfl (by rw [HE.out]; rfl) (by rw [HE.out]; rfl) HZ.out
set_option maxRecDepth 100000 in
set_option maxHeartbeats 3200000 in
theorem parse_4s (s : List UInt8) (hs : s.length ≤ 140737488351232) (hn : ¬ 4100 < s.length) (hk : kindL (cutL s 32) = 4) (h2 : (cutL s 32).length < s.length) (w : World) (hsp : Spaces w) : Calls Tryd.prog 14 #[.string (sOf s)] w (RetP s w) := by
  have hE := parse_space hn (by rw [hk]; decide) (by rw [hk, decide_eq_true rfl, decide_eq_false (by omega)]; decide)
  have hsz : (sOf s).size = s.length := sOf_size s
  have h' : ¬ (4100 : Int) < ((sOf s).size : Int) := by omega
  have hB0 : Below w.heap.size w ((w.alloc (.cells Z3 23)).alloc (.cells #[.int .i64 0, .int .i64 0] 31)) := ((Below.refl _ _).alloc (Nat.le_refl _) _).alloc (by simp) _
  have HC := Lib.hid (cut_any s 32 hs ((w.alloc (.cells Z3 23)).alloc (.cells #[.int .i64 0, .int .i64 0] 31)))
  have HF : Hid (∀ W, Below w.heap.size w W → Calls Tryd.prog 22 #[] W (RetForms W)) := Lib.hid fun W hb => forms_any W (spaces_below hsp hb (spaces_pos hsp))
  have HR := Lib.hid (res2_new w)
  have hlk : ∀ (W : World) (r : Nat), W.heap[r]? = some (.map (esA 15) 15) → (Instr.lookup _ (.map (some r)) (.string (sOf (cutL s 32))) true).run Tryd.prog W = .ok (.tuple #[.agg #[.bool false, .nilFunc, .nilFunc], .bool true]) W := fun W r hb => by
    have := look_kind (sOf (cutL s 32)) hb true
    rw [sOf_list, hk] at this
    exact this
  have HLk := Lib.hid hlk
  have HWl := Lib.hid (kind_len (w := cutL s 32))
  unfold cutR at HC
  rw [decide_eq_true h2] at HC
  have hwl : (sOf (cutL s 32)).size = (cutL s 32).length := sOf_size _
  have HWL := Lib.hid hwl
  have hml : (sOf (s.drop ((cutL s 32).length + 1))).size = (s.drop ((cutL s 32).length + 1)).length := sOf_size _
  have HML := Lib.hid hml
  have hms : (s.drop ((cutL s 32).length + 1)).length ≤ 140737488351232 := by rw [List.length_drop]; omega
  have HMs := Lib.hid hms
  have hws : (cutL s 32).length ≤ s.length := (List.takeWhile_sublist _).length_le
  have HWs := Lib.hid (Nat.le_trans hws (by omega : s.length ≤ 4100))
  have HE := Lib.hid hE
  have HK := Lib.hid hk
  clear hsz hB0 hlk hwl hml hms hws hE hn hs hk hsp
  obtain ⟨P1, hP1⟩ : ∃ x, x = parseL s := ⟨_, rfl⟩
  obtain ⟨wd, hwd⟩ : ∃ x, x = cutL s 32 := ⟨_, rfl⟩
  rw [← hwd] at HC HLk HWl HWL HML HMs HWs HK
  try rw [← hwd] at HE
  obtain ⟨m, hm⟩ : ∃ x, x = s.drop (wd.length + 1) := ⟨_, rfl⟩
  rw [← hm] at HC HML HMs
  try rw [← hm] at HE
  clear hm hwd hP1
  go_enter Tryd.func14, Tryd.ntmps14
  go_wp2_with fail
  refine HC.out.mono ?_
  rintro e w1 ⟨rfl, hb⟩
  have h1 := HR.out.past hb
  have HF1 := Lib.hid (HF.out w1 h1.below)
  have HK1 := Lib.hid h1
  clear hb h1 HF HC HR
  go_wp2_with fail
  refine HF1.out.mono ?_
  rintro e w2 ⟨r, rfl, hmap, hb, hr⟩
  have h2 := HK1.out.past hb
  have hlk := HLk.out w2 r hmap
  have h3 := (h2.newBlk 47 #[.bool false, .nilFunc, .nilFunc])
  have h3 := h3.turn (a' := Res2 w Z3 #[.int .i64 0, .int .i64 0] (sepT (blkT w2.heap.size 47 #[.bool false, .nilFunc, .nilFunc]) empT)) (by unfold Res2; ac_rfl)
  clear hb hmap h2 HK1 HF1 HLk
  have HFa := Lib.hid (fault_any 5 wd.length (w2.alloc (.cells #[.bool false, .nilFunc, .nilFunc] 47)))
  rw [← HWL.out] at HFa
  have H3 := Lib.hid h3
  clear h3
  go_wp2_with fail
  refine HFa.out.mono ?_
  rintro e wf ⟨rfl, hb⟩
  have hf := H3.out.past hb
  obtain ⟨c2, c3, f2, f3⟩ := res2_cells hf
  have c20 := c2 0; have c21 := c2 1; have c22 := c2 2; have c30 := c3 0; have c31 := c3 1
  have f20 := f2 0; have f21 := f2 1; have f22 := f2 2; have f30 := f3 0; have f31 := f3 1
  simp at c20 c21 c22 c30 c31
  clear c2 c3 f2 f3
  have HZ := Lib.hid (res2_fault 5 (sOf wd).size hf)
  clear hb hf HFa
  go_wp2_with fail
  exact res2_ret rfl rfl rfl (by rw [HE.out]; rfl) (by rw [HE.out]; rfl) HZ.out
set_option maxRecDepth 100000 in
set_option maxHeartbeats 3200000 in
theorem parse_1s (s : List UInt8) (hs : s.length ≤ 140737488351232) (hn : ¬ 4100 < s.length) (hk : kindL (cutL s 32) = 1) (h2 : ¬ (cutL s 32).length < s.length) (w : World) (hsp : Spaces w) : Calls Tryd.prog 14 #[.string (sOf s)] w (RetP s w) := by
  have hE := parse_space hn (by rw [hk]; decide) (by rw [hk, decide_eq_false (by decide), decide_eq_true (by have := (List.takeWhile_sublist (fun x => x != 32) (l := s)).length_le; unfold cutL at h2 ⊢; omega)]; decide)
  have hsz : (sOf s).size = s.length := sOf_size s
  have h' : ¬ (4100 : Int) < ((sOf s).size : Int) := by omega
  have hB0 : Below w.heap.size w ((w.alloc (.cells Z3 23)).alloc (.cells #[.int .i64 0, .int .i64 0] 31)) := ((Below.refl _ _).alloc (Nat.le_refl _) _).alloc (by simp) _
  have HC := Lib.hid (cut_any s 32 hs ((w.alloc (.cells Z3 23)).alloc (.cells #[.int .i64 0, .int .i64 0] 31)))
  have HF : Hid (∀ W, Below w.heap.size w W → Calls Tryd.prog 22 #[] W (RetForms W)) := Lib.hid fun W hb => forms_any W (spaces_below hsp hb (spaces_pos hsp))
  have HR := Lib.hid (res2_new w)
  have hlk : ∀ (W : World) (r : Nat), W.heap[r]? = some (.map (esA 15) 15) → (Instr.lookup _ (.map (some r)) (.string (sOf (cutL s 32))) true).run Tryd.prog W = .ok (.tuple #[.agg #[.bool true, .func (.func 33) #[] #[], .func (.func 34) #[] #[]], .bool true]) W := fun W r hb => by
    have := look_kind (sOf (cutL s 32)) hb true
    rw [sOf_list, hk] at this
    exact this
  have HLk := Lib.hid hlk
  have HWl := Lib.hid (kind_len (w := cutL s 32))
  unfold cutR at HC
  rw [decide_eq_false h2] at HC
  have hwl : (sOf (cutL s 32)).size = (cutL s 32).length := sOf_size _
  have HWL := Lib.hid hwl
  have hml : (sOf (s.drop ((cutL s 32).length + 1))).size = (s.drop ((cutL s 32).length + 1)).length := sOf_size _
  have HML := Lib.hid hml
  have hms : (s.drop ((cutL s 32).length + 1)).length ≤ 140737488351232 := by rw [List.length_drop]; omega
  have HMs := Lib.hid hms
  have hws : (cutL s 32).length ≤ s.length := (List.takeWhile_sublist _).length_le
  have HWs := Lib.hid (Nat.le_trans hws (by omega : s.length ≤ 4100))
  have HE := Lib.hid hE
  have HK := Lib.hid hk
  clear hsz hB0 hlk hwl hml hms hws hE hn hs hk hsp
  obtain ⟨P1, hP1⟩ : ∃ x, x = parseL s := ⟨_, rfl⟩
  obtain ⟨wd, hwd⟩ : ∃ x, x = cutL s 32 := ⟨_, rfl⟩
  rw [← hwd] at HC HLk HWl HWL HML HMs HWs HK
  try rw [← hwd] at HE
  obtain ⟨m, hm⟩ : ∃ x, x = s.drop (wd.length + 1) := ⟨_, rfl⟩
  rw [← hm] at HC HML HMs
  try rw [← hm] at HE
  clear hm hwd hP1
  go_enter Tryd.func14, Tryd.ntmps14
  go_wp2_with fail
  refine HC.out.mono ?_
  rintro e w1 ⟨rfl, hb⟩
  have h1 := HR.out.past hb
  have HF1 := Lib.hid (HF.out w1 h1.below)
  have HK1 := Lib.hid h1
  clear hb h1 HF HC HR
  go_wp2_with fail
  refine HF1.out.mono ?_
  rintro e w2 ⟨r, rfl, hmap, hb, hr⟩
  have h2 := HK1.out.past hb
  have hlk := HLk.out w2 r hmap
  have h3 := (h2.newBlk 47 #[.bool true, .func (.func 33) #[] #[], .func (.func 34) #[] #[]])
  have h3 := h3.turn (a' := Res2 w Z3 #[.int .i64 0, .int .i64 0] (sepT (blkT w2.heap.size 47 #[.bool true, .func (.func 33) #[] #[], .func (.func 34) #[] #[]]) empT)) (by unfold Res2; ac_rfl)
  clear hb hmap h2 HK1 HF1 HLk
  have HFa := Lib.hid (fault_any 5 wd.length (w2.alloc (.cells #[.bool true, .func (.func 33) #[] #[], .func (.func 34) #[] #[]] 47)))
  rw [← HWL.out] at HFa
  have H3 := Lib.hid h3
  clear h3
  go_wp2_with fail
  refine HFa.out.mono ?_
  rintro e wf ⟨rfl, hb⟩
  have hf := H3.out.past hb
  obtain ⟨c2, c3, f2, f3⟩ := res2_cells hf
  have c20 := c2 0; have c21 := c2 1; have c22 := c2 2; have c30 := c3 0; have c31 := c3 1
  have f20 := f2 0; have f21 := f2 1; have f22 := f2 2; have f30 := f3 0; have f31 := f3 1
  simp at c20 c21 c22 c30 c31
  clear c2 c3 f2 f3
  have HZ := Lib.hid (res2_fault 5 (sOf wd).size hf)
  clear hb hf HFa
  go_wp2_with fail
  exact res2_ret rfl rfl rfl (by rw [HE.out]; rfl) (by rw [HE.out]; rfl) HZ.out
set_option maxRecDepth 100000 in
set_option maxHeartbeats 3200000 in
theorem parse_2s (s : List UInt8) (hs : s.length ≤ 140737488351232) (hn : ¬ 4100 < s.length) (hk : kindL (cutL s 32) = 2) (h2 : ¬ (cutL s 32).length < s.length) (w : World) (hsp : Spaces w) : Calls Tryd.prog 14 #[.string (sOf s)] w (RetP s w) := by
  have hE := parse_space hn (by rw [hk]; decide) (by rw [hk, decide_eq_false (by decide), decide_eq_true (by have := (List.takeWhile_sublist (fun x => x != 32) (l := s)).length_le; unfold cutL at h2 ⊢; omega)]; decide)
  have hsz : (sOf s).size = s.length := sOf_size s
  have h' : ¬ (4100 : Int) < ((sOf s).size : Int) := by omega
  have hB0 : Below w.heap.size w ((w.alloc (.cells Z3 23)).alloc (.cells #[.int .i64 0, .int .i64 0] 31)) := ((Below.refl _ _).alloc (Nat.le_refl _) _).alloc (by simp) _
  have HC := Lib.hid (cut_any s 32 hs ((w.alloc (.cells Z3 23)).alloc (.cells #[.int .i64 0, .int .i64 0] 31)))
  have HF : Hid (∀ W, Below w.heap.size w W → Calls Tryd.prog 22 #[] W (RetForms W)) := Lib.hid fun W hb => forms_any W (spaces_below hsp hb (spaces_pos hsp))
  have HR := Lib.hid (res2_new w)
  have hlk : ∀ (W : World) (r : Nat), W.heap[r]? = some (.map (esA 15) 15) → (Instr.lookup _ (.map (some r)) (.string (sOf (cutL s 32))) true).run Tryd.prog W = .ok (.tuple #[.agg #[.bool true, .func (.func 35) #[] #[], .func (.func 36) #[] #[]], .bool true]) W := fun W r hb => by
    have := look_kind (sOf (cutL s 32)) hb true
    rw [sOf_list, hk] at this
    exact this
  have HLk := Lib.hid hlk
  have HWl := Lib.hid (kind_len (w := cutL s 32))
  unfold cutR at HC
  rw [decide_eq_false h2] at HC
  have hwl : (sOf (cutL s 32)).size = (cutL s 32).length := sOf_size _
  have HWL := Lib.hid hwl
  have hml : (sOf (s.drop ((cutL s 32).length + 1))).size = (s.drop ((cutL s 32).length + 1)).length := sOf_size _
  have HML := Lib.hid hml
  have hms : (s.drop ((cutL s 32).length + 1)).length ≤ 140737488351232 := by rw [List.length_drop]; omega
  have HMs := Lib.hid hms
  have hws : (cutL s 32).length ≤ s.length := (List.takeWhile_sublist _).length_le
  have HWs := Lib.hid (Nat.le_trans hws (by omega : s.length ≤ 4100))
  have HE := Lib.hid hE
  have HK := Lib.hid hk
  clear hsz hB0 hlk hwl hml hms hws hE hn hs hk hsp
  obtain ⟨P1, hP1⟩ : ∃ x, x = parseL s := ⟨_, rfl⟩
  obtain ⟨wd, hwd⟩ : ∃ x, x = cutL s 32 := ⟨_, rfl⟩
  rw [← hwd] at HC HLk HWl HWL HML HMs HWs HK
  try rw [← hwd] at HE
  obtain ⟨m, hm⟩ : ∃ x, x = s.drop (wd.length + 1) := ⟨_, rfl⟩
  rw [← hm] at HC HML HMs
  try rw [← hm] at HE
  clear hm hwd hP1
  go_enter Tryd.func14, Tryd.ntmps14
  go_wp2_with fail
  refine HC.out.mono ?_
  rintro e w1 ⟨rfl, hb⟩
  have h1 := HR.out.past hb
  have HF1 := Lib.hid (HF.out w1 h1.below)
  have HK1 := Lib.hid h1
  clear hb h1 HF HC HR
  go_wp2_with fail
  refine HF1.out.mono ?_
  rintro e w2 ⟨r, rfl, hmap, hb, hr⟩
  have h2 := HK1.out.past hb
  have hlk := HLk.out w2 r hmap
  have h3 := (h2.newBlk 47 #[.bool true, .func (.func 35) #[] #[], .func (.func 36) #[] #[]])
  have h3 := h3.turn (a' := Res2 w Z3 #[.int .i64 0, .int .i64 0] (sepT (blkT w2.heap.size 47 #[.bool true, .func (.func 35) #[] #[], .func (.func 36) #[] #[]]) empT)) (by unfold Res2; ac_rfl)
  clear hb hmap h2 HK1 HF1 HLk
  have HFa := Lib.hid (fault_any 5 wd.length (w2.alloc (.cells #[.bool true, .func (.func 35) #[] #[], .func (.func 36) #[] #[]] 47)))
  rw [← HWL.out] at HFa
  have H3 := Lib.hid h3
  clear h3
  go_wp2_with fail
  refine HFa.out.mono ?_
  rintro e wf ⟨rfl, hb⟩
  have hf := H3.out.past hb
  obtain ⟨c2, c3, f2, f3⟩ := res2_cells hf
  have c20 := c2 0; have c21 := c2 1; have c22 := c2 2; have c30 := c3 0; have c31 := c3 1
  have f20 := f2 0; have f21 := f2 1; have f22 := f2 2; have f30 := f3 0; have f31 := f3 1
  simp at c20 c21 c22 c30 c31
  clear c2 c3 f2 f3
  have HZ := Lib.hid (res2_fault 5 (sOf wd).size hf)
  clear hb hf HFa
  go_wp2_with fail
  exact res2_ret rfl rfl rfl (by rw [HE.out]; rfl) (by rw [HE.out]; rfl) HZ.out
set_option maxRecDepth 100000 in
set_option maxHeartbeats 3200000 in
theorem parse_3s (s : List UInt8) (hs : s.length ≤ 140737488351232) (hn : ¬ 4100 < s.length) (hk : kindL (cutL s 32) = 3) (h2 : ¬ (cutL s 32).length < s.length) (w : World) (hsp : Spaces w) : Calls Tryd.prog 14 #[.string (sOf s)] w (RetP s w) := by
  have hE := parse_space hn (by rw [hk]; decide) (by rw [hk, decide_eq_false (by decide), decide_eq_true (by have := (List.takeWhile_sublist (fun x => x != 32) (l := s)).length_le; unfold cutL at h2 ⊢; omega)]; decide)
  have hsz : (sOf s).size = s.length := sOf_size s
  have h' : ¬ (4100 : Int) < ((sOf s).size : Int) := by omega
  have hB0 : Below w.heap.size w ((w.alloc (.cells Z3 23)).alloc (.cells #[.int .i64 0, .int .i64 0] 31)) := ((Below.refl _ _).alloc (Nat.le_refl _) _).alloc (by simp) _
  have HC := Lib.hid (cut_any s 32 hs ((w.alloc (.cells Z3 23)).alloc (.cells #[.int .i64 0, .int .i64 0] 31)))
  have HF : Hid (∀ W, Below w.heap.size w W → Calls Tryd.prog 22 #[] W (RetForms W)) := Lib.hid fun W hb => forms_any W (spaces_below hsp hb (spaces_pos hsp))
  have HR := Lib.hid (res2_new w)
  have hlk : ∀ (W : World) (r : Nat), W.heap[r]? = some (.map (esA 15) 15) → (Instr.lookup _ (.map (some r)) (.string (sOf (cutL s 32))) true).run Tryd.prog W = .ok (.tuple #[.agg #[.bool true, .func (.func 37) #[] #[], .func (.func 38) #[] #[]], .bool true]) W := fun W r hb => by
    have := look_kind (sOf (cutL s 32)) hb true
    rw [sOf_list, hk] at this
    exact this
  have HLk := Lib.hid hlk
  have HWl := Lib.hid (kind_len (w := cutL s 32))
  unfold cutR at HC
  rw [decide_eq_false h2] at HC
  have hwl : (sOf (cutL s 32)).size = (cutL s 32).length := sOf_size _
  have HWL := Lib.hid hwl
  have hml : (sOf (s.drop ((cutL s 32).length + 1))).size = (s.drop ((cutL s 32).length + 1)).length := sOf_size _
  have HML := Lib.hid hml
  have hms : (s.drop ((cutL s 32).length + 1)).length ≤ 140737488351232 := by rw [List.length_drop]; omega
  have HMs := Lib.hid hms
  have hws : (cutL s 32).length ≤ s.length := (List.takeWhile_sublist _).length_le
  have HWs := Lib.hid (Nat.le_trans hws (by omega : s.length ≤ 4100))
  have HE := Lib.hid hE
  have HK := Lib.hid hk
  clear hsz hB0 hlk hwl hml hms hws hE hn hs hk hsp
  obtain ⟨P1, hP1⟩ : ∃ x, x = parseL s := ⟨_, rfl⟩
  obtain ⟨wd, hwd⟩ : ∃ x, x = cutL s 32 := ⟨_, rfl⟩
  rw [← hwd] at HC HLk HWl HWL HML HMs HWs HK
  try rw [← hwd] at HE
  obtain ⟨m, hm⟩ : ∃ x, x = s.drop (wd.length + 1) := ⟨_, rfl⟩
  rw [← hm] at HC HML HMs
  try rw [← hm] at HE
  clear hm hwd hP1
  go_enter Tryd.func14, Tryd.ntmps14
  go_wp2_with fail
  refine HC.out.mono ?_
  rintro e w1 ⟨rfl, hb⟩
  have h1 := HR.out.past hb
  have HF1 := Lib.hid (HF.out w1 h1.below)
  have HK1 := Lib.hid h1
  clear hb h1 HF HC HR
  go_wp2_with fail
  refine HF1.out.mono ?_
  rintro e w2 ⟨r, rfl, hmap, hb, hr⟩
  have h2 := HK1.out.past hb
  have hlk := HLk.out w2 r hmap
  have h3 := (h2.newBlk 47 #[.bool true, .func (.func 37) #[] #[], .func (.func 38) #[] #[]])
  have h3 := h3.turn (a' := Res2 w Z3 #[.int .i64 0, .int .i64 0] (sepT (blkT w2.heap.size 47 #[.bool true, .func (.func 37) #[] #[], .func (.func 38) #[] #[]]) empT)) (by unfold Res2; ac_rfl)
  clear hb hmap h2 HK1 HF1 HLk
  have HFa := Lib.hid (fault_any 5 wd.length (w2.alloc (.cells #[.bool true, .func (.func 37) #[] #[], .func (.func 38) #[] #[]] 47)))
  rw [← HWL.out] at HFa
  have H3 := Lib.hid h3
  clear h3
  go_wp2_with fail
  refine HFa.out.mono ?_
  rintro e wf ⟨rfl, hb⟩
  have hf := H3.out.past hb
  obtain ⟨c2, c3, f2, f3⟩ := res2_cells hf
  have c20 := c2 0; have c21 := c2 1; have c22 := c2 2; have c30 := c3 0; have c31 := c3 1
  have f20 := f2 0; have f21 := f2 1; have f22 := f2 2; have f30 := f3 0; have f31 := f3 1
  simp at c20 c21 c22 c30 c31
  clear c2 c3 f2 f3
  have HZ := Lib.hid (res2_fault 5 (sOf wd).size hf)
  clear hb hf HFa
  go_wp2_with fail
  exact res2_ret rfl rfl rfl (by rw [HE.out]; rfl) (by rw [HE.out]; rfl) HZ.out
set_option maxRecDepth 100000 in
set_option maxHeartbeats 3200000 in
theorem parse_4b (s : List UInt8) (hs : s.length ≤ 140737488351232) (hn : ¬ 4100 < s.length) (hk : kindL (cutL s 32) = 4) (h2 : (cutL s 32).length = s.length) (w : World) (hsp : Spaces w) : Calls Tryd.prog 14 #[.string (sOf s)] w (RetP s w) := by
  have hE := parse_bare hn hk h2
  have hsz : (sOf s).size = s.length := sOf_size s
  have h' : ¬ (4100 : Int) < ((sOf s).size : Int) := by omega
  have hB0 : Below w.heap.size w ((w.alloc (.cells Z3 23)).alloc (.cells #[.int .i64 0, .int .i64 0] 31)) := ((Below.refl _ _).alloc (Nat.le_refl _) _).alloc (by simp) _
  have HC := Lib.hid (cut_any s 32 hs ((w.alloc (.cells Z3 23)).alloc (.cells #[.int .i64 0, .int .i64 0] 31)))
  have HF : Hid (∀ W, Below w.heap.size w W → Calls Tryd.prog 22 #[] W (RetForms W)) := Lib.hid fun W hb => forms_any W (spaces_below hsp hb (spaces_pos hsp))
  have HR := Lib.hid (res2_new w)
  have hlk : ∀ (W : World) (r : Nat), W.heap[r]? = some (.map (esA 15) 15) → (Instr.lookup _ (.map (some r)) (.string (sOf (cutL s 32))) true).run Tryd.prog W = .ok (.tuple #[.agg #[.bool false, .nilFunc, .nilFunc], .bool true]) W := fun W r hb => by
    have := look_kind (sOf (cutL s 32)) hb true
    rw [sOf_list, hk] at this
    exact this
  have HLk := Lib.hid hlk
  have HWl := Lib.hid (kind_len (w := cutL s 32))
  unfold cutR at HC
  rw [decide_eq_false (by omega)] at HC
  have hwl : (sOf (cutL s 32)).size = (cutL s 32).length := sOf_size _
  have HWL := Lib.hid hwl
  have hml : (sOf (s.drop ((cutL s 32).length + 1))).size = (s.drop ((cutL s 32).length + 1)).length := sOf_size _
  have HML := Lib.hid hml
  have hms : (s.drop ((cutL s 32).length + 1)).length ≤ 140737488351232 := by rw [List.length_drop]; omega
  have HMs := Lib.hid hms
  have hws : (cutL s 32).length ≤ s.length := (List.takeWhile_sublist _).length_le
  have HWs := Lib.hid (Nat.le_trans hws (by omega : s.length ≤ 4100))
  have HE := Lib.hid hE
  have HK := Lib.hid hk
  clear hsz hB0 hlk hwl hml hms hws hE hn hs hk hsp
  obtain ⟨P1, hP1⟩ : ∃ x, x = parseL s := ⟨_, rfl⟩
  obtain ⟨wd, hwd⟩ : ∃ x, x = cutL s 32 := ⟨_, rfl⟩
  rw [← hwd] at HC HLk HWl HWL HML HMs HWs HK
  try rw [← hwd] at HE
  obtain ⟨m, hm⟩ : ∃ x, x = s.drop (wd.length + 1) := ⟨_, rfl⟩
  rw [← hm] at HC HML HMs
  try rw [← hm] at HE
  clear hm hwd hP1
  go_enter Tryd.func14, Tryd.ntmps14
  go_wp2_with fail
  refine HC.out.mono ?_
  rintro e w1 ⟨rfl, hb⟩
  have h1 := HR.out.past hb
  have HF1 := Lib.hid (HF.out w1 h1.below)
  have HK1 := Lib.hid h1
  clear hb h1 HF HC HR
  go_wp2_with fail
  refine HF1.out.mono ?_
  rintro e w2 ⟨r, rfl, hmap, hb, hr⟩
  have h2 := HK1.out.past hb
  have hlk := HLk.out w2 r hmap
  have h3 := (h2.newBlk 47 #[.bool false, .nilFunc, .nilFunc])
  have h3 := h3.turn (a' := Res2 w Z3 #[.int .i64 0, .int .i64 0] (sepT (blkT w2.heap.size 47 #[.bool false, .nilFunc, .nilFunc]) empT)) (by unfold Res2; ac_rfl)
  clear hb hmap h2 HK1 HF1 HLk
  have h4 := h3.newBlk 23 #[.string (sOf wd), .string ⟨#[]⟩, .int .i64 0]
  rw [World.size_alloc] at h4
  have h4 := h4.turn (a' := Res2 w Z3 #[.int .i64 0, .int .i64 0] (sepT (blkT (w2.heap.size + 1) 23 #[.string (sOf wd), .string ⟨#[]⟩, .int .i64 0]) (sepT (blkT w2.heap.size 47 #[.bool false, .nilFunc, .nilFunc]) empT))) (by unfold Res2; ac_rfl)
  obtain ⟨c2, c3, f2, f3⟩ := res2_cells h4
  have c20 := c2 0; have c21 := c2 1; have c22 := c2 2; have c30 := c3 0; have c31 := c3 1
  have f20 := f2 0; have f21 := f2 1; have f22 := f2 2; have f30 := f3 0; have f31 := f3 1
  simp at c20 c21 c22 c30 c31
  clear c2 c3 f2 f3
  have HZ := Lib.hid (res2_whole (sOf wd) ⟨#[]⟩ 0 h4)
  clear h3 h4
  go_wp2_with fail
  exact res2_ret rfl rfl rfl (by rw [HE.out]; rfl) (by rw [HE.out]; rfl) HZ.out
set_option maxRecDepth 100000 in
set_option maxHeartbeats 3200000 in
theorem parse_1 (s : List UInt8) (hs : s.length ≤ 140737488351232) (hn : ¬ 4100 < s.length) (hk : kindL (cutL s 32) = 1) (h2 : (cutL s 32).length < s.length) (w : World) (hsp : Spaces w) : Calls Tryd.prog 14 #[.string (sOf s)] w (RetP s w) := by
  have hE := parse_on hn hk (by decide) h2
  have hsz : (sOf s).size = s.length := sOf_size s
  have h' : ¬ (4100 : Int) < ((sOf s).size : Int) := by omega
  have hB0 : Below w.heap.size w ((w.alloc (.cells Z3 23)).alloc (.cells #[.int .i64 0, .int .i64 0] 31)) := ((Below.refl _ _).alloc (Nat.le_refl _) _).alloc (by simp) _
  have HC := Lib.hid (cut_any s 32 hs ((w.alloc (.cells Z3 23)).alloc (.cells #[.int .i64 0, .int .i64 0] 31)))
  have HF : Hid (∀ W, Below w.heap.size w W → Calls Tryd.prog 22 #[] W (RetForms W)) := Lib.hid fun W hb => forms_any W (spaces_below hsp hb (spaces_pos hsp))
  have HR := Lib.hid (res2_new w)
  have hlk : ∀ (W : World) (r : Nat), W.heap[r]? = some (.map (esA 15) 15) → (Instr.lookup _ (.map (some r)) (.string (sOf (cutL s 32))) true).run Tryd.prog W = .ok (.tuple #[.agg #[.bool true, .func (.func 33) #[] #[], .func (.func 34) #[] #[]], .bool true]) W := fun W r hb => by
    have := look_kind (sOf (cutL s 32)) hb true
    rw [sOf_list, hk] at this
    exact this
  have HLk := Lib.hid hlk
  have HWl := Lib.hid (kind_len (w := cutL s 32))
  unfold cutR at HC
  rw [decide_eq_true h2] at HC
  have hwl : (sOf (cutL s 32)).size = (cutL s 32).length := sOf_size _
  have HWL := Lib.hid hwl
  have hml : (sOf (s.drop ((cutL s 32).length + 1))).size = (s.drop ((cutL s 32).length + 1)).length := sOf_size _
  have HML := Lib.hid hml
  have hms : (s.drop ((cutL s 32).length + 1)).length ≤ 140737488351232 := by rw [List.length_drop]; omega
  have HMs := Lib.hid hms
  have hws : (cutL s 32).length ≤ s.length := (List.takeWhile_sublist _).length_le
  have HWs := Lib.hid (Nat.le_trans hws (by omega : s.length ≤ 4100))
  have HE := Lib.hid hE
  have HK := Lib.hid hk
  clear hsz hB0 hlk hwl hml hms hws hE hn hs hk hsp
  obtain ⟨P1, hP1⟩ : ∃ x, x = parseL s := ⟨_, rfl⟩
  obtain ⟨wd, hwd⟩ : ∃ x, x = cutL s 32 := ⟨_, rfl⟩
  rw [← hwd] at HC HLk HWl HWL HML HMs HWs HK
  try rw [← hwd] at HE
  obtain ⟨m, hm⟩ : ∃ x, x = s.drop (wd.length + 1) := ⟨_, rfl⟩
  rw [← hm] at HC HML HMs
  try rw [← hm] at HE
  clear hm hwd hP1
  go_enter Tryd.func14, Tryd.ntmps14
  go_wp2_with fail
  refine HC.out.mono ?_
  rintro e w1 ⟨rfl, hb⟩
  have h1 := HR.out.past hb
  have HF1 := Lib.hid (HF.out w1 h1.below)
  have HK1 := Lib.hid h1
  clear hb h1 HF HC HR
  go_wp2_with fail
  refine HF1.out.mono ?_
  rintro e w2 ⟨r, rfl, hmap, hb, hr⟩
  have h2 := HK1.out.past hb
  have hlk := HLk.out w2 r hmap
  have h3 := (h2.newBlk 47 #[.bool true, .func (.func 33) #[] #[], .func (.func 34) #[] #[]])
  have h3 := h3.turn (a' := Res2 w Z3 #[.int .i64 0, .int .i64 0] (sepT (blkT w2.heap.size 47 #[.bool true, .func (.func 33) #[] #[], .func (.func 34) #[] #[]]) empT)) (by unfold Res2; ac_rfl)
  clear hb hmap h2 HK1 HF1 HLk
  have h4 := h3.newBlk 23 #[.string (sOf wd), .string ⟨#[]⟩, .int .i64 0]
  rw [World.size_alloc] at h4
  have h4 := h4.turn (a' := Res2 w Z3 #[.int .i64 0, .int .i64 0] (sepT (blkT (w2.heap.size + 1) 23 #[.string (sOf wd), .string ⟨#[]⟩, .int .i64 0]) (sepT (blkT w2.heap.size 47 #[.bool true, .func (.func 33) #[] #[], .func (.func 34) #[] #[]]) empT))) (by unfold Res2; ac_rfl)
  have HW := Lib.hid (wrong_1 (sOf m) (by rw [HML.out]; exact HMs.out) ((w2.alloc (.cells #[.bool true, .func (.func 33) #[] #[], .func (.func 34) #[] #[]] 47)).alloc (.cells #[.string (sOf wd), .string ⟨#[]⟩, .int .i64 0] 23)))
  rw [sOf_list] at HW
  have HBl := Lib.hid (badAt_le 1 m)
  have H4 := Lib.hid h4
  clear h3 h4
  obtain ⟨bd, hbd⟩ : ∃ x, x = badAt 1 m := ⟨_, rfl⟩
  rw [← hbd] at HW HBl HE
  clear hbd
  go_wp2_with fail
  refine HW.out.mono ?_
  rintro e w5 ⟨rfl, hb⟩
  have h5 := H4.out.past hb
  have hbk := ((show Lies _ _ _ (sepT _ _) from h5).turn (a' := sepT (blkT (w2.heap.size + 1) 23 #[.string (sOf wd), .string ⟨#[]⟩, .int .i64 0]) (Res2 w Z3 #[.int .i64 0, .int .i64 0] (sepT (blkT w2.heap.size 47 #[.bool true, .func (.func 33) #[] #[], .func (.func 34) #[] #[]]) empT))) (by unfold Res2; ac_rfl)).blk.1
  have hbf := ((show Lies _ _ _ (sepT _ _) from h5).turn (a' := sepT (blkT w2.heap.size 47 #[.bool true, .func (.func 33) #[] #[], .func (.func 34) #[] #[]]) (Res2 w Z3 #[.int .i64 0, .int .i64 0] (sepT (blkT (w2.heap.size + 1) 23 #[.string (sOf wd), .string ⟨#[]⟩, .int .i64 0]) empT))) (by unfold Res2; ac_rfl)).blk.1
  have g0 := hbf.cell 0; have g1 := hbf.cell 1; have g2 := hbf.cell 2
  have k0 := hbk.cell 0; have k1 := hbk.cell 1; have k2 := hbk.cell 2
  simp at g0 g1 g2 k0 k1 k2
  have HKb := Lib.hid hbk
  have H5 := Lib.hid h5
  clear hb h5 hbk hbf HW H4
  by_cases hbad : bd < m.length
  · have hbad' : (bd : Int) < ((sOf m).size : Int) := by rw [HML.out]; omega
    have hww : IntKind.i64.wrap (((sOf wd).size : Int) + 1) = ((sOf wd).size : Int) + 1 := IntWalk.i64_in _ (by have := HWL.out; have := HWs.out; omega)
    have hww2 : IntKind.i64.wrap (((sOf wd).size : Int) + 1 + (bd : Int)) = ((sOf wd).size : Int) + 1 + (bd : Int) := IntWalk.i64_in _ (by have := HWL.out; have := HWs.out; have := HMs.out; omega)
    have HFa := Lib.hid (fault_any 5 (((sOf wd).size : Int) + 1 + (bd : Int)) w5)
    have HE2 : Hid (parseL s = (noC, ((5 : Int), ((sOf wd).size : Int) + 1 + (bd : Int)))) := Lib.hid (by rw [HE.out, if_pos hbad, HWL.out]; simp)
    clear hbad HE
    have HE := HE2
    clear HE2
    go_wp2_with fail
    refine HFa.out.mono ?_
    rintro e wf ⟨rfl, hb⟩
    have hf := H5.out.past hb
    obtain ⟨c2, c3, f2, f3⟩ := res2_cells hf
    have c20 := c2 0; have c21 := c2 1; have c22 := c2 2; have c30 := c3 0; have c31 := c3 1
    have f20 := f2 0; have f21 := f2 1; have f22 := f2 2; have f30 := f3 0; have f31 := f3 1
    simp at c20 c21 c22 c30 c31
    clear c2 c3 f2 f3
    have HZ := Lib.hid (res2_fault 5 (((sOf wd).size : Int) + 1 + (bd : Int)) hf)
    clear hb hf HFa
    go_wp2_with fail
    exact res2_ret rfl rfl rfl (by rw [HE.out]; rfl) (by rw [HE.out]; rfl) HZ.out
  · have hbad' : ¬ (bd : Int) < ((sOf m).size : Int) := by rw [HML.out]; omega
    have HE2 := HE.out
    rw [if_neg hbad] at HE2
    have HRd := Lib.hid (ftext_any m HMs.out HKb.out)
    have h6 := ((show Lies _ _ _ (sepT _ _) from H5.out).turn (a' := sepT (blkT (w2.heap.size + 1) 23 #[.string (sOf wd), .string ⟨#[]⟩, .int .i64 0]) (Res2 w Z3 #[.int .i64 0, .int .i64 0] (sepT (blkT w2.heap.size 47 #[.bool true, .func (.func 33) #[] #[], .func (.func 34) #[] #[]]) empT))) (by unfold Res2; ac_rfl)).setBlk 1 (.string (sOf m))
    have h6 : Lies w.heap.size w (w5.setCell ⟨w2.heap.size + 1, 1, none⟩ (.string (sOf m))) (Res2 w Z3 #[.int .i64 0, .int .i64 0] (sepT (blkT (w2.heap.size + 1) 23 #[.string (sOf wd), .string (sOf m), .int .i64 0]) (sepT (blkT w2.heap.size 47 #[.bool true, .func (.func 33) #[] #[], .func (.func 34) #[] #[]]) empT))) := h6.turn (by unfold Res2; show sepT (blkT (w2.heap.size + 1) 23 #[.string (sOf wd), .string (sOf m), .int .i64 0]) _ = _; ac_rfl)
    have H6 := Lib.hid h6
    have hbk := ((show Lies _ _ _ (sepT _ _) from h6).turn (a' := sepT (blkT (w2.heap.size + 1) 23 #[.string (sOf wd), .string (sOf m), .int .i64 0]) (Res2 w Z3 #[.int .i64 0, .int .i64 0] (sepT (blkT w2.heap.size 47 #[.bool true, .func (.func 33) #[] #[], .func (.func 34) #[] #[]]) empT))) (by unfold Res2; ac_rfl)).blk.1
    have k3 := hbk.cell 0; have k4 := hbk.cell 1; have k5 := hbk.cell 2
    simp at k3 k4 k5
    have hww : IntKind.i64.wrap (((sOf wd).size : Int) + 1) = ((sOf wd).size : Int) + 1 := IntWalk.i64_in _ (by have := HWL.out; have := HWs.out; omega)
    obtain ⟨c2, c3, f2, f3⟩ := res2_cells h6
    have c20 := c2 0; have c21 := c2 1; have c22 := c2 2; have c30 := c3 0; have c31 := c3 1
    have f20 := f2 0; have f21 := f2 1; have f22 := f2 2; have f30 := f3 0; have f31 := f3 1
    simp at c20 c21 c22 c30 c31
    clear c2 c3 f2 f3
    clear hbad HE H5 h6 hbk HKb
    cases hfit : fitsL 1 m with
    | false =>
      have HE : Hid (parseL s = (noC, ((5 : Int), ((sOf wd).size : Int) + 1))) := Lib.hid (by rw [HE2, hfit, if_pos rfl, HWL.out]; simp)
      rw [hfit] at HRd
      clear hfit HE2 c20 c21 c22 c30 c31 f20 f21 f22 f30 f31
      have HFa := Lib.hid (fault_any 5 (((sOf wd).size : Int) + 1) (w5.setCell ⟨w2.heap.size + 1, 1, none⟩ (.string (sOf m))))
      go_wp2_with fail
      refine HRd.out.mono ?_
      rintro e w7 ⟨rfl, rfl⟩
      go_wp2_with fail
      refine HFa.out.mono ?_
      rintro e wf ⟨rfl, hb⟩
      have hf := H6.out.past hb
      obtain ⟨c2, c3, f2, f3⟩ := res2_cells hf
      have c20 := c2 0; have c21 := c2 1; have c22 := c2 2; have c30 := c3 0; have c31 := c3 1
      have f20 := f2 0; have f21 := f2 1; have f22 := f2 2; have f30 := f3 0; have f31 := f3 1
      simp at c20 c21 c22 c30 c31
      clear c2 c3 f2 f3
      have HZ := Lib.hid (res2_fault 5 (((sOf wd).size : Int) + 1) hf)
      clear hb hf HFa
      go_wp2_with fail
      exact res2_ret rfl rfl rfl (by rw [HE.out]; rfl) (by rw [HE.out]; rfl) HZ.out
    | true =>
      have HE : Hid (parseL s = (⟨wd, m, 0⟩, (0, 0))) := Lib.hid (by rw [HE2, hfit, if_neg (by decide)]; rfl)
      rw [hfit] at HRd
      have HZ := Lib.hid (res2_whole (sOf wd) (sOf m) 0 H6.out)
      clear hfit HE2
      go_wp2_with fail
      refine HRd.out.mono ?_
      rintro e w7 ⟨rfl, rfl⟩
      go_wp2_with fail
      exact res2_ret rfl rfl rfl (by rw [HE.out]; rfl) (by rw [HE.out]; rfl) HZ.out
set_option maxRecDepth 100000 in
set_option maxHeartbeats 3200000 in
theorem parse_2 (s : List UInt8) (hs : s.length ≤ 140737488351232) (hn : ¬ 4100 < s.length) (hk : kindL (cutL s 32) = 2) (h2 : (cutL s 32).length < s.length) (w : World) (hsp : Spaces w) : Calls Tryd.prog 14 #[.string (sOf s)] w (RetP s w) := by
  have hE := parse_on hn hk (by decide) h2
  have hsz : (sOf s).size = s.length := sOf_size s
  have h' : ¬ (4100 : Int) < ((sOf s).size : Int) := by omega
  have hB0 : Below w.heap.size w ((w.alloc (.cells Z3 23)).alloc (.cells #[.int .i64 0, .int .i64 0] 31)) := ((Below.refl _ _).alloc (Nat.le_refl _) _).alloc (by simp) _
  have HC := Lib.hid (cut_any s 32 hs ((w.alloc (.cells Z3 23)).alloc (.cells #[.int .i64 0, .int .i64 0] 31)))
  have HF : Hid (∀ W, Below w.heap.size w W → Calls Tryd.prog 22 #[] W (RetForms W)) := Lib.hid fun W hb => forms_any W (spaces_below hsp hb (spaces_pos hsp))
  have HR := Lib.hid (res2_new w)
  have hlk : ∀ (W : World) (r : Nat), W.heap[r]? = some (.map (esA 15) 15) → (Instr.lookup _ (.map (some r)) (.string (sOf (cutL s 32))) true).run Tryd.prog W = .ok (.tuple #[.agg #[.bool true, .func (.func 35) #[] #[], .func (.func 36) #[] #[]], .bool true]) W := fun W r hb => by
    have := look_kind (sOf (cutL s 32)) hb true
    rw [sOf_list, hk] at this
    exact this
  have HLk := Lib.hid hlk
  have HWl := Lib.hid (kind_len (w := cutL s 32))
  unfold cutR at HC
  rw [decide_eq_true h2] at HC
  have hwl : (sOf (cutL s 32)).size = (cutL s 32).length := sOf_size _
  have HWL := Lib.hid hwl
  have hml : (sOf (s.drop ((cutL s 32).length + 1))).size = (s.drop ((cutL s 32).length + 1)).length := sOf_size _
  have HML := Lib.hid hml
  have hms : (s.drop ((cutL s 32).length + 1)).length ≤ 140737488351232 := by rw [List.length_drop]; omega
  have HMs := Lib.hid hms
  have hws : (cutL s 32).length ≤ s.length := (List.takeWhile_sublist _).length_le
  have HWs := Lib.hid (Nat.le_trans hws (by omega : s.length ≤ 4100))
  have HE := Lib.hid hE
  have HK := Lib.hid hk
  clear hsz hB0 hlk hwl hml hms hws hE hn hs hk hsp
  obtain ⟨P1, hP1⟩ : ∃ x, x = parseL s := ⟨_, rfl⟩
  obtain ⟨wd, hwd⟩ : ∃ x, x = cutL s 32 := ⟨_, rfl⟩
  rw [← hwd] at HC HLk HWl HWL HML HMs HWs HK
  try rw [← hwd] at HE
  obtain ⟨m, hm⟩ : ∃ x, x = s.drop (wd.length + 1) := ⟨_, rfl⟩
  rw [← hm] at HC HML HMs
  try rw [← hm] at HE
  clear hm hwd hP1
  go_enter Tryd.func14, Tryd.ntmps14
  go_wp2_with fail
  refine HC.out.mono ?_
  rintro e w1 ⟨rfl, hb⟩
  have h1 := HR.out.past hb
  have HF1 := Lib.hid (HF.out w1 h1.below)
  have HK1 := Lib.hid h1
  clear hb h1 HF HC HR
  go_wp2_with fail
  refine HF1.out.mono ?_
  rintro e w2 ⟨r, rfl, hmap, hb, hr⟩
  have h2 := HK1.out.past hb
  have hlk := HLk.out w2 r hmap
  have h3 := (h2.newBlk 47 #[.bool true, .func (.func 35) #[] #[], .func (.func 36) #[] #[]])
  have h3 := h3.turn (a' := Res2 w Z3 #[.int .i64 0, .int .i64 0] (sepT (blkT w2.heap.size 47 #[.bool true, .func (.func 35) #[] #[], .func (.func 36) #[] #[]]) empT)) (by unfold Res2; ac_rfl)
  clear hb hmap h2 HK1 HF1 HLk
  have h4 := h3.newBlk 23 #[.string (sOf wd), .string ⟨#[]⟩, .int .i64 0]
  rw [World.size_alloc] at h4
  have h4 := h4.turn (a' := Res2 w Z3 #[.int .i64 0, .int .i64 0] (sepT (blkT (w2.heap.size + 1) 23 #[.string (sOf wd), .string ⟨#[]⟩, .int .i64 0]) (sepT (blkT w2.heap.size 47 #[.bool true, .func (.func 35) #[] #[], .func (.func 36) #[] #[]]) empT))) (by unfold Res2; ac_rfl)
  have HW := Lib.hid (wrong_2 (sOf m) (by rw [HML.out]; exact HMs.out) ((w2.alloc (.cells #[.bool true, .func (.func 35) #[] #[], .func (.func 36) #[] #[]] 47)).alloc (.cells #[.string (sOf wd), .string ⟨#[]⟩, .int .i64 0] 23)))
  rw [sOf_list] at HW
  have HBl := Lib.hid (badAt_le 2 m)
  have H4 := Lib.hid h4
  clear h3 h4
  obtain ⟨bd, hbd⟩ : ∃ x, x = badAt 2 m := ⟨_, rfl⟩
  rw [← hbd] at HW HBl HE
  clear hbd
  go_wp2_with fail
  refine HW.out.mono ?_
  rintro e w5 ⟨rfl, hb⟩
  have h5 := H4.out.past hb
  have hbk := ((show Lies _ _ _ (sepT _ _) from h5).turn (a' := sepT (blkT (w2.heap.size + 1) 23 #[.string (sOf wd), .string ⟨#[]⟩, .int .i64 0]) (Res2 w Z3 #[.int .i64 0, .int .i64 0] (sepT (blkT w2.heap.size 47 #[.bool true, .func (.func 35) #[] #[], .func (.func 36) #[] #[]]) empT))) (by unfold Res2; ac_rfl)).blk.1
  have hbf := ((show Lies _ _ _ (sepT _ _) from h5).turn (a' := sepT (blkT w2.heap.size 47 #[.bool true, .func (.func 35) #[] #[], .func (.func 36) #[] #[]]) (Res2 w Z3 #[.int .i64 0, .int .i64 0] (sepT (blkT (w2.heap.size + 1) 23 #[.string (sOf wd), .string ⟨#[]⟩, .int .i64 0]) empT))) (by unfold Res2; ac_rfl)).blk.1
  have g0 := hbf.cell 0; have g1 := hbf.cell 1; have g2 := hbf.cell 2
  have k0 := hbk.cell 0; have k1 := hbk.cell 1; have k2 := hbk.cell 2
  simp at g0 g1 g2 k0 k1 k2
  have HKb := Lib.hid hbk
  have H5 := Lib.hid h5
  clear hb h5 hbk hbf HW H4
  by_cases hbad : bd < m.length
  · have hbad' : (bd : Int) < ((sOf m).size : Int) := by rw [HML.out]; omega
    have hww : IntKind.i64.wrap (((sOf wd).size : Int) + 1) = ((sOf wd).size : Int) + 1 := IntWalk.i64_in _ (by have := HWL.out; have := HWs.out; omega)
    have hww2 : IntKind.i64.wrap (((sOf wd).size : Int) + 1 + (bd : Int)) = ((sOf wd).size : Int) + 1 + (bd : Int) := IntWalk.i64_in _ (by have := HWL.out; have := HWs.out; have := HMs.out; omega)
    have HFa := Lib.hid (fault_any 5 (((sOf wd).size : Int) + 1 + (bd : Int)) w5)
    have HE2 : Hid (parseL s = (noC, ((5 : Int), ((sOf wd).size : Int) + 1 + (bd : Int)))) := Lib.hid (by rw [HE.out, if_pos hbad, HWL.out]; simp)
    clear hbad HE
    have HE := HE2
    clear HE2
    go_wp2_with fail
    refine HFa.out.mono ?_
    rintro e wf ⟨rfl, hb⟩
    have hf := H5.out.past hb
    obtain ⟨c2, c3, f2, f3⟩ := res2_cells hf
    have c20 := c2 0; have c21 := c2 1; have c22 := c2 2; have c30 := c3 0; have c31 := c3 1
    have f20 := f2 0; have f21 := f2 1; have f22 := f2 2; have f30 := f3 0; have f31 := f3 1
    simp at c20 c21 c22 c30 c31
    clear c2 c3 f2 f3
    have HZ := Lib.hid (res2_fault 5 (((sOf wd).size : Int) + 1 + (bd : Int)) hf)
    clear hb hf HFa
    go_wp2_with fail
    exact res2_ret rfl rfl rfl (by rw [HE.out]; rfl) (by rw [HE.out]; rfl) HZ.out
  · have hbad' : ¬ (bd : Int) < ((sOf m).size : Int) := by rw [HML.out]; omega
    have HE2 := HE.out
    rw [if_neg hbad] at HE2
    have HRd := Lib.hid (fhex_any m HMs.out HKb.out)
    have h6 := ((show Lies _ _ _ (sepT _ _) from H5.out).turn (a' := sepT (blkT (w2.heap.size + 1) 23 #[.string (sOf wd), .string ⟨#[]⟩, .int .i64 0]) (Res2 w Z3 #[.int .i64 0, .int .i64 0] (sepT (blkT w2.heap.size 47 #[.bool true, .func (.func 35) #[] #[], .func (.func 36) #[] #[]]) empT))) (by unfold Res2; ac_rfl)).setBlk 1 (.string (sOf m))
    have h6 : Lies w.heap.size w (w5.setCell ⟨w2.heap.size + 1, 1, none⟩ (.string (sOf m))) (Res2 w Z3 #[.int .i64 0, .int .i64 0] (sepT (blkT (w2.heap.size + 1) 23 #[.string (sOf wd), .string (sOf m), .int .i64 0]) (sepT (blkT w2.heap.size 47 #[.bool true, .func (.func 35) #[] #[], .func (.func 36) #[] #[]]) empT))) := h6.turn (by unfold Res2; show sepT (blkT (w2.heap.size + 1) 23 #[.string (sOf wd), .string (sOf m), .int .i64 0]) _ = _; ac_rfl)
    have H6 := Lib.hid h6
    have hbk := ((show Lies _ _ _ (sepT _ _) from h6).turn (a' := sepT (blkT (w2.heap.size + 1) 23 #[.string (sOf wd), .string (sOf m), .int .i64 0]) (Res2 w Z3 #[.int .i64 0, .int .i64 0] (sepT (blkT w2.heap.size 47 #[.bool true, .func (.func 35) #[] #[], .func (.func 36) #[] #[]]) empT))) (by unfold Res2; ac_rfl)).blk.1
    have k3 := hbk.cell 0; have k4 := hbk.cell 1; have k5 := hbk.cell 2
    simp at k3 k4 k5
    have hww : IntKind.i64.wrap (((sOf wd).size : Int) + 1) = ((sOf wd).size : Int) + 1 := IntWalk.i64_in _ (by have := HWL.out; have := HWs.out; omega)
    obtain ⟨c2, c3, f2, f3⟩ := res2_cells h6
    have c20 := c2 0; have c21 := c2 1; have c22 := c2 2; have c30 := c3 0; have c31 := c3 1
    have f20 := f2 0; have f21 := f2 1; have f22 := f2 2; have f30 := f3 0; have f31 := f3 1
    simp at c20 c21 c22 c30 c31
    clear c2 c3 f2 f3
    clear hbad HE H5 h6 hbk HKb
    cases hfit : fitsL 2 m with
    | false =>
      have HE : Hid (parseL s = (noC, ((5 : Int), ((sOf wd).size : Int) + 1))) := Lib.hid (by rw [HE2, hfit, if_pos rfl, HWL.out]; simp)
      rw [hfit] at HRd
      clear hfit HE2 c20 c21 c22 c30 c31 f20 f21 f22 f30 f31
      have HFa := Lib.hid (fault_any 5 (((sOf wd).size : Int) + 1) (w5.setCell ⟨w2.heap.size + 1, 1, none⟩ (.string (sOf m))))
      go_wp2_with fail
      refine HRd.out.mono ?_
      rintro e w7 ⟨rfl, rfl⟩
      go_wp2_with fail
      refine HFa.out.mono ?_
      rintro e wf ⟨rfl, hb⟩
      have hf := H6.out.past hb
      obtain ⟨c2, c3, f2, f3⟩ := res2_cells hf
      have c20 := c2 0; have c21 := c2 1; have c22 := c2 2; have c30 := c3 0; have c31 := c3 1
      have f20 := f2 0; have f21 := f2 1; have f22 := f2 2; have f30 := f3 0; have f31 := f3 1
      simp at c20 c21 c22 c30 c31
      clear c2 c3 f2 f3
      have HZ := Lib.hid (res2_fault 5 (((sOf wd).size : Int) + 1) hf)
      clear hb hf HFa
      go_wp2_with fail
      exact res2_ret rfl rfl rfl (by rw [HE.out]; rfl) (by rw [HE.out]; rfl) HZ.out
    | true =>
      have HE : Hid (parseL s = (⟨wd, m, 0⟩, (0, 0))) := Lib.hid (by rw [HE2, hfit, if_neg (by decide)]; rfl)
      rw [hfit] at HRd
      have HZ := Lib.hid (res2_whole (sOf wd) (sOf m) 0 H6.out)
      clear hfit HE2
      go_wp2_with fail
      refine HRd.out.mono ?_
      rintro e w7 ⟨rfl, rfl⟩
      go_wp2_with fail
      exact res2_ret rfl rfl rfl (by rw [HE.out]; rfl) (by rw [HE.out]; rfl) HZ.out
set_option maxRecDepth 100000 in
set_option maxHeartbeats 3200000 in
theorem parse_3 (s : List UInt8) (hs : s.length ≤ 140737488351232) (hn : ¬ 4100 < s.length) (hk : kindL (cutL s 32) = 3) (h2 : (cutL s 32).length < s.length) (w : World) (hsp : Spaces w) : Calls Tryd.prog 14 #[.string (sOf s)] w (RetP s w) := by
  have hE := parse_on hn hk (by decide) h2
  have hsz : (sOf s).size = s.length := sOf_size s
  have h' : ¬ (4100 : Int) < ((sOf s).size : Int) := by omega
  have hB0 : Below w.heap.size w ((w.alloc (.cells Z3 23)).alloc (.cells #[.int .i64 0, .int .i64 0] 31)) := ((Below.refl _ _).alloc (Nat.le_refl _) _).alloc (by simp) _
  have HC := Lib.hid (cut_any s 32 hs ((w.alloc (.cells Z3 23)).alloc (.cells #[.int .i64 0, .int .i64 0] 31)))
  have HF : Hid (∀ W, Below w.heap.size w W → Calls Tryd.prog 22 #[] W (RetForms W)) := Lib.hid fun W hb => forms_any W (spaces_below hsp hb (spaces_pos hsp))
  have HR := Lib.hid (res2_new w)
  have hlk : ∀ (W : World) (r : Nat), W.heap[r]? = some (.map (esA 15) 15) → (Instr.lookup _ (.map (some r)) (.string (sOf (cutL s 32))) true).run Tryd.prog W = .ok (.tuple #[.agg #[.bool true, .func (.func 37) #[] #[], .func (.func 38) #[] #[]], .bool true]) W := fun W r hb => by
    have := look_kind (sOf (cutL s 32)) hb true
    rw [sOf_list, hk] at this
    exact this
  have HLk := Lib.hid hlk
  have HWl := Lib.hid (kind_len (w := cutL s 32))
  unfold cutR at HC
  rw [decide_eq_true h2] at HC
  have hwl : (sOf (cutL s 32)).size = (cutL s 32).length := sOf_size _
  have HWL := Lib.hid hwl
  have hml : (sOf (s.drop ((cutL s 32).length + 1))).size = (s.drop ((cutL s 32).length + 1)).length := sOf_size _
  have HML := Lib.hid hml
  have hms : (s.drop ((cutL s 32).length + 1)).length ≤ 140737488351232 := by rw [List.length_drop]; omega
  have HMs := Lib.hid hms
  have hws : (cutL s 32).length ≤ s.length := (List.takeWhile_sublist _).length_le
  have HWs := Lib.hid (Nat.le_trans hws (by omega : s.length ≤ 4100))
  have HE := Lib.hid hE
  have HK := Lib.hid hk
  clear hsz hB0 hlk hwl hml hms hws hE hn hs hk hsp
  obtain ⟨P1, hP1⟩ : ∃ x, x = parseL s := ⟨_, rfl⟩
  obtain ⟨wd, hwd⟩ : ∃ x, x = cutL s 32 := ⟨_, rfl⟩
  rw [← hwd] at HC HLk HWl HWL HML HMs HWs HK
  try rw [← hwd] at HE
  obtain ⟨m, hm⟩ : ∃ x, x = s.drop (wd.length + 1) := ⟨_, rfl⟩
  rw [← hm] at HC HML HMs
  try rw [← hm] at HE
  clear hm hwd hP1
  go_enter Tryd.func14, Tryd.ntmps14
  go_wp2_with fail
  refine HC.out.mono ?_
  rintro e w1 ⟨rfl, hb⟩
  have h1 := HR.out.past hb
  have HF1 := Lib.hid (HF.out w1 h1.below)
  have HK1 := Lib.hid h1
  clear hb h1 HF HC HR
  go_wp2_with fail
  refine HF1.out.mono ?_
  rintro e w2 ⟨r, rfl, hmap, hb, hr⟩
  have h2 := HK1.out.past hb
  have hlk := HLk.out w2 r hmap
  have h3 := (h2.newBlk 47 #[.bool true, .func (.func 37) #[] #[], .func (.func 38) #[] #[]])
  have h3 := h3.turn (a' := Res2 w Z3 #[.int .i64 0, .int .i64 0] (sepT (blkT w2.heap.size 47 #[.bool true, .func (.func 37) #[] #[], .func (.func 38) #[] #[]]) empT)) (by unfold Res2; ac_rfl)
  clear hb hmap h2 HK1 HF1 HLk
  have h4 := h3.newBlk 23 #[.string (sOf wd), .string ⟨#[]⟩, .int .i64 0]
  rw [World.size_alloc] at h4
  have h4 := h4.turn (a' := Res2 w Z3 #[.int .i64 0, .int .i64 0] (sepT (blkT (w2.heap.size + 1) 23 #[.string (sOf wd), .string ⟨#[]⟩, .int .i64 0]) (sepT (blkT w2.heap.size 47 #[.bool true, .func (.func 37) #[] #[], .func (.func 38) #[] #[]]) empT))) (by unfold Res2; ac_rfl)
  have HW := Lib.hid (wrong_3 (sOf m) (by rw [HML.out]; exact HMs.out) ((w2.alloc (.cells #[.bool true, .func (.func 37) #[] #[], .func (.func 38) #[] #[]] 47)).alloc (.cells #[.string (sOf wd), .string ⟨#[]⟩, .int .i64 0] 23)))
  rw [sOf_list] at HW
  have HBl := Lib.hid (badAt_le 3 m)
  have H4 := Lib.hid h4
  clear h3 h4
  obtain ⟨bd, hbd⟩ : ∃ x, x = badAt 3 m := ⟨_, rfl⟩
  rw [← hbd] at HW HBl HE
  clear hbd
  go_wp2_with fail
  refine HW.out.mono ?_
  rintro e w5 ⟨rfl, hb⟩
  have h5 := H4.out.past hb
  have hbk := ((show Lies _ _ _ (sepT _ _) from h5).turn (a' := sepT (blkT (w2.heap.size + 1) 23 #[.string (sOf wd), .string ⟨#[]⟩, .int .i64 0]) (Res2 w Z3 #[.int .i64 0, .int .i64 0] (sepT (blkT w2.heap.size 47 #[.bool true, .func (.func 37) #[] #[], .func (.func 38) #[] #[]]) empT))) (by unfold Res2; ac_rfl)).blk.1
  have hbf := ((show Lies _ _ _ (sepT _ _) from h5).turn (a' := sepT (blkT w2.heap.size 47 #[.bool true, .func (.func 37) #[] #[], .func (.func 38) #[] #[]]) (Res2 w Z3 #[.int .i64 0, .int .i64 0] (sepT (blkT (w2.heap.size + 1) 23 #[.string (sOf wd), .string ⟨#[]⟩, .int .i64 0]) empT))) (by unfold Res2; ac_rfl)).blk.1
  have g0 := hbf.cell 0; have g1 := hbf.cell 1; have g2 := hbf.cell 2
  have k0 := hbk.cell 0; have k1 := hbk.cell 1; have k2 := hbk.cell 2
  simp at g0 g1 g2 k0 k1 k2
  have HKb := Lib.hid hbk
  have H5 := Lib.hid h5
  clear hb h5 hbk hbf HW H4
  by_cases hbad : bd < m.length
  · have hbad' : (bd : Int) < ((sOf m).size : Int) := by rw [HML.out]; omega
    have hww : IntKind.i64.wrap (((sOf wd).size : Int) + 1) = ((sOf wd).size : Int) + 1 := IntWalk.i64_in _ (by have := HWL.out; have := HWs.out; omega)
    have hww2 : IntKind.i64.wrap (((sOf wd).size : Int) + 1 + (bd : Int)) = ((sOf wd).size : Int) + 1 + (bd : Int) := IntWalk.i64_in _ (by have := HWL.out; have := HWs.out; have := HMs.out; omega)
    have HFa := Lib.hid (fault_any 5 (((sOf wd).size : Int) + 1 + (bd : Int)) w5)
    have HE2 : Hid (parseL s = (noC, ((5 : Int), ((sOf wd).size : Int) + 1 + (bd : Int)))) := Lib.hid (by rw [HE.out, if_pos hbad, HWL.out]; simp)
    clear hbad HE
    have HE := HE2
    clear HE2
    go_wp2_with fail
    refine HFa.out.mono ?_
    rintro e wf ⟨rfl, hb⟩
    have hf := H5.out.past hb
    obtain ⟨c2, c3, f2, f3⟩ := res2_cells hf
    have c20 := c2 0; have c21 := c2 1; have c22 := c2 2; have c30 := c3 0; have c31 := c3 1
    have f20 := f2 0; have f21 := f2 1; have f22 := f2 2; have f30 := f3 0; have f31 := f3 1
    simp at c20 c21 c22 c30 c31
    clear c2 c3 f2 f3
    have HZ := Lib.hid (res2_fault 5 (((sOf wd).size : Int) + 1 + (bd : Int)) hf)
    clear hb hf HFa
    go_wp2_with fail
    exact res2_ret rfl rfl rfl (by rw [HE.out]; rfl) (by rw [HE.out]; rfl) HZ.out
  · have hbad' : ¬ (bd : Int) < ((sOf m).size : Int) := by rw [HML.out]; omega
    have HE2 := HE.out
    rw [if_neg hbad] at HE2
    have HRd := Lib.hid (fnum_any m HMs.out HKb.out)
    have h6 := ((show Lies _ _ _ (sepT _ _) from H5.out).turn (a' := sepT (blkT (w2.heap.size + 1) 23 #[.string (sOf wd), .string ⟨#[]⟩, .int .i64 0]) (Res2 w Z3 #[.int .i64 0, .int .i64 0] (sepT (blkT w2.heap.size 47 #[.bool true, .func (.func 37) #[] #[], .func (.func 38) #[] #[]]) empT))) (by unfold Res2; ac_rfl)).setBlk 2 (.int .i64 (readV m).1)
    have h6 : Lies w.heap.size w (w5.setCell ⟨w2.heap.size + 1, 2, none⟩ (.int .i64 (readV m).1)) (Res2 w Z3 #[.int .i64 0, .int .i64 0] (sepT (blkT (w2.heap.size + 1) 23 #[.string (sOf wd), .string ⟨#[]⟩, .int .i64 (readV m).1]) (sepT (blkT w2.heap.size 47 #[.bool true, .func (.func 37) #[] #[], .func (.func 38) #[] #[]]) empT))) := h6.turn (by unfold Res2; show sepT (blkT (w2.heap.size + 1) 23 #[.string (sOf wd), .string ⟨#[]⟩, .int .i64 (readV m).1]) _ = _; ac_rfl)
    have H6 := Lib.hid h6
    have hbk := ((show Lies _ _ _ (sepT _ _) from h6).turn (a' := sepT (blkT (w2.heap.size + 1) 23 #[.string (sOf wd), .string ⟨#[]⟩, .int .i64 (readV m).1]) (Res2 w Z3 #[.int .i64 0, .int .i64 0] (sepT (blkT w2.heap.size 47 #[.bool true, .func (.func 37) #[] #[], .func (.func 38) #[] #[]]) empT))) (by unfold Res2; ac_rfl)).blk.1
    have k3 := hbk.cell 0; have k4 := hbk.cell 1; have k5 := hbk.cell 2
    simp at k3 k4 k5
    have hww : IntKind.i64.wrap (((sOf wd).size : Int) + 1) = ((sOf wd).size : Int) + 1 := IntWalk.i64_in _ (by have := HWL.out; have := HWs.out; omega)
    obtain ⟨c2, c3, f2, f3⟩ := res2_cells h6
    have c20 := c2 0; have c21 := c2 1; have c22 := c2 2; have c30 := c3 0; have c31 := c3 1
    have f20 := f2 0; have f21 := f2 1; have f22 := f2 2; have f30 := f3 0; have f31 := f3 1
    simp at c20 c21 c22 c30 c31
    clear c2 c3 f2 f3
    clear hbad HE H5 h6 hbk HKb
    cases hfit : fitsL 3 m with
    | false =>
      have HE : Hid (parseL s = (noC, ((5 : Int), ((sOf wd).size : Int) + 1))) := Lib.hid (by rw [HE2, hfit, if_pos rfl, HWL.out]; simp)
      rw [hfit] at HRd
      clear hfit HE2 c20 c21 c22 c30 c31 f20 f21 f22 f30 f31
      have HFa := Lib.hid (fault_any 5 (((sOf wd).size : Int) + 1) (w5.setCell ⟨w2.heap.size + 1, 2, none⟩ (.int .i64 (readV m).1)))
      go_wp2_with fail
      refine HRd.out.mono ?_
      rintro e w7 ⟨rfl, rfl⟩
      go_wp2_with fail
      refine HFa.out.mono ?_
      rintro e wf ⟨rfl, hb⟩
      have hf := H6.out.past hb
      obtain ⟨c2, c3, f2, f3⟩ := res2_cells hf
      have c20 := c2 0; have c21 := c2 1; have c22 := c2 2; have c30 := c3 0; have c31 := c3 1
      have f20 := f2 0; have f21 := f2 1; have f22 := f2 2; have f30 := f3 0; have f31 := f3 1
      simp at c20 c21 c22 c30 c31
      clear c2 c3 f2 f3
      have HZ := Lib.hid (res2_fault 5 (((sOf wd).size : Int) + 1) hf)
      clear hb hf HFa
      go_wp2_with fail
      exact res2_ret rfl rfl rfl (by rw [HE.out]; rfl) (by rw [HE.out]; rfl) HZ.out
    | true =>
      have HE : Hid (parseL s = (⟨wd, [], (readV m).1⟩, (0, 0))) := Lib.hid (by rw [HE2, hfit, if_neg (by decide)]; rfl)
      rw [hfit] at HRd
      have HZ := Lib.hid (res2_whole (sOf wd) ⟨#[]⟩ (readV m).1 H6.out)
      clear hfit HE2
      go_wp2_with fail
      refine HRd.out.mono ?_
      rintro e w7 ⟨rfl, rfl⟩
      go_wp2_with fail
      exact res2_ret rfl rfl rfl (by rw [HE.out]; rfl) (by rw [HE.out]; rfl) HZ.out
theorem parse_any (s : List UInt8) (hs : s.length ≤ 140737488351232) (w : World) (hsp : Spaces w) : Calls Tryd.prog 14 #[.string (sOf s)] w (RetP s w) := by
  by_cases hn : 4100 < s.length
  · exact parse_long s hs hn w
  · have hk := kind_le (cutL s 32)
    have hl : (cutL s 32).length ≤ s.length := (List.takeWhile_sublist _).length_le
    have hc : kindL (cutL s 32) = 0 ∨ kindL (cutL s 32) = 1 ∨ kindL (cutL s 32) = 2 ∨ kindL (cutL s 32) = 3 ∨ kindL (cutL s 32) = 4 := by omega
    rcases hc with h | h | h | h | h
    · exact parse_0 s hs hn h w hsp
    · by_cases h2 : (cutL s 32).length < s.length
      · exact parse_1 s hs hn h h2 w hsp
      · exact parse_1s s hs hn h h2 w hsp
    · by_cases h2 : (cutL s 32).length < s.length
      · exact parse_2 s hs hn h h2 w hsp
      · exact parse_2s s hs hn h h2 w hsp
    · by_cases h2 : (cutL s 32).length < s.length
      · exact parse_3 s hs hn h h2 w hsp
      · exact parse_3s s hs hn h h2 w hsp
    · by_cases h2 : (cutL s 32).length < s.length
      · exact parse_4s s hs hn h h2 w hsp
      · exact parse_4b s hs hn h (by omega) w hsp
end Go.Proofs.YtclejidkahpemaaDoor
