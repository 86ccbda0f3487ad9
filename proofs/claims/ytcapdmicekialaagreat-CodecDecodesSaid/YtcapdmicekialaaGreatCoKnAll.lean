/- Merged by merge.py: CoKn, CoLit, CoAw. -/
import Derived.Test.YtcapdmicekialaaGreatCoFormAll
import Derived.Test.YtcapdmicekialaaGreatCoDec
import Derived.Test.YtcapdmicekialaaGreatCoSameAll
import Derived.Test.YtcapdmicekialaaGreatOcKnown
/- The law's helpers: decodes, little, awake, CodecKnown. -/
namespace Go.Proofs.YtcapdmicekialaaGreat
open Go.RowKit
set_option linter.unusedVariables false
set_option linter.unusedSimpArgs false
attribute [local go_sem] Oper.semAt_some run_store_func run_store_nilFunc
theorem below_alloc (w : World) (o : Obj) : Below w.heap.size w (w.alloc o) := (Below.refl w.heap.size w).alloc (Nat.le_refl _) o
section
variable {W : World}
/-- Decode, of what reads as bytes: a module that reads as it should. -/
theorem dec_reads (A : Option Addr) (c : Nat) (bs : List UInt8) (hx : Reads W W.heap.size 1 A bs.length (bytesV bs)) (hl : bs.length ≤ 140737488355328) :
    Calls Tryz.prog 14 #[.slice A bs.length c] W fun e w' => ∃ (a b d f : Option Addr) (k1 k2 k3 k4 : Nat), e = .returned (.tuple #[.agg #[.slice a (decM bs).1.table.length k1, .slice b (decM bs).1.sites.length k2, .slice d (decM bs).1.pool.length k3, .slice f (decM bs).1.funcs.length k4], .agg #[.int .i64 (decM bs).2.1, .int .i64 (decM bs).2.2]]) ∧
      mdK.tells w' [.slice a (decM bs).1.table.length k1, .slice b (decM bs).1.sites.length k2, .slice d (decM bs).1.pool.length k3, .slice f (decM bs).1.funcs.length k4] (decM bs).1 ∧ Below W.heap.size W w' := by
  refine (dec_any A c bs hx hl (Lies.nil W)).mono ?_
  rintro e w' ⟨cs, he, h⟩
  obtain ⟨M, h1, h2⟩ := mdT.told h
  have h3 := Kind.one h2 ⟨_, h1⟩
  obtain ⟨t, s, p, f, rfl, k1, k2, k3, k4⟩ := h3
  obtain ⟨a1, c1, rfl, _⟩ := Kind.sl_form k1
  obtain ⟨a2, c2, rfl, _⟩ := Kind.sl_form k2
  obtain ⟨a3, c3, rfl, _⟩ := Kind.sl_form k3
  obtain ⟨a4, c4, rfl, _⟩ := Kind.sl_form k4
  exact ⟨_, _, _, _, _, _, _, _, he, ⟨_, _, _, _, rfl, k1, k2, k3, k4⟩, h.below⟩
set_option maxRecDepth 100000 in
set_option maxHeartbeats 1600000 in
theorem decodes_any (A : Option Addr) (c : Nat) (bs : List UInt8) (cs : List Value) (want : Md) (err at_ : Int) (hx : Reads W W.heap.size 1 A bs.length (bytesV bs)) (hl : bs.length ≤ 140737488355328) (hw : mdK.tells W cs want) :
    Calls Tryz.prog 20 #[.slice A bs.length c, .agg cs.toArray, .int .i64 err, .int .i64 at_] W (RetB (decide (decM bs = (want, (err, at_)))) W) := by
  have HW := Lib.hid hw
  have h0 := hw
  obtain ⟨t, s, p, f, rfl, k1, k2, k3, k4⟩ := h0
  obtain ⟨a1, c1, rfl, _⟩ := Kind.sl_form k1
  obtain ⟨a2, c2, rfl, _⟩ := Kind.sl_form k2
  obtain ⟨a3, c3, rfl, _⟩ := Kind.sl_form k3
  obtain ⟨a4, c4, rfl, _⟩ := Kind.sl_form k4
  have hb := (Below.refl W.heap.size W).alloc (Nat.le_refl _) (.cells #[.slice a1 want.table.length c1, .slice a2 want.sites.length c2, .slice a3 want.pool.length c3, .slice a4 want.funcs.length c4] 27)
  have HB := Lib.hid hb
  have HC := Lib.hid (dec_reads A c bs ((hx.below hb).more hb.size) hl)
  generalize hD : decM bs = D at *
  obtain ⟨m, f1, f2⟩ := D
  have hbk := Blk.new W 27 #[.slice a1 want.table.length c1, .slice a2 want.sites.length c2, .slice a3 want.pool.length c3, .slice a4 want.funcs.length c4]
  have HBk := Lib.hid hbk
  clear hx hw hb hD k1 k2 k3 k4 hbk
  show Calls Tryz.prog 20 #[.slice A bs.length c, .agg #[.slice a1 want.table.length c1, .slice a2 want.sites.length c2, .slice a3 want.pool.length c3, .slice a4 want.funcs.length c4], .int .i64 err, .int .i64 at_] W _
  go_enter Tryz.func20, Tryz.ntmps20
  go_wp2_with fail
  refine HC.out.mono ?_
  rintro e w1 ⟨d1, d2, d3, d4, q1, q2, q3, q4, rfl, ht, hb1⟩
  have HT := Lib.hid ht
  have HB1 := Lib.hid (HB.out.trans (hb1.mono HB.out.size))
  have hbk := HBk.out.below hb1 (by simp)
  have e0 : ∀ o o', ((w1.alloc o).alloc o').cell? ⟨W.heap.size, 0, none⟩ = some (.slice a1 want.table.length c1) := fun o o' => cell_alloc (cell_alloc (hbk.cell 0) o) o'
  have e1 : ∀ o o', ((w1.alloc o).alloc o').cell? ⟨W.heap.size, 1, none⟩ = some (.slice a2 want.sites.length c2) := fun o o' => cell_alloc (cell_alloc (hbk.cell 1) o) o'
  have e2 : ∀ o o', ((w1.alloc o).alloc o').cell? ⟨W.heap.size, 2, none⟩ = some (.slice a3 want.pool.length c3) := fun o o' => cell_alloc (cell_alloc (hbk.cell 2) o) o'
  have e3 : ∀ o o', ((w1.alloc o).alloc o').cell? ⟨W.heap.size, 3, none⟩ = some (.slice a4 want.funcs.length c4) := fun o o' => cell_alloc (cell_alloc (hbk.cell 3) o) o'
  have HS := Lib.hid (fun o o' => sameMd_any (Kind.below (Kind.below ht (below_alloc w1 o)) (below_alloc (w1.alloc o) o')) (Kind.below (Kind.below (Kind.below HW.out HB1.out) (below_alloc w1 o)) (below_alloc (w1.alloc o) o')))
  have HB2 : Hid (∀ o o' w', Below ((w1.alloc o).alloc o').heap.size ((w1.alloc o).alloc o') w' → Below W.heap.size W w') := Lib.hid fun o o' w' h => HB1.out.trans ((((below_alloc w1 o).trans ((below_alloc (w1.alloc o) o').mono (by simp))).trans (h.mono (by simp; omega))).mono HB1.out.size)
  have HF : Hid (∀ o w', Below ((w1.alloc o).alloc (.cells #[.int .i64 f1, .int .i64 f2] 40)).heap.size ((w1.alloc o).alloc (.cells #[.int .i64 f1, .int .i64 f2] 40)) w' → w'.cell? ⟨w1.heap.size + 1, 0, none⟩ = some (.int .i64 f1) ∧ w'.cell? ⟨w1.heap.size + 1, 1, none⟩ = some (.int .i64 f2)) := Lib.hid fun o w' h => by
    have hn := Blk.new (w1.alloc o) 40 #[.int .i64 f1, .int .i64 f2]
    rw [show (w1.alloc o).heap.size = w1.heap.size + 1 by simp] at hn
    exact ⟨cell_below (hn.cell 0) h, cell_below (hn.cell 1) h⟩
  clear ht hb1 HC hbk HBk
  go_wp2_with fail
  refine (HS.out _ _).mono ?_
  rintro e w2 ⟨rfl, hb2⟩
  have HB3 := Lib.hid (HB2.out _ _ _ hb2)
  obtain ⟨g0, g1⟩ := HF.out _ _ hb2
  clear hb2 HS HB2 HF e0 e1 e2 e3
  by_cases hm : m = want
  · rw [decide_eq_true hm]
    by_cases h1 : f1 = err
    · by_cases h2 : f2 = at_
      · have HE : Hid (decide ((m, f1, f2) = (want, err, at_)) = true) := Lib.hid (by rw [hm, h1, h2]; simp)
        subst h1 h2
        clear hm
        go_wp2
        go_ret
        exact ⟨by rw [HE.out]; rfl, HB3.out⟩
      · have HE : Hid (decide ((m, f1, f2) = (want, err, at_)) = false) := Lib.hid (by simp [h2])
        subst h1
        clear hm
        go_wp2
        go_ret
        exact ⟨by rw [HE.out]; first | rfl | simp, HB3.out⟩
    · have HE : Hid (decide ((m, f1, f2) = (want, err, at_)) = false) := Lib.hid (by simp [h1])
      clear hm
      go_wp2
      go_ret
      exact ⟨by rw [HE.out]; first | rfl | simp, HB3.out⟩
  · rw [decide_eq_false hm]
    have HE : Hid (decide ((m, f1, f2) = (want, err, at_)) = false) := Lib.hid (by simp [hm])
    clear hm
    go_wp2
    go_ret
    exact ⟨by rw [HE.out]; rfl, HB3.out⟩
end
end Go.Proofs.YtcapdmicekialaaGreat
/- little. -/
namespace Go.Proofs.YtcapdmicekialaaGreat
open Go.RowKit
set_option linter.unusedVariables false
set_option linter.unusedSimpArgs false
attribute [local go_sem] Oper.semAt_some run_store_func run_store_nilFunc
def litM : Md := ⟨[], [], [⟨#[65]⟩], [⟨⟨#[]⟩, ⟨#[109, 97, 105, 110]⟩, [], [⟨1, -2, 0, 0⟩]⟩]⟩
def litB : List UInt8 := [67, 1, 0, 0, 1, 1, 65, 1, 0, 4, 109, 97, 105, 110, 0, 1, 1, 1, 1, 0, 0, 0, 0]
def LitE (W : World) (e : Ending) (w' : World) : Prop := ∃ p q b : Nat, e = .returned (.tuple #[.agg #[.slice none 0 0, .slice none 0 0, .slice (some ⟨p, 0, none⟩) 1 1, .slice (some ⟨q, 0, none⟩) 1 1], .slice (some ⟨b, 0, none⟩) 23 23]) ∧
  mdK.tells w' [.slice none 0 0, .slice none 0 0, .slice (some ⟨p, 0, none⟩) 1 1, .slice (some ⟨q, 0, none⟩) 1 1] litM ∧ Reads w' w'.heap.size 1 (some ⟨b, 0, none⟩) 23 (bytesV litB) ∧ Below W.heap.size W w'
theorem results_row_tmp {fn : Func} {P : Program} {p q : Tmp} {ty : TypeId} (h : fn.results = #[.cell p ty, .tmp q]) (tmps : Array Value) (w : World) (g : Nat) (t : TypeId) (cs : Array Value) (fr : Nat × Nat) (d : TypeDesc)
    (hp : tmps.getD p undef = .pointer (some ⟨g, 0, none⟩)) (hg : w.heap[g]? = some (.cells cs t fr)) (hu : P.underlying ty = some d) (hd : (match d with | .struct _ | .array _ _ => true | _ => false) = true) (hi : (P.info? ty).map (·.size) = some cs.size) :
    (results fn tmps).run P w = .ok (.tuple #[.agg cs, tmps.getD q undef]) w := by
  have hp' : tmps[p]?.getD undef = .pointer (some ⟨g, 0, none⟩) := by simpa using hp
  simp [results, h, hp', asAddr, run_loadVar_row w g t ty cs fr d hg hu hd hi, Sem.run_bind]
theorem blk_reads {W : World} {b : Nat} {t : TypeId} {cs : Array Value} (n size : Nat) (h : Blk W b t cs) (hn : cs.size = n * size) : Reads W W.heap.size size (some ⟨b, 0, none⟩) n cs.toList :=
  ⟨by simp [hn], fun _ => ⟨_, rfl, h.lt, fun j u hu => by rw [Addr.add_lit, Nat.zero_add, h.cell j]; simpa using hu⟩⟩
theorem sl_nil {α : Type} (K : Kind α) (S : World → Prop) : K.slS S (.slice none 0 0) ([] : List α) :=
  ⟨none, 0, [], rfl, fun _ _ => Reads.none_, trivial, by simp⟩
theorem reads_one {W W' : World} {n size : Nat} {A : Option Addr} {xs : List Value} (h : Reads W W.heap.size size A n xs) (e : W = W') : Reads W' W'.heap.size size A n xs := e ▸ h
def litO (n : Nat) : List Obj := [.cells #[.slice none 0 0, .slice none 0 0, .slice (some ⟨n + 1, 0, none⟩) 1 1, .slice (some ⟨n + 1 + 1 + 1, 0, none⟩) 1 1] 27, .cells #[.string ⟨#[65]⟩] 9, .cells #[.int .i64 1, .int .i64 (-2), .int .i64 0, .int .i64 0] 117,
  .cells #[.string ⟨#[]⟩, .string ⟨#[109, 97, 105, 110]⟩, .slice none 0 0, .slice (some ⟨n + 1 + 1, 0, none⟩) 1 1] 48, .cells #[.slice none 0 0, .slice none 0 0, .slice (some ⟨n + 1, 0, none⟩) 1 1, .slice (some ⟨n + 1 + 1 + 1, 0, none⟩) 1 1] 27, .cells (bytesV litB).toArray 5]
def litW (W : World) : World := (litO W.heap.size).foldl World.alloc W
theorem lit_told (W : World) : Blk (litW W) W.heap.size 27 #[.slice none 0 0, .slice none 0 0, .slice (some ⟨W.heap.size + 1, 0, none⟩) 1 1, .slice (some ⟨W.heap.size + 1 + 1 + 1, 0, none⟩) 1 1] ∧
    mdK.tells (litW W) [.slice none 0 0, .slice none 0 0, .slice (some ⟨W.heap.size + 1, 0, none⟩) 1 1, .slice (some ⟨W.heap.size + 1 + 1 + 1, 0, none⟩) 1 1] litM ∧ Reads (litW W) (litW W).heap.size 1 (some ⟨W.heap.size + 1 + 1 + 1 + 1 + 1, 0, none⟩) 23 (bytesV litB) ∧ Below W.heap.size W (litW W) := by
  have key : ∀ (l : List Obj) (w : World), Below w.heap.size w (l.foldl World.alloc w) ∧ ∀ k cs t, l[k]? = some (.cells cs t) → Blk (l.foldl World.alloc w) (w.heap.size + k) t cs := by
    intro l
    induction l with
    | nil => exact fun w => ⟨Below.refl _ _, fun k cs t h => by simp at h⟩
    | cons o l ih =>
      intro w
      obtain ⟨h1, h2⟩ := ih (w.alloc o)
      refine ⟨(below_alloc w o).trans (h1.mono (by simp)), fun k cs t h => ?_⟩
      cases k with
      | zero =>
        simp only [List.getElem?_cons_zero, Option.some.injEq] at h
        subst h
        exact (Blk.new w t cs).below h1 (by simp)
      | succ k =>
        have h3 := h2 k cs t (by simpa using h)
        rw [show (w.alloc o).heap.size + k = w.heap.size + (k + 1) by simp; omega] at h3
        exact h3
  obtain ⟨hb, hk⟩ := key (litO W.heap.size) W
  have b0 := hk 0 _ _ rfl
  have b1 := hk 1 _ _ rfl
  have b2 := hk 2 _ _ rfl
  have b3 := hk 3 _ _ rfl
  have b5 := hk 5 _ _ rfl
  refine ⟨b0, ?_, ?_, hb⟩
  · refine ⟨_, _, _, _, rfl, sl_nil _ _, sl_nil _ _, ?_, ?_⟩
    · refine ⟨_, 1, [[.string ⟨#[65]⟩]], rfl, ?_, ⟨⟨rfl, by unfold sz; decide⟩, trivial⟩, by decide⟩
      rintro _ rfl
      exact blk_reads 1 1 b1 rfl
    · refine ⟨_, 1, [[.string ⟨#[]⟩, .string ⟨#[109, 97, 105, 110]⟩, .slice none 0 0, .slice (some ⟨W.heap.size + 1 + 1, 0, none⟩) 1 1]], rfl, ?_, ⟨⟨_, _, rfl, by unfold sz; decide, by unfold sz; decide, sl_nil _ _, ?_⟩, trivial⟩, by decide⟩
      · rintro _ rfl
        exact blk_reads 1 4 b3 rfl
      · refine ⟨_, 1, [[.int .i64 1, .int .i64 (-2), .int .i64 0, .int .i64 0]], rfl, ?_, ⟨⟨rfl, by unfold iz; decide⟩, trivial⟩, by decide⟩
        rintro _ rfl
        exact blk_reads 1 4 b2 rfl
  · have := blk_reads 23 1 b5 rfl
    exact this
set_option maxRecDepth 100000 in
set_option maxHeartbeats 1600000 in
theorem little_any (W : World) : Calls Tryz.prog 19 #[] W (LitE W) := by
  go_enter Tryz.func19, Tryz.ntmps19
  go_wp2_with fail
  show bodyPost Tryz.prog Tryz.f19 (LitE W) Exit.ret _ (litW W)
  obtain ⟨h1, h2, h3, h4⟩ := lit_told W
  refine bodyPost_ret (results_row_tmp rfl _ _ W.heap.size 27 _ (0, 0) _ rfl h1 Tryz.underlying27 rfl (by kernel_rfl)) rfl ?_
  exact ⟨_, _, _, rfl, h2, h3, h4⟩
end Go.Proofs.YtcapdmicekialaaGreat
/- awake; CodecKnown. -/
namespace Go.Proofs.YtcapdmicekialaaGreat
open Go.RowKit
set_option linter.unusedVariables false
set_option linter.unusedSimpArgs false
attribute [local go_sem] Oper.semAt_some run_store_func run_store_nilFunc
set_option maxRecDepth 100000 in
theorem dec_lit : decM litB = (litM, (0, 0)) := by decide +kernel
theorem dec_many : decM [67, 1, 41, 0, 0, 0] = (noMd, (12, 2)) := by decide +kernel
theorem dec_none : decM [67, 1, 0, 0, 0, 0] = (noMd, (0, 0)) := by decide +kernel
theorem dec_two : decM [67, 2, 0, 0, 0, 0] = (noMd, (5, 1)) := by decide +kernel
theorem dec_short : decM [67, 1, 0] = (noMd, (13, 3)) := by decide +kernel
theorem dec_long : decM [67, 1, 0, 0, 0, 0, 0] = (noMd, (4, 6)) := by decide +kernel
theorem enc_of_dec {bs : List UInt8} {m : Md} (h : decM bs = (m, (0, 0))) (hl : bs.length ≤ 1048576) : encM m = (bs, 0) := by
  obtain ⟨h1, h2, _⟩ := dec_fine (bs := bs) (by rw [h])
  rw [h] at h1 h2
  simp only at h1 h2
  rw [enc_wf h1 (by rw [← h2]; exact hl), ← h2]
theorem enc_lit : encM litM = (litB, 0) := enc_of_dec dec_lit (by decide)
theorem enc_none : encM noMd = ([67, 1, 0, 0, 0, 0], 0) := enc_of_dec dec_none (by decide)
section
variable {W : World}
/-- Encode, of what reads as a module. -/
theorem enc_reads (cs : List Value) (m : Md) (h : mdK.tells W cs m) : Calls Tryz.prog 8 #[.agg cs.toArray] W fun e w' => ∃ A c, e = .returned (.tuple #[.slice A (encM m).1.length c, .int .i64 (encM m).2]) ∧ Lies W.heap.size W w' (byT A c (encM m).1) := by
  refine (enc_any (N := W.heap.size) (w0 := W) (M := empT) (R := empT) cs m (mdK.keep h fun W' ⟨R, hW⟩ => ⟨W, rfl, hW.below⟩) (by rw [sep_empT]; exact Lies.nil W)).mono ?_
  rintro e w' ⟨A, c, he, h⟩
  exact ⟨A, c, he, by rw [sep_empT, sep_empT] at h; exact h⟩
theorem by_reads {N : Nat} {w0 : World} {A : Option Addr} {c : Nat} {bs : List UInt8} (h : Lies N w0 W (byT A c bs)) : Reads W W.heap.size 1 A bs.length (bytesV bs) := h.hold1.reads 0 rfl
theorem no_tells (W : World) : mdK.tells W [.slice none 0 0, .slice none 0 0, .slice none 0 0, .slice none 0 0] noMd := ⟨_, _, _, _, rfl, sl_nil _ _, sl_nil _ _, sl_nil _ _, sl_nil _ _⟩
/-- decodes, of bytes written out, against the module that is none. -/
theorem decodes_no (b : Nat) (n : Nat) (bs : List UInt8) (err at_ : Int) (hb : Blk W b 5 (bytesV bs).toArray) (hl : bs.length = n) (hs : n ≤ 1000) (hd : decM bs = (noMd, (err, at_))) :
    Calls Tryz.prog 20 #[.slice (some ⟨b, 0, none⟩) n n, .agg #[.slice none 0 0, .slice none 0 0, .slice none 0 0, .slice none 0 0], .int .i64 err, .int .i64 at_] W (RetB true W) := by
  subst hl
  have h1 := blk_reads bs.length 1 hb (by simp [bytesV_len])
  have h := decodes_any (some ⟨b, 0, none⟩) bs.length bs _ noMd err at_ (by simpa using h1) (by omega) (no_tells W)
  rw [hd, decide_eq_true rfl] at h
  exact h
set_option maxRecDepth 100000 in
set_option maxHeartbeats 1600000 in
theorem awake_any (W : World) : Calls Tryz.prog 6 #[] W (RetB true W) := by
  go_enter Tryz.func6, Tryz.ntmps6
  go_wp2_with fail
  refine (little_any W).mono ?_
  rintro e w1 ⟨p, q, b, rfl, ht, hr, hb⟩
  have hba := below_alloc w1 (.cells #[.slice none 0 0, .slice none 0 0, .slice (some ⟨p, 0, none⟩) 1 1, .slice (some ⟨q, 0, none⟩) 1 1] 27)
  have ht2 := Kind.below ht hba
  have hr2 := (hr.below hba).more hba.size
  have hc := enc_reads _ _ ht2
  rw [enc_lit] at hc
  have HC := Lib.hid hc
  have HTR := Lib.hid (And.intro ht2 hr2)
  have HB := Lib.hid (hb.trans (hba.mono hb.size))
  have hbk := Blk.new w1 27 #[.slice none 0 0, .slice none 0 0, .slice (some ⟨p, 0, none⟩) 1 1, .slice (some ⟨q, 0, none⟩) 1 1]
  have HBk := Lib.hid hbk
  clear ht hr hb hba ht2 hr2 hc hbk
  go_wp2_with fail
  refine HC.out.mono ?_
  rintro e w2 ⟨A, c, rfl, h⟩
  have hb2 := h.below
  have HR2 := Lib.hid ((HTR.out.2.below hb2).more hb2.size)
  have HT2 := Lib.hid (Kind.below HTR.out.1 hb2)
  have HB2 := Lib.hid (HB.out.trans (hb2.mono HB.out.size))
  have hbk := HBk.out.below hb2 (by simp)
  have HBk2 := Lib.hid hbk
  have HS := Lib.hid (same_any A (some ⟨b, 0, none⟩) c 23 litB litB w2 (by_reads h) HR2.out)
  clear h hb2 hbk HC HTR HB HBk
  go_wp2_with fail
  refine HS.out.mono ?_
  rintro e w3 ⟨rfl, rfl⟩
  rw [decide_eq_true trivial]
  have e0 := HBk2.out.cell 0
  have e1 := HBk2.out.cell 1
  have e2 := HBk2.out.cell 2
  have e3 := HBk2.out.cell 3
  simp at e0 e1 e2 e3
  have hd := decodes_any (some ⟨b, 0, none⟩) 23 litB _ litM 0 0 HR2.out (by decide) HT2.out
  rw [dec_lit, decide_eq_true rfl] at hd
  have HD := Lib.hid hd
  clear HS hd HBk2
  go_wp2_with fail
  refine HD.out.mono ?_
  rintro e w3 ⟨rfl, hb3⟩
  have HB3 := Lib.hid (HB2.out.trans (hb3.mono HB2.out.size))
  clear HD hb3 e0 e1 e2 e3
  have hn := Blk.new w3 5 (bytesV [67, 1, 41, 0, 0, 0]).toArray
  have HD := Lib.hid (decodes_no w3.heap.size 6 [67, 1, 41, 0, 0, 0] 12 2 hn rfl (by decide) dec_many)
  clear hn
  go_wp2_with fail
  refine HD.out.mono ?_
  rintro e w4 ⟨rfl, hb4⟩
  have HB4 := Lib.hid (HB3.out.trans (((below_alloc w3 _).trans (hb4.mono (by simp))).mono HB3.out.size))
  clear HD hb4
  go_wp2_with fail
  go_ret
  exact ⟨rfl, HB4.out⟩
end
end Go.Proofs.YtcapdmicekialaaGreat
