/- lines.All. -/
import Derived.Test.YtclejidkahpemaaDoorLiParse
import Derived.Test.YtclejidkahpemaaDoorLiSplit
import Derived.Test.YtclejidkahpemaaDoorRoundText
namespace Go.Proofs.YtclejidkahpemaaDoor
open Go.RowKit
set_option linter.unusedVariables false
set_option linter.unusedSimpArgs false
attribute [local irreducible] ByteArray.extract ByteArray.toList
attribute [local go_sem] Oper.semAt_some run_store_func run_store_nilFunc
theorem enters_spl : ∀ args w, (callFunc 54 args).run Tryd.prog w = .ok (.enter 54 args) w := enters_fn Tryd.func54 (by kernel_rfl) rfl
theorem info_lCmd : (Tryd.prog.info? 23).map (fun i => (i.zero, i.size, i.bytes)) = some (some (.agg #[.string ⟨#[]⟩, .string ⟨#[]⟩, .int .i64 0]), 3, 40) := by kernel_rfl
/-- Commands as they lie in a row. -/
def cmL (c : Cm) : List Value := [.string (sOf c.word), .string (sOf c.text), .int .i64 c.n]
def cmsV (l : List Cm) : List Value := l.flatMap cmL
theorem cmsV_app (l : List Cm) (c : Cm) : cmsV (l ++ [c]) = cmsV l ++ cmL c := by unfold cmsV; rw [List.flatMap_append]; simp
theorem cmsV_len (l : List Cm) : (cmsV l).length = l.length * 3 := by
  induction l with
  | nil => rfl
  | cons c l ih =>
    have : cmsV (c :: l) = cmL c ++ cmsV l := rfl
    rw [this, List.length_append, ih, List.length_cons]
    show 3 + _ = _
    omega
/-- What All comes to: the commands in a row of its own. -/
def RetA (s : List UInt8) (w : World) (e : Ending) (w' : World) : Prop := ∃ A c, e = .returned (.tuple #[.slice A (allL s).1.length c, .agg (flV (allL s).2)]) ∧ w'.ownsRow w.heap.size 23 3 (.slice A (allL s).1.length c) (allL s).1.length (cmsV (allL s).1) ∧ Below w.heap.size w w'
theorem split_len (s : List UInt8) : ∀ l ∈ splitN s, l.length ≤ s.length := by
  induction s with
  | nil => intro l hl; simp [splitN] at hl; subst hl; simp
  | cons c s ih =>
    intro l hl
    by_cases h : c = 10
    · subst h
      rw [splitN_nl] at hl
      rcases List.mem_cons.1 hl with rfl | hl
      · simp
      · have := ih l hl; simp; omega
    · cases hs : splitN s with
      | nil => exact absurd hs (splitN_ne s)
      | cons x t =>
        rw [splitN_cons h hs] at hl
        rcases List.mem_cons.1 hl with rfl | hl
        · have := ih x (by rw [hs]; exact List.mem_cons_self ..); simp; omega
        · have := ih l (by rw [hs]; exact List.mem_cons_of_mem _ hl); simp; omega
theorem split_sum (s : List UInt8) : ((splitN s).map fun l => l.length + 1).sum = s.length + 1 := by
  induction s with
  | nil => rfl
  | cons c s ih =>
    by_cases h : c = 10
    · subst h
      rw [splitN_nl, List.map_cons, List.sum_cons, ih, List.length_cons]
      simp
      omega
    · cases hs : splitN s with
      | nil => exact absurd hs (splitN_ne s)
      | cons x t =>
        rw [hs] at ih
        rw [splitN_cons h hs, List.map_cons, List.sum_cons, List.length_cons, List.length_cons]
        rw [List.map_cons, List.sum_cons] at ih
        omega
/-- Where the next line begins. -/
def posAt (s : List UInt8) (i : Nat) : Nat := (((splitN s).take i).map fun l => l.length + 1).sum
theorem pos_zero (s : List UInt8) : posAt s 0 = 0 := rfl
theorem pos_succ (s : List UInt8) (i : Nat) (hi : i < (splitN s).length) : posAt s (i + 1) = posAt s i + (splitN s)[i].length + 1 := by
  unfold posAt
  rw [List.take_succ_eq_append_getElem hi, List.map_append, List.sum_append]
  simp
  omega
theorem pos_le (s : List UInt8) (i : Nat) : posAt s i ≤ s.length + 1 := by
  have h := split_sum s
  rw [← List.take_append_drop i (splitN s), List.map_append, List.sum_append] at h
  unfold posAt
  omega
theorem split_n (s : List UInt8) : (splitN s).length ≤ s.length + 1 := by
  have h := split_sum s
  have : ∀ l : List (List UInt8), l.length ≤ (l.map fun x => x.length + 1).sum := by
    intro l
    induction l with
    | nil => simp
    | cons x l ih => rw [List.map_cons, List.sum_cons, List.length_cons]; omega
  have := this (splitN s)
  omega
theorem drop_cons_at {α : Type} (l : List α) (i : Nat) (hi : i < l.length) : l.drop i = l[i] :: l.drop (i + 1) := List.drop_eq_getElem_cons hi
theorem arr_cells (w : World) (cs : List Value) (t : TypeId) : ∀ j u, cs[j]? = some u → (w.alloc (.cells cs.toArray t)).cell? ((⟨w.heap.size, 0, none⟩ : Addr).add j) = some u := by
  intro j u hj
  rw [show (⟨w.heap.size, 0, none⟩ : Addr).add j = ⟨w.heap.size, j, none⟩ from by unfold Addr.add; split <;> simp_all]
  rw [(Blk.new w t cs.toArray).cell j]
  simpa using hj
theorem row_box {W w1 : World} {base box size : Nat} {t e : TypeId} {v v' : Value} {k : Nat} {xs ys : List Value} {tmp : Obj} (hv : Boxed W box t v) (hrow : W.ownsRow base e size v k xs) (hb : box < base)
    (hown : w1.ownsRow base e size v' (k + 1) ys) (hgrow : (W.alloc tmp).grownBy w1 v.ownBlock) :
    w1.cell? ⟨box, 0, none⟩ = some v ∧ w1.frozen? ⟨box, 0, none⟩ = false ∧ Boxed (w1.setCell ⟨box, 0, none⟩ v') box t v' ∧ (w1.setCell ⟨box, 0, none⟩ v').ownsRow base e size v' (k + 1) ys ∧
    Only (fun b => b = box ∨ (base ≤ b ∧ some b = v.ownBlock)) W (w1.setCell ⟨box, 0, none⟩ v') ∧ Only (fun b => base ≤ b ∧ some b = v.ownBlock) W w1 := by
  have far : ∀ g, v.ownBlock = some g → base ≤ g := by
    intro g hg
    rcases hrow.2 with ⟨rfl, _⟩ | ⟨g', cap, cur, rfl, h2, _⟩
    · simp [Value.ownBlock] at hg
    · simp [Value.ownBlock] at hg; omega
  have h1 : Boxed w1 box t v := (hv.alloc tmp).kept hgrow (fun e => by have := far _ e.symm; omega)
  have o0 : Only (fun b => base ≤ b ∧ some b = v.ownBlock) W w1 := (Only.alloc _ W tmp).trans ((Only.grown hgrow).mono fun b hb => ⟨far b hb.symm, hb⟩)
  have o1 : Only (fun b => b = box ∨ (base ≤ b ∧ some b = v.ownBlock)) W w1 := o0.mono fun b hb => .inr hb
  refine ⟨h1.cell, h1.frozen, h1.set v', own_only (Only.setCell (S := (· = box)) w1 ⟨box, 0, none⟩ v' rfl) hown (fun g hg _ he => by omega), o1.trans (Only.setCell w1 _ _ (.inl rfl)), o0⟩
theorem parse_at (s : List UInt8) : 0 ≤ (parseL s).2.2 ∧ (parseL s).2.2 ≤ s.length := by
  have hl : (wordOf s).length ≤ s.length := (List.takeWhile_sublist _).length_le
  unfold parseL
  repeat' split
  all_goals simp only
  · constructor <;> omega
  · constructor <;> omega
  · constructor <;> omega
  · constructor <;> omega
  · rename_i h4 h5
    have h6 := badAt_le (kindL (wordOf s)) (s.drop ((wordOf s).length + 1))
    rw [List.length_drop] at h5 h6
    constructor <;> omega
  · rename_i h2 h4 h5 h6
    have : (wordOf s).length ≠ s.length := by
      intro e
      apply h2
      rw [decide_eq_false h4, decide_eq_true e]; simp
    constructor <;> omega
  all_goals constructor <;> omega
def loA8 (i : Nat) : Nat := [0, 0, 0, 0, 0, 0, 0, 0, 1].getD i 0
def upA8 (i : Nat) : Nat := [1, 1, 1, 1, 1, 1, 1, 1, 2].getD i 0
theorem own_slice {W : World} {base e size n : Nat} {v : Value} {xs : List Value} (h : W.ownsRow base e size v n xs) : ∃ A c, v = .slice A n c := by
  rcases h.2 with ⟨rfl, rfl⟩ | ⟨g, cap, cur, rfl, _⟩
  · exact ⟨_, _, rfl⟩
  · exact ⟨_, _, rfl⟩
theorem results_all (tmps : Array Value) (w : World) (g g' : Nat) (v x y : Value)
    (hp : tmps.getD 2 undef = .pointer (some ⟨g, 0, none⟩)) (hg : w.cell? ⟨g, 0, none⟩ = some v) (hp2 : tmps.getD 3 undef = .pointer (some ⟨g', 0, none⟩)) (hx : w.cell? ⟨g', 0, none⟩ = some x) (hy : w.cell? ⟨g', 1, none⟩ = some y) :
    (results Tryd.f16 tmps).run Tryd.prog w = .ok (.tuple #[v, .agg #[x, y]]) w := by
  have hp' : tmps[2]?.getD undef = .pointer (some ⟨g, 0, none⟩) := by simpa using hp
  have hp2' : tmps[3]?.getD undef = .pointer (some ⟨g', 0, none⟩) := by simpa using hp2
  have h : Tryd.f16.results = #[.cell 2 34, .cell 3 31] := rfl
  simp [results, h, hp', hp2', asAddr, Sem.run_bind]
  go_simp
abbrev W4 (w : World) : World := (((w.alloc (.cells #[.slice none 0 0] 34)).alloc (.cells #[.int .i64 0, .int .i64 0] 31)).alloc (.cells #[.slice none 0 0] 34)).alloc (.cells #[.int .i64 0] 3)
/-- The loop's worlds. -/
def AllI (s : List UInt8) (w : World) (i : Nat) (W : World) : Prop := ∃ (out : List Cm) (A : Option Addr) (c : Nat), allGo (posAt s i) out ((splitN s).drop i) = allL s ∧ out.length ≤ i ∧
  Boxed W w.heap.size 34 (.slice none 0 0) ∧ Blk W (w.heap.size + 1) 31 #[.int .i64 0, .int .i64 0] ∧ Boxed W (w.heap.size + 2) 34 (.slice A out.length c) ∧ W.ownsRow (w.heap.size + 9) 23 3 (.slice A out.length c) out.length (cmsV out) ∧
  Boxed W (w.heap.size + 3) 3 (.int .i64 (posAt s i)) ∧ Below w.heap.size w W ∧ w.heap.size + 7 ≤ W.heap.size
def AllX (s : List UInt8) (w : World) (W : World) : Prop := ∃ f : Int × Int, allL s = ([], f) ∧ Boxed W w.heap.size 34 (.slice none 0 0) ∧ Blk W (w.heap.size + 1) 31 (flV f) ∧ Below w.heap.size w W ∧ w.heap.size + 7 ≤ W.heap.size
theorem allI_only {s : List UInt8} {w A B : World} {i : Nat} {S : Nat → Prop} (h : AllI s w i A) (ho : Only S A B) (hS : ∀ b, S b → b = w.heap.size + 4 ∨ b = w.heap.size + 7 ∨ b = w.heap.size + 8) : AllI s w i B := by
  obtain ⟨out, ad, c, hg, hl, h1, h2, h3, h4, h5, h6, h7⟩ := h
  refine ⟨out, ad, c, hg, hl, box_only ho h1 (fun h => by have := hS _ h; omega), (ho.block _ h2.lt (fun h => by have := hS _ h; omega)).trans h2, box_only ho h3 (fun h => by have := hS _ h; omega), own_only ho h4 (fun g hg _ h => by have := hS _ h; omega), box_only ho h5 (fun h => by have := hS _ h; omega), h6.trans (ho.below h6.size (fun b hb => by have := hS _ hb; omega)), by have := ho.size; omega⟩
theorem allX_only {s : List UInt8} {w A B : World} {S : Nat → Prop} (h : AllX s w A) (ho : Only S A B) (hS : ∀ b, S b → b = w.heap.size + 4 ∨ b = w.heap.size + 7 ∨ b = w.heap.size + 8) : AllX s w B := by
  obtain ⟨f, hf, h1, h2, h6, h7⟩ := h
  exact ⟨f, hf, box_only ho h1 (fun h => by have := hS _ h; omega), (ho.block _ h2.lt (fun h => by have := hS _ h; omega)).trans h2, h6.trans (ho.below h6.size (fun b hb => by have := hS _ hb; omega)), by have := ho.size; omega⟩
set_option maxRecDepth 100000 in
set_option maxHeartbeats 3200000 in
theorem all_any (s : List UInt8) (hs : s.length ≤ 1000000) (w : World) (hsp : Spaces w) : Calls Tryd.prog 16 #[.string (sOf s)] w (RetA s w) := by
  refine (callsIn_wide (n := 3)).1 ?_
  refine callsIn_of_wp_marks Tryd.func16 rfl trivial ?_
  simp only [Tryd.ntmps16, List.size_toArray, List.length_cons, List.length_nil, Nat.reduceAdd, Nat.reduceSub, Array.replicate_succ, Array.replicate_zero, List.push_toArray, List.append_toArray, List.nil_append, List.cons_append]
  obtain ⟨w1, hw1⟩ : ∃ w1, w1 = splW s (W4 w) := ⟨_, rfl⟩
  have hz4 : (W4 w).heap.size = w.heap.size + 4 := by simp
  have hs1 : w1.heap.size = w.heap.size + 7 := by rw [hw1]; simp
  have hI0 : AllI s w 0 w1 := by
    rw [hw1]
    refine ⟨[], none, 0, rfl, Nat.le_refl _, ?_, ?_, ?_, World.ownsRow_nil _ _ _ _, ?_, ?_, by simp⟩
    · exact ((((((Boxed.new w 34 _).alloc _).alloc _).alloc _).alloc _).alloc _).alloc _
    · have := ((((((Blk.new (w.alloc (.cells #[.slice none 0 0] 34)) 31 #[.int .i64 0, .int .i64 0]).alloc (.cells #[.slice none 0 0] 34)).alloc (.cells #[.int .i64 0] 3)).alloc (.cells #[.string (sOf s)] 9)).alloc (.cells #[.string ⟨#[10]⟩] 9)).alloc (.cells #[.int .i64 0] 3))
      simpa using this
    · have := (((((Boxed.new ((w.alloc (.cells #[.slice none 0 0] 34)).alloc (.cells #[.int .i64 0, .int .i64 0] 31)) 34 (.slice none 0 0)).alloc (.cells #[.int .i64 0] 3)).alloc (.cells #[.string (sOf s)] 9)).alloc (.cells #[.string ⟨#[10]⟩] 9)).alloc (.cells #[.int .i64 0] 3))
      simpa using this
    · have := ((((Boxed.new (((w.alloc (.cells #[.slice none 0 0] 34)).alloc (.cells #[.int .i64 0, .int .i64 0] 31)).alloc (.cells #[.slice none 0 0] 34)) 3 (.int .i64 0)).alloc (.cells #[.string (sOf s)] 9)).alloc (.cells #[.string ⟨#[10]⟩] 9)).alloc (.cells #[.int .i64 0] 3))
      rw [pos_zero]
      simpa using this
    · exact ((((((((Below.refl _ _).alloc (Nat.le_refl _) _).alloc (by simp) _).alloc (by simp; omega) _).alloc (by simp; omega) _).alloc (by simp; omega) _).alloc (by simp; omega) _).alloc (by simp; omega) _)
  have hd : IterC Tryd.prog 54 #[.pointer (some ⟨w.heap.size + 4 + 1, 0, none⟩), .pointer (some ⟨w.heap.size + 4, 0, none⟩), .pointer (some ⟨w.heap.size + 4 + 2, 0, none⟩)] (splitN s) (fun l => #[.string (sOf l)]) (· = w.heap.size + 4) (fun b => b = w.heap.size + 4 + 1 ∨ b = w.heap.size + 4 + 2) w1 := by
    have c0 := (((Blk.new (W4 w) 9 #[.string (sOf s)]).alloc (.cells #[.string ⟨#[10]⟩] 9)).alloc (.cells #[.int .i64 0] 3))
    have c1 := ((Blk.new ((W4 w).alloc (.cells #[.string (sOf s)] 9)) 9 #[.string ⟨#[10]⟩]).alloc (.cells #[.int .i64 0] 3))
    have c2 := (Blk.new (((W4 w).alloc (.cells #[.string (sOf s)] 9)).alloc (.cells #[.string ⟨#[10]⟩] 9)) 3 #[.int .i64 0])
    rw [hz4] at c0
    rw [World.size_alloc, hz4] at c1
    rw [World.size_alloc, World.size_alloc, hz4] at c2
    refine split_iter s (by omega) (w.heap.size + 4) w1 (by omega) ?_ ?_ ?_ ?_
    · rw [hw1]; exact c0.cell 0
    · rw [hw1]; exact c0.frozen 0
    · rw [hw1]; exact c1.cell 0
    · rw [hw1]; exact c2.cell 0
  have Hd := Lib.hid hd
  have HI0 := Lib.hid hI0
  have HW1 := Lib.hid hw1
  have HSp := Lib.hid hsp
  clear hd hI0 hw1 hsp
  gi_wp2_with ((refine ⟨trivial, ?_⟩; gi_at_call 32); refine (callsIn_wide.2 (splitSeq_any s _)).mono ?_; rintro e w' ⟨rfl, rfl⟩)
  change Code.wpIn _ _ _ _ _ _ (splW s (W4 w))
  rw [← HW1.out]
  refine wp_range (w := w1) (gf := 54) (lb := #[.pointer (some ⟨w.heap.size + 4 + 1, 0, none⟩), .pointer (some ⟨w.heap.size + 4, 0, none⟩), .pointer (some ⟨w.heap.size + 4 + 2, 0, none⟩)]) rfl enters_spl
    Hd.out (by rintro b (h | h | h) <;> omega) (fun _ => rfl)
    (fun i W => AllI s w i W) (fun c i W => c = .ret ∧ AllX s w W) ?hI ?hIx ?h0 ?round ?done ?stop
  case hI =>
    intro i A B h ho
    rw [hs1] at ho
    exact allI_only h ho (by rintro b (h | h | h) <;> omega)
  case hIx =>
    rintro c i A B ⟨hc, h⟩ ho
    rw [hs1] at ho
    exact ⟨hc, allX_only h ho (by rintro b (h | h | h) <;> omega)⟩
  case h0 => exact HI0.out
  case round =>
    rintro l i hi W rfl hlt hI
    rw [hs1] at hlt
    obtain ⟨L, hL⟩ : ∃ L, L = (splitN s)[i] := ⟨_, rfl⟩
    rw [← hL]
    have HL := Lib.hid hL
    clear hL
    gi_wp2
    refine ⟨Kept.refl _ _ _ _, hI, ?_⟩
    clear hlt hI
    intro W2 hlt hI
    rw [hs1] at hlt
    obtain ⟨out, A, c, hg, hol, hb0, hb1, hb2, hrow, hb3, hB, hz⟩ := hI
    rw [drop_cons_at _ _ hi, ← HL.out] at hg
    have hps := pos_succ s i hi
    rw [← HL.out] at hps
    have hpl := pos_le s i
    have hpl2 := pos_le s (i + 1)
    have hil : i ≤ 1000001 := by have := split_n s; omega
    have hLl : L.length ≤ s.length := split_len s L (by rw [HL.out]; exact List.getElem_mem hi)
    have hbs : (sOf L).size = L.length := sOf_size L
    have x3 := hb3.cell
    have y3 := hb3.frozen
    have HG := Lib.hid hg
    have HPs := Lib.hid hps
    have HBs := Lib.hid hbs
    have hbz : (sOf L).size ≤ 1000000 := by omega
    have HK := Lib.hid (And.intro hb0 (And.intro hb1 (And.intro hb2 (And.intro hrow (And.intro hb3 (And.intro hB hz))))))
    obtain ⟨po, hpo⟩ : ∃ p, p = posAt s i := ⟨_, rfl⟩
    rw [← hpo] at x3 hpl
    have HPo := Lib.hid hpo
    -- behind a line that tells nothing
    have hskip : told L = false → AllI s w (i + 1) (W2.setCell ⟨w.heap.size + 3, 0, none⟩ (.int .i64 ((po : Int) + (((sOf L).size : Int) + 1)))) := by
      intro ht
      have hO := Only.setCell (S := (· = w.heap.size + 3)) W2 ⟨w.heap.size + 3, 0, none⟩ (.int .i64 ((po : Int) + (((sOf L).size : Int) + 1))) rfl
      obtain ⟨hb0, hb1, hb2, hrow, hb3, hB, hz⟩ := HK.out
      refine ⟨out, A, c, ?_, by omega, box_only hO hb0 (by omega), (hO.block _ hb1.lt (by omega)).trans hb1, box_only hO hb2 (by omega), own_only hO hrow (fun g hg _ h => by omega), ?_, hB.trans (hO.below hB.size (fun b hb => by omega)), by have := hO.size; omega⟩
      · have := HG.out
        unfold allGo at this
        rw [if_neg (by rw [ht]; decide)] at this
        rw [HPs.out]
        exact this
      · have := hb3.set (.int .i64 ((po : Int) + (((sOf L).size : Int) + 1)))
        rw [HPs.out, ← HPo.out]
        rw [show (((po + L.length + 1 : Nat)) : Int) = (po : Int) + (((sOf L).size : Int) + 1) by rw [HBs.out]; omega]
        exact this
    have HSk := Lib.hid hskip
    have hkeep : Kept (· = w.heap.size + 4) (fun b => b = w.heap.size + 4 + 1 ∨ b = w.heap.size + 4 + 2) w1.heap.size W2 (W2.setCell ⟨w.heap.size + 3, 0, none⟩ (.int .i64 ((po : Int) + (((sOf L).size : Int) + 1)))) := by
      have hO := Only.setCell (S := (· = w.heap.size + 3)) W2 ⟨w.heap.size + 3, 0, none⟩ (.int .i64 ((po : Int) + (((sOf L).size : Int) + 1))) rfl
      refine Kept.of_only hO ?_
      rw [hs1]
      rintro b (h | (h | h) | h | h) <;> exact ⟨by omega, by omega⟩
    have HKe := Lib.hid hkeep
    have hwr1 : IntKind.i64.wrap (((sOf L).size : Int) + 1) = ((sOf L).size : Int) + 1 := IntWalk.i64_in _ (by omega)
    have hwr2 : IntKind.i64.wrap ((po : Int) + (((sOf L).size : Int) + 1)) = (po : Int) + (((sOf L).size : Int) + 1) := IntWalk.i64_in _ (by omega)
    clear hg hps hbs hb0 hb1 hb2 hrow hb3 hB hpo hskip hkeep hpl2
    by_cases h0 : L = []
    · have ht : told L = false := by subst h0; rfl
      have hZ := Lib.hid (HSk.out ht)
      subst h0
      rw [show sOf [] = ⟨#[]⟩ from rfl] at *
      gi_wp2
      exact ⟨HKe.out, hZ.out⟩
    · have hn0 : ((sOf L).toList == []) = false := by rw [sOf_toList]; simpa using h0
      have hsz0 : 0 < (sOf L).size := by rw [HBs.out]; exact List.length_pos_iff.2 h0
      have hby : ((sOf L)[0]'hsz0) = L.head h0 := by
        have := byte_at (sOf L) 0 hsz0
        rw [← this]
        cases L with
        | nil => exact absurd rfl h0
        | cons x t => rfl
      by_cases h35 : L.head h0 = 35
      · have ht : told L = false := by
          cases L with
          | nil => rfl
          | cons x t => simp at h35; subst h35; rfl
        have hZ := Lib.hid (HSk.out ht)
        have hb35 : ((((sOf L)[0]'hsz0).toNat : Int) == 35) = true := by rw [hby, h35]; rfl
        clear h35 ht hby
        gi_wp2
        exact ⟨HKe.out, hZ.out⟩
      · have ht : told L = true := by
          cases L with
          | nil => exact absurd rfl h0
          | cons x t =>
            simp at h35
            unfold told
            simp [h35]
        have hb35 : ((((sOf L)[0]'hsz0).toNat : Int) == 35) = false := by
          rw [hby]
          cases hh : ((L.head h0).toNat : Int) == 35 with
          | false => rfl
          | true =>
            rw [beq_iff_eq] at hh
            exact absurd (UInt8.toNat_inj.1 (by show (L.head h0).toNat = 35; omega)) h35
        have HP := Lib.hid (fun l n => CallsIn.inRound l ((callsIn_wide (n := n)).2 (parse_any L (by omega) W2 (spaces_below HSp.out HK.out.2.2.2.2.2.1 (spaces_pos HSp.out)))))
        clear hby h35 HSk HKe
        have HT := Lib.hid ht
        clear ht
        have hpa := parse_at L
        have HE : Hid (allGo (posAt s i) out (L :: (splitN s).drop (i + 1)) = allL s) := HG
        unfold RetP at HP
        have hgs : (if (parseL L).2.1 ≠ 0 then (([] : List Cm), ((parseL L).2.1, (parseL L).2.2 + (posAt s i : Int))) else allGo (posAt s i + L.length + 1) (out ++ [(parseL L).1]) ((splitN s).drop (i + 1))) = allL s := by
          have := HE.out
          unfold allGo at this
          rw [if_pos HT.out] at this
          exact this
        have HGs := Lib.hid hgs
        clear hgs HE HG
        generalize parseL L = pr at *
        obtain ⟨cc, fe, fa⟩ := pr
        simp only at HP HGs hpa
        unfold cmV cmA flV at HP
        gi_wp2
        refine ⟨trivial, (HP.out _ _).mono ?_⟩
        rintro e w3 ⟨rfl, hb⟩
        obtain ⟨hb0, hb1, hb2, hrow, hb3, hB, hz⟩ := HK.out
        have hB3 := hB.trans (hb.mono hB.size)
        have hO3 : Only (fun _ => False) W2 w3 := Only.of_below hb (fun b h1 h2 => by omega)
        have k0 := box_only hO3 hb0 (by simp)
        have k1 := hb1.below hb hb1.lt
        have k2 := box_only hO3 hb2 (by simp)
        have k3 := box_only hO3 hb3 (by simp)
        have kr := own_only hO3 hrow (fun g _ _ h => h.elim)
        have hw3 : W2.heap.size ≤ w3.heap.size := hb.size
        have hOU : Only (fun _ => False) W2 ((w3.alloc (.cells (cmA cc) 23)).alloc (.cells #[.int .i64 fe, .int .i64 fa] 31)) := (hO3.trans (Only.alloc _ _ _)).trans (Only.alloc _ _ _)
        have HK3 := Lib.hid (And.intro k0 (And.intro k1 (And.intro k2 (And.intro kr (And.intro k3 (And.intro hB3 (And.intro hw3 hOU)))))))
        have x3' : ∀ o o', ((w3.alloc o).alloc o').cell? ⟨w.heap.size + 3, 0, none⟩ = some (.int .i64 po) := fun o o' => by
          rw [HPo.out]; exact cell_alloc (cell_alloc k3.cell o) o'
        have y3' : ∀ o o', ((w3.alloc o).alloc o').frozen? ⟨w.heap.size + 3, 0, none⟩ = false := fun o o' => ((k3.alloc o).alloc o').frozen
        have z0 : ∀ o o', ((w3.alloc o).alloc o').cell? ⟨w.heap.size, 0, none⟩ = some (.slice none 0 0) := fun o o' => ((k0.alloc o).alloc o').cell
        have z0f : ∀ o o', ((w3.alloc o).alloc o').frozen? ⟨w.heap.size, 0, none⟩ = false := fun o o' => ((k0.alloc o).alloc o').frozen
        have z2 : ∀ o o', ((w3.alloc o).alloc o').cell? ⟨w.heap.size + 2, 0, none⟩ = some (.slice A out.length c) := fun o o' => ((k2.alloc o).alloc o').cell
        have z2f : ∀ o o', ((w3.alloc o).alloc o').frozen? ⟨w.heap.size + 2, 0, none⟩ = false := fun o o' => ((k2.alloc o).alloc o').frozen
        have z1 : ∀ o o' j, ((w3.alloc o).alloc o').cell? ⟨w.heap.size + 1, j, none⟩ = (#[Value.int .i64 0, .int .i64 0])[j]? := fun o o' j => ((k1.alloc o).alloc o').cell j
        have z1f : ∀ o o' j, ((w3.alloc o).alloc o').frozen? ⟨w.heap.size + 1, j, none⟩ = false := fun o o' j => ((k1.alloc o).alloc o').frozen j
        have z10 := fun o o' => z1 o o' 0
        have z11 := fun o o' => z1 o o' 1
        have z1f0 := fun o o' => z1f o o' 0
        have z1f1 := fun o o' => z1f o o' 1
        simp only [List.getElem?_toArray, List.getElem?_cons_zero, List.getElem?_cons_succ] at z10 z11
        clear hb hb0 hb1 hb2 hrow hb3 hB k0 k1 k2 k3 kr hB3 hO3 x3 y3 HP z1 z1f hOU
        by_cases hfe : fe = 0
        · subst hfe
          have hgo := HGs.out
          rw [if_neg (by simp)] at hgo
          have HGo := Lib.hid hgo
          have hrU := (HK3.out.2.2.2.1.alloc (.cells #[.string (sOf cc.word), .string (sOf cc.text), .int .i64 cc.n] 23)).alloc (.cells #[.int .i64 0, .int .i64 fa] 31)
          have hk2U := (HK3.out.2.2.1.alloc (.cells #[.string (sOf cc.word), .string (sOf cc.text), .int .i64 cc.n] 23)).alloc (.cells #[.int .i64 0, .int .i64 fa] 31)
          have hk3U := (HK3.out.2.2.2.2.1.alloc (.cells #[.string (sOf cc.word), .string (sOf cc.text), .int .i64 cc.n] 23)).alloc (.cells #[.int .i64 0, .int .i64 fa] 31)
          have hca := arr_cells ((w3.alloc (.cells #[.string (sOf cc.word), .string (sOf cc.text), .int .i64 cc.n] 23)).alloc (.cells #[.int .i64 0, .int .i64 fa] 31)) (cmL cc) 23
          rw [World.size_alloc, World.size_alloc] at hca
          have HCA := Lib.hid hca
          have HRU := Lib.hid (And.intro hrU (And.intro hk2U hk3U))
          obtain ⟨i0, hi0, hz0, hz1, hz2⟩ := info_parts info_lCmd
          clear hgo HGs hrU hk2U hk3U hca x3'
          have x3' : ∀ o o', ((w3.alloc o).alloc o').cell? ⟨w.heap.size + 3, 0, none⟩ = some (.int .i64 po) := fun o o' => by
            rw [HPo.out]; exact cell_alloc (cell_alloc HK3.out.2.2.2.2.1.cell o) o'
          gi_wp2_with (gi_at_builtin; refine wpListIn_append_own _ rfl _ _ 34 rfl (w.heap.size + 9) 23 i0 (.agg #[.string ⟨#[]⟩, .string ⟨#[]⟩, .int .i64 0]) 3 40 Tryd.underlying34 hi0 hz0 hz1 hz2 rfl (by decide) (.slice A out.length c) out.length (cmsV out) rfl (HRU.out.1.alloc _) ⟨w3.heap.size + 1 + 1, 0, none⟩ 1 1 (cmL cc) rfl rfl HCA.out (by simp [Value.oneCell', cmL]) (by simp only [maxLen]; omega) (by omega) (by have := HK3.out.2.2.2.2.2.2.1; simp; omega) ?_; go_must (intro v' w5 hown' hgrow _; obtain ⟨A5, c5, rfl⟩ := own_slice hown'; obtain ⟨hcell, hfr, hv2, hr2, ho2, ho1⟩ := row_box HRU.out.2.1 HRU.out.1 (by omega) hown' hgrow; have hk3w := box_only ho2 HRU.out.2.2 (by omega); rw [← HPo.out] at hk3w; have x5 := hk3w.cell; have y5 := hk3w.frozen; have HR2 := Lib.hid (And.intro hv2 (And.intro hr2 (And.intro ho2 hk3w))); clear hown' hgrow hv2 hr2 ho2 ho1 hk3w x3' y3' z0 z0f z2 z2f z10 z11 z1f0 z1f1))
          have hO5 := HR2.out.2.2.1
          have hOs := Only.setCell (S := (· = w.heap.size + 3)) (w5.setCell ⟨w.heap.size + 2, 0, none⟩ (.slice A5 (out.length + 1) c5)) ⟨w.heap.size + 3, 0, none⟩ (.int .i64 ((po : Int) + (((sOf L).size : Int) + 1))) rfl
          have hOall : Only (fun b => b = w.heap.size + 2 ∨ b = w.heap.size + 3 ∨ w.heap.size + 9 ≤ b ∧ some b = (Value.slice A out.length c).ownBlock) W2 ((w5.setCell ⟨w.heap.size + 2, 0, none⟩ (.slice A5 (out.length + 1) c5)).setCell ⟨w.heap.size + 3, 0, none⟩ (.int .i64 ((po : Int) + (((sOf L).size : Int) + 1)))) :=
            ((HK3.out.2.2.2.2.2.2.2.mono (fun b h => h.elim)).trans (hO5.mono fun b h => by rcases h with h | h; exact .inl h; exact .inr (.inr h))).trans (hOs.mono fun b h => .inr (.inl h))
          obtain ⟨hb0, hb1, hb2, hrow, hb3, hB, hz⟩ := HK.out
          refine ⟨Kept.of_only hOall ?_, ?_⟩
          · rw [hs1]
            rintro b (h | (h | h) | h | h)
            all_goals refine ⟨by omega, ?_⟩; rintro (k | k | ⟨k, _⟩) <;> omega
          · refine ⟨out ++ [cc], A5, c5, ?_, by rw [List.length_append, List.length_singleton]; omega, box_only hOall hb0 (by rintro (k | k | ⟨k, _⟩) <;> omega), (hOall.block _ hb1.lt (by rintro (k | k | ⟨k, _⟩) <;> omega)).trans hb1, ?_, ?_, ?_, hB.trans (hOall.below hB.size (by rintro b (k | k | ⟨k, _⟩) <;> omega)), Nat.le_trans hz hOall.size⟩
            · rw [HPs.out]; exact HGo.out
            · rw [List.length_append, List.length_singleton]
              exact box_only hOs HR2.out.1 (by omega)
            · rw [List.length_append, List.length_singleton, cmsV_app]
              exact own_only hOs HR2.out.2.1 (fun g hg _ h => by omega)
            · have := HR2.out.2.2.2.set (.int .i64 ((po : Int) + (((sOf L).size : Int) + 1)))
              rw [HPs.out, ← HPo.out]
              rw [show (((po + L.length + 1 : Nat)) : Int) = (po : Int) + (((sOf L).size : Int) + 1) by rw [HBs.out]; omega]
              exact this
        · have hfe' : (fe != 0) = true := by simpa using hfe
          have hgo := HGs.out
          rw [if_pos hfe] at hgo
          have HGo := Lib.hid hgo
          have hwf : IntKind.i64.wrap (fa + (po : Int)) = fa + (po : Int) := IntWalk.i64_in _ (by omega)
          clear hgo HGs hfe
          have hn1 : ¬ w3.heap.size + 1 = w.heap.size := by omega
          have hn2 : ¬ w.heap.size = w3.heap.size + 1 := by omega
          have hU0 := ((HK3.out.1.alloc (.cells #[.string (sOf cc.word), .string (sOf cc.text), .int .i64 cc.n] 23)).alloc (.cells #[.int .i64 fe, .int .i64 fa] 31)).set (.slice none 0 0)
          have hU1 := (((HK3.out.2.1.alloc (.cells #[.string (sOf cc.word), .string (sOf cc.text), .int .i64 cc.n] 23)).alloc (.cells #[.int .i64 fe, .int .i64 fa] 31)).far (p := ⟨w.heap.size, 0, none⟩) (by show _ ≠ w.heap.size; omega) (.slice none 0 0))
          have q0 := hU1.cell 0; have q1 := hU1.cell 1; have q0f := hU1.frozen 0; have q1f := hU1.frozen 1
          simp at q0 q1
          have hU1' := (hU1.set_ 0 (.int .i64 fe)).set_ 1 (.int .i64 (fa + po))
          have hU0' := (hU0.other (B' := w.heap.size + 1) (by omega) (.int .i64 fe))
          have hOall : Only (fun b => b = w.heap.size ∨ b = w.heap.size + 1) W2 ((((((w3.alloc (.cells #[.string (sOf cc.word), .string (sOf cc.text), .int .i64 cc.n] 23)).alloc (.cells #[.int .i64 fe, .int .i64 fa] 31)).setCell ⟨w.heap.size, 0, none⟩ (.slice none 0 0)).setCell ⟨w.heap.size + 1, 0, none⟩ (.int .i64 fe)).setCell ⟨w.heap.size + 1, 1, none⟩ (.int .i64 (fa + po))).drew) :=
            ((((HK3.out.2.2.2.2.2.2.2.mono (fun b h => h.elim)).trans (Only.setCell _ _ _ (.inl rfl))).trans (Only.setCell _ _ _ (.inr rfl))).trans (Only.setCell _ _ _ (.inr rfl))).trans (Only.drew _ _)
          have HOa := Lib.hid hOall
          have HU1 := Lib.hid hU1'
          have HU0 := Lib.hid hU0
          clear hU0 hU1 hU1' hU0' hOall
          gi_wp2
          refine wpIn_region_text [7, 8] loA8 upA8 (by kernel_rfl) (by kernel_rfl) (by kernel_rfl) (by kernel_rfl) (by kernel_rfl) (by kernel_rfl) (by rintro ⟨a, w, h⟩; exact h) ?_
          repeat (first | (refine wpTx_now (by rfl) (by rfl) (by rfl) (fun K hK => ?_); go_simp; refine hK _ ?_; clear hK K) | (refine wpTx_late [] (by rfl) (by rfl) (by rfl) (fun K hK => ?_); go_simp; refine hK _ _ ?_; clear hK K))
          refine wpTx_eff (by rfl) (fun K hK => ?_)
          go_simp
          refine hK _ _ (by repeat (first | exact lateOK_nil | refine lateOK_skip (by rfl) ?_ | refine lateOK_cons (by go_simp) ?_)) ?_
          clear hK K
          refine wpTx_eff (by rfl) (fun K hK => ?_)
          go_simp
          refine hK _ _ (by repeat (first | exact lateOK_nil | refine lateOK_skip (by rfl) ?_ | refine lateOK_cons (by go_simp) ?_)) ?_
          clear hK K
          refine wpTx_nil ?_
          gi_wp2
          refine ⟨Kept.of_only HOa.out ?_, rfl, (fe, fa + po), ?_, ?_, HU1.out, HK.out.2.2.2.2.2.1.trans (HOa.out.below HK.out.2.2.2.2.2.1.size (by rintro b (k | k) <;> omega)), by have := HOa.out.size; have := HK.out.2.2.2.2.2.2; omega⟩
          · rw [hs1]
            rintro b (h | (h | h) | h | h)
            all_goals refine ⟨by omega, ?_⟩; rintro (k | k) <;> omega
          · rw [← HGo.out, HPo.out]
          · exact box_only (((Only.setCell (S := (· = w.heap.size + 1)) _ ⟨w.heap.size + 1, 0, none⟩ (.int .i64 fe) rfl).trans (Only.setCell _ ⟨w.heap.size + 1, 1, none⟩ (.int .i64 (fa + po)) rfl)).trans (Only.drew _ _)) HU0.out (by omega)
  case done =>
    rintro W ⟨out, A, c, hg, hol, hb0, hb1, hb2, hrow, hb3, hB, hz⟩ hlt hD
    rw [hs1] at hD hlt
    rw [List.drop_length] at hg
    have hg : (out, ((0 : Int), (0 : Int))) = allL s := hg
    have HG := Lib.hid hg
    rw [hs1]
    have v0 := hb0.cell; have v0f := hb0.frozen; have v2 := hb2.cell
    have v1 := hb1.cell 0; have v1' := hb1.cell 1; have v1f := hb1.frozen 0; have v1f' := hb1.frozen 1
    simp at v1 v1'
    have HK := Lib.hid (And.intro hb0 (And.intro hb1 (And.intro hrow hB)))
    clear hg hb0 hb1 hb2 hrow hb3 hB
    gi_wp2
    have hO : Only (fun b => b = w.heap.size ∨ b = w.heap.size + 1) W (((W.setCell ⟨w.heap.size, 0, none⟩ (.slice A out.length c)).setCell ⟨w.heap.size + 1, 0, none⟩ (.int .i64 0)).setCell ⟨w.heap.size + 1, 1, none⟩ (.int .i64 0)) := ((Only.setCell _ _ _ (.inl rfl)).trans (Only.setCell _ _ _ (.inr rfl))).trans (Only.setCell _ _ _ (.inr rfl))
    have hD' := (hO.block _ (by omega : w.heap.size + 7 < W.heap.size) (by omega)).trans hD
    have hO2 := Only.putObj (S := (· = w.heap.size + 7)) (((W.setCell ⟨w.heap.size, 0, none⟩ (.slice A out.length c)).setCell ⟨w.heap.size + 1, 0, none⟩ (.int .i64 0)).setCell ⟨w.heap.size + 1, 1, none⟩ (.int .i64 0)) (w.heap.size + 7) (.deferred none) rfl
    have hb0 := (HK.out.1.set (.slice A out.length c))
    have hb0' := box_only (((Only.setCell (S := (· = w.heap.size + 1)) _ ⟨w.heap.size + 1, 0, none⟩ (.int .i64 0) rfl).trans (Only.setCell _ ⟨w.heap.size + 1, 1, none⟩ (.int .i64 0) rfl))) hb0 (by omega)
    have hb1 := (((HK.out.2.1.far (p := ⟨w.heap.size, 0, none⟩) (by show _ ≠ w.heap.size; omega) (.slice A out.length c)).set_ 0 (.int .i64 0)).set_ 1 (.int .i64 0))
    have hr := own_only hO2 (own_only hO HK.out.2.2.1 (fun g hg _ h => by omega)) (fun g hg _ h => by omega)
    refine leaves_mark hD' (leaves_nil (results_all _ _ w.heap.size (w.heap.size + 1) (.slice A out.length c) (.int .i64 0) (.int .i64 0) rfl (box_only hO2 hb0' (by omega)).cell rfl (Blk.cell ((hO2.block _ hb1.lt (by omega)).trans hb1) 0) (Blk.cell ((hO2.block _ hb1.lt (by omega)).trans hb1) 1)) ⟨A, c, ?_, ?_, ?_⟩)
    · rw [← HG.out]; rfl
    · rw [← HG.out]; exact hr.mono (by omega)
    · exact (HK.out.2.2.2.trans (hO.below HK.out.2.2.2.size (by rintro b (h | h) <;> omega))).trans (hO2.below (by have := hO.size; have := HK.out.2.2.2.size; omega) (fun b hb => by omega))
  case stop =>
    rintro c i W hi ⟨rfl, f, hf, hb0, hb1, hB, hz⟩ hlt hD
    rw [hs1] at hD hlt
    rw [hs1]
    gi_wp2
    have hO2 := Only.putObj (S := (· = w.heap.size + 7)) W (w.heap.size + 7) (.deferred none) rfl
    refine leaves_mark hD (leaves_nil (results_all _ _ w.heap.size (w.heap.size + 1) (.slice none 0 0) (.int .i64 f.1) (.int .i64 f.2) rfl (box_only hO2 hb0 (by omega)).cell rfl (Blk.cell ((hO2.block _ hb1.lt (by omega)).trans hb1) 0) (Blk.cell ((hO2.block _ hb1.lt (by omega)).trans hb1) 1)) ⟨none, 0, ?_, ?_, ?_⟩)
    · rw [hf]; rfl
    · rw [hf]; exact World.ownsRow_nil _ _ _ _
    · exact hB.trans (hO2.below hB.size (fun b hb => by omega))
end Go.Proofs.YtclejidkahpemaaDoor
