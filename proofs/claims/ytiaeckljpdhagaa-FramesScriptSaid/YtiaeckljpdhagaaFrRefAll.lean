/- Merged by merge.py: FrCopy, FrRef, FrRef2, FrRef3, FrRef4, FrRef5, FrRef6, FrRef7. -/
import Derived.Test.YtiaeckljpdhagaaFrOf
import Derived.Test.YtiaeckljpdhagaaFrModel
import Derived.Test.YtiaeckljpdhagaaFrLocal
import Derived.Test.YtiaeckljpdhagaaFrPop
import Derived.Test.YtiaeckljpdhagaaFrSet
import Derived.Test.YtiaeckljpdhagaaFrValues
/- CopyValues; OverLayers. -/
namespace Go.Proofs.Ytiaeckljpdhagaa
open Go.RowKit
set_option linter.unusedVariables false
set_option linter.unusedSimpArgs false
attribute [local go_sem] Oper.semAt_some run_store_func run_store_nilFunc
/-- A chain that may be copied. -/
def InCh2 (W : World) (z : AV) : Prop := ∃ A c, z.2 = .slice A z.1.lay.length c ∧ Reads W W.heap.size 3 A z.1.lay.length (layV z.1.lay) ∧ z.1.lay.length * 32 ≤ 140737488351232
section
variable {N : Nat} {w0 W W' : World} {R : Thing}
theorem ChIs.two {z : AV} (h : ChIs W z.1 z.2) : InCh2 W z := by
  obtain ⟨A, c, e, hr, hk⟩ := h
  unfold Val.ok at hk
  exact ⟨A, c, e, hr, by omega⟩
theorem InCh2.below {z : AV} (h : InCh2 W z) (hb : Below W.heap.size W W') : InCh2 W' z := by
  obtain ⟨A, c, e, hr, hm⟩ := h
  exact ⟨A, c, e, (hr.below hb).more hb.size, hm⟩
theorem in2_at {l : List AV} {A : Option Addr} {B n : Nat} (hn : n = l.length) (hr : Reads W B 5 A n (avV l)) (hq : ∀ y ∈ l, InCh2 W y) (i : Nat) (hi : i < l.length) : ∃ b off tag num bits s lay A2 c2, A = some ⟨b, off, none⟩ ∧ l[i] = ((⟨tag, num, bits, s, lay⟩ : Val), Value.slice A2 lay.length c2) ∧
    (W.cell? ⟨b, off + i * 5, none⟩ = some (.int .i64 tag) ∧ W.cell? ⟨b, off + i * 5 + 1, none⟩ = some (.int .i64 num) ∧ W.cell? ⟨b, off + i * 5 + 2, none⟩ = some (.int .u64 bits) ∧ W.cell? ⟨b, off + i * 5 + 3, none⟩ = some (.string s) ∧ W.cell? ⟨b, off + i * 5 + 4, none⟩ = some (.slice A2 lay.length c2)) ∧
    Reads W W.heap.size 3 A2 lay.length (layV lay) ∧ lay.length * 32 ≤ 140737488351232 := by
  subst hn
  obtain ⟨b, off, e, _, hc⟩ := reads_addr hr (by omega) (by decide)
  have e0 := fun j u (hj : j < 5) (hu : (l[i].1.cs l[i].2)[j]? = some u) => hc (i * 5 + j) u ((avV_at l i hi j hj).trans hu)
  obtain ⟨A2, c2, h2, hr2, hm2⟩ := hq l[i] (List.getElem_mem hi)
  generalize l[i] = y at *
  obtain ⟨⟨tag, num, bits, s, lay⟩, ch⟩ := y
  dsimp only at h2 hr2 hm2
  subst h2
  have q0 := e0 0 _ (by decide) rfl
  have q1 := e0 1 _ (by decide) rfl
  have q2 := e0 2 _ (by decide) rfl
  have q3 := e0 3 _ (by decide) rfl
  have q4 := e0 4 _ (by decide) rfl
  rw [Nat.add_zero] at q0
  rw [← Nat.add_assoc] at q1 q2 q3 q4
  exact ⟨b, off, tag, num, bits, s, lay, A2, c2, e, rfl, ⟨q0, q1, q2, q3, q4⟩, hr2, hm2⟩
set_option maxRecDepth 100000 in
set_option maxHeartbeats 1600000 in
theorem copyVs_big (l : List AV) (A : Option Addr) (c : Nat) (H : Lies N w0 W R) (hr : Reads W W.heap.size 5 A l.length (avV l)) (hq : ∀ y ∈ l, InCh2 W y) (hn : l.length * 64 ≤ 140737488351232) :
    Calls Try.prog 54 #[.slice A l.length c] W fun e w' => ∃ y, e = .returned y ∧ Lies N w0 w' (sepT (valsT (l.map (·.1)) y) R) ∧ Below W.heap.size W w' := by
  have HX := Lib.hid (And.intro hr hq)
  have HH := Lib.hid (rows_nil (Lies.nil W))
  obtain ⟨n, hnn⟩ : ∃ n, n = l.length := ⟨_, rfl⟩
  have HN := Lib.hid hnn
  rw [← hnn] at hn ⊢
  have H0 := Lib.hid H
  clear hr hq H hnn
  go_enter Try.func54, Try.ntmps54
  go_wp2
  go_loopw [3, 4] (fun out ix wr => ∃ (i : Nat) (acc : List AV) (Ao : Option Addr) (co : Nat), out = .slice Ao acc.length co ∧ ix = .int .i64 i ∧ i ≤ n ∧ (acc.length = i ∧ acc.map (·.1) = (l.take i).map (·.1)) ∧ Lies W.heap.size W wr (sepT (rowsT (.slice Ao acc.length co) acc) empT)) (fun _ ix _ => n - (intOf ix).toNat)
  case atStart => exact ⟨0, [], none, 0, rfl, rfl, Nat.zero_le _, ⟨rfl, rfl⟩, HH.out⟩
  case round =>
    obtain ⟨i, acc, Ao, co, rfl, rfl, hi, hacc, hh⟩ := hrel
    have HA := Lib.hid hacc
    have HB := Lib.hid hh
    clear hacc hh HH
    by_cases hlt : i < n
    · have hlt' : (i : Int) < (n : Int) := by omega
      have hlx : i < l.length := by have := HN.out; omega
      obtain ⟨b, off, tag, num, bits, s, lay, A2, c2, hA, he, ⟨p0, p1, p2, p3, p4⟩, hr2, hm2⟩ := in2_at HN.out (by have h := (HX.out.1.below HB.out.below).more HB.out.below.size; rw [← HN.out] at h; exact h) (fun y hy => (HX.out.2 y hy).below HB.out.below) i hlx
      subst hA
      have HC := Lib.hid (copyV_big ⟨tag, num, bits, s, lay⟩ A2 c2 wr hr2 hm2)
      simp only [Val.go] at HC
      have HE := Lib.hid he
      clear he hr2 hm2
      go_wp2_with fail
      refine HC.out.mono ?_
      rintro e w1 ⟨ch, rfl, hown, hb1⟩
      obtain ⟨A3, c3, rfl, _⟩ := own_form hown
      have h1 := HB.out.newRow hown hb1
      obtain ⟨acc2, hE2, A', c', w', hrun, h2, _⟩ := append_one acc (.slice Ao acc.length co) ⟨tag, num, bits, s, lay⟩ A3 c3 (R := empT) (h1.turn (by unfold chainT; ac_rfl)) (by have := HA.out.1; omega)
      have HR := Lib.hid hrun
      have HE2 := Lib.hid hE2
      have H2 := Lib.hid h2
      clear hown hb1 h1 hrun hE2 h2 HC
      simp only at HR
      go_wp2_with (at_builtin; refine wpList_append_run rfl (.tmp 11) (.tmp 17) 31 31 rfl rfl rfl rfl HR.out ?_)
      go_roundw
      case rel =>
        refine ⟨i + 1, acc2, A', c', rfl, by go_num, by omega, ⟨by rw [HE2.out]; simp [HA.out.1], ?_⟩, H2.out⟩
        rw [HE2.out, List.map_append, HA.out.2, List.take_succ_eq_append_getElem hlx, List.map_append, HE.out]
        rfl
      case measure => simp [intOf]; omega
    · have hlt' : ¬ (i : Int) < (n : Int) := by omega
      obtain rfl : i = n := by omega
      go_wp2
      go_ret
      have ha := HA.out.2
      rw [List.take_of_length_le (by have := HN.out; omega)] at ha
      refine ⟨_, rfl, ?_, HB.out.below⟩
      refine vals_in ha ?_
      obtain ⟨F, hF, hFN⟩ := HB.out.get
      exact H0.out.add _ (Only.of_below HB.out.below fun b hb hn => by omega) ⟨F, hF, hFN⟩
set_option maxRecDepth 100000 in
set_option maxHeartbeats 1600000 in
theorem over_any (A : Option Addr) (n c : Nat) (xs : List Value) (H : Lies N w0 W (sepT (rowT 104 3 (.slice A n c) n xs) R)) (hn : n ≤ 1000000000000000) :
    Calls Try.prog 34 #[.slice A n c] W fun e w' => e = .returned (.tuple #[]) ∧ ∃ ys, Lies N w0 w' (sepT (rowT 104 3 (.slice A n c) n ys) R) := by
  have HH := Lib.hid H
  clear H
  go_enter Try.func34, Try.ntmps34
  go_wp2
  go_loopw [2] (fun ix wr => ∃ (i : Nat) (ys : List Value), ix = .int .i64 i ∧ i ≤ n ∧ Lies N w0 wr (sepT (rowT 104 3 (.slice A n c) n ys) R)) (fun ix _ => n - (intOf ix).toNat)
  case atStart => exact ⟨0, xs, rfl, Nat.zero_le _, HH.out⟩
  case round =>
    obtain ⟨i, ys, rfl, hi, hh⟩ := hrel
    clear HH
    by_cases hlt : i < n
    · have hlt' : (i : Int) < (n : Int) := by omega
      have hrow := hh.row
      obtain ⟨g, cap, hA, _⟩ := hrow.form (by omega)
      obtain rfl : A = some ⟨g, 0, none⟩ := by injection hA
      have hlen := hrow.1
      have k0 : (wr.cell? ⟨g, i * 3, none⟩).isSome = true := by rw [hrow.cellAt _ (by omega)]; simp [hlen]; omega
      have k1 : (wr.cell? ⟨g, i * 3 + 1, none⟩).isSome = true := by rw [hrow.cellAt _ (by omega)]; simp [hlen]; omega
      have k2 : (wr.cell? ⟨g, i * 3 + 2, none⟩).isSome = true := by rw [hrow.cellAt _ (by omega)]; simp [hlen]; omega
      obtain ⟨x0, k0⟩ := Option.isSome_iff_exists.1 k0
      obtain ⟨x1, k1⟩ := Option.isSome_iff_exists.1 k1
      obtain ⟨x2, k2⟩ := Option.isSome_iff_exists.1 k2
      have f0 := hrow.frozenAt (i * 3)
      have f1 := hrow.frozenAt (i * 3 + 1)
      have f2 := hrow.frozenAt (i * 3 + 2)
      have HH := Lib.hid hh
      clear hh hrow hlen hA
      go_wp2
      go_roundw
      case rel => exact ⟨i + 1, _, by go_num, by omega, ((HH.out.store (i * 3) (.bool false)).store (i * 3 + 1) (.string ⟨#[79, 118, 101, 114]⟩)).store (i * 3 + 2) (.int .i64 (-7))⟩
      case measure => simp [intOf]; omega
    · have hlt' : ¬ (i : Int) < (n : Int) := by omega
      have HH := Lib.hid hh
      clear hh
      go_wp2
      go_end0
      exact ⟨rfl, _, HH.out⟩
end
end Go.Proofs.Ytiaeckljpdhagaa
/- The document's frames: as a thing; New, top, Where, Height, Jump, Return. -/
namespace Go.Proofs.Ytiaeckljpdhagaa
open Go.RowKit
set_option linter.unusedVariables false
set_option linter.unusedSimpArgs false
attribute [local go_sem] Oper.semAt_some run_store_func run_store_nilFunc
abbrev RD := Cal × (Value × Value) × List AV × List AV
def rcs (x : RD) : List Value := [.int .i64 x.1.number, .int .i64 x.1.place, x.2.1.1, x.2.1.2]
def rT (x : RD) : Thing := sepT (rowsT x.2.1.1 x.2.2.1) (rowsT x.2.1.2 x.2.2.2)
def rsT : List RD → Thing
  | [] => empT
  | x :: l => sepT (rT x) (rsT l)
theorem rsT_app (a b : List RD) : rsT (a ++ b) = sepT (rsT a) (rsT b) := by
  induction a with
  | nil => rw [List.nil_append, rsT, empT_sep]
  | cons x a ih => rw [List.cons_append, rsT, rsT, ih, sepT_assoc]
def rOk (x : RD) : Prop := x.1.ok ∧ x.2.2.1.map (·.1) = x.1.locals ∧ x.2.2.2.map (·.1) = x.1.stack
def refT (q : Nat) (most : Int) (fr : List Cal) : Thing := someT fun x : Value × List RD => sepT (factT ((x.2.map (·.1) = fr ∧ ∀ y ∈ x.2, rOk y) ∧ 1 ≤ most ∧ most ≤ 200 ∧ (fr.length : Int) ≤ most))
  (sepT (blkT q 64 #[.int .i64 most, x.1]) (sepT (rowT 102 4 x.1 x.2.length (x.2.flatMap rcs)) (rsT x.2)))
/-- All but the last call's values. -/
def rtT (q : Nat) (most : Int) (g cp : Nat) (ys : List RD) (y : RD) : Thing := sepT (blkT q 64 #[.int .i64 most, .slice (some ⟨g, 0, none⟩) (ys.length + 1) cp]) (sepT (rowT 102 4 (.slice (some ⟨g, 0, none⟩) (ys.length + 1) cp) (ys.length + 1) (ys.flatMap rcs ++ rcs y)) (rsT ys))
theorem rcs_len (l : List RD) : (l.flatMap rcs).length = l.length * 4 := by
  induction l with
  | nil => rfl
  | cons x l ih => simp only [List.flatMap_cons, List.length_append, ih, List.length_cons, rcs, List.length_nil]; omega
section
variable {N : Nat} {w0 W : World} {R : Thing} {q : Nat} {most : Int} {fr : List Cal}
theorem ref_parts (H : Lies N w0 W (sepT (refT q most fr) R)) : ∃ sl l, ((l.map (·.1) = fr ∧ ∀ y ∈ l, rOk y) ∧ 1 ≤ most ∧ most ≤ 200 ∧ (fr.length : Int) ≤ most) ∧
    Lies N w0 W (sepT (blkT q 64 #[.int .i64 most, sl]) (sepT (rowT 102 4 sl l.length (l.flatMap rcs)) (sepT (rsT l) R))) := by
  obtain ⟨⟨sl, l⟩, H⟩ := H.ex
  rw [sepT_assoc] at H
  obtain ⟨h, H⟩ := H.fact
  exact ⟨sl, l, h, H.turn (by ac_rfl)⟩
theorem ref_whole {sl : Value} {l : List RD} (h : (l.map (·.1) = fr ∧ ∀ y ∈ l, rOk y) ∧ 1 ≤ most ∧ most ≤ 200 ∧ (fr.length : Int) ≤ most)
    (H : Lies N w0 W (sepT (blkT q 64 #[.int .i64 most, sl]) (sepT (rowT 102 4 sl l.length (l.flatMap rcs)) (sepT (rsT l) R)))) : Lies N w0 W (sepT (refT q most fr) R) := by
  refine Lies.intro (sl, l) ?_
  rw [sepT_assoc]
  exact (H.turn (by ac_rfl)).withFact h
theorem ref_top {k : Cal} (H : Lies N w0 W (sepT (refT q most (fr ++ [k])) R)) : ∃ g cp ys y, (ys.map (·.1) = fr ∧ y.1 = k) ∧ ((∀ z ∈ ys, rOk z) ∧ rOk y) ∧ (1 ≤ most ∧ most ≤ 200 ∧ (ys.length : Int) + 1 ≤ most) ∧
    Lies N w0 W (sepT (rtT q most g cp ys y) (sepT (rT y) R)) := by
  obtain ⟨sl, l, ⟨⟨h1, h2⟩, h3⟩, H⟩ := ref_parts H
  obtain ⟨ys, y, rfl⟩ : ∃ ys y, l = ys ++ [y] := by
    rcases List.eq_nil_or_concat l with h | ⟨a, b, h⟩
    · rw [h] at h1; simp at h1
    · exact ⟨a, b, by rw [h]; simp⟩
  rw [List.map_append, List.map_singleton] at h1
  obtain ⟨e1, e2⟩ := List.append_inj' h1 rfl
  have e2' : y.1 = k := by simpa using e2
  have hlen : fr.length = ys.length := by rw [← e1, List.length_map]
  have hr : W.ownsRow 0 102 4 sl (ys.length + 1) ((ys ++ [y]).flatMap rcs) := by have := H.drop.row; rwa [List.length_append] at this
  obtain ⟨g, cp, rfl, _⟩ := hr.form (Nat.succ_pos _)
  refine ⟨g, cp, ys, y, ⟨e1, e2'⟩, ⟨fun z hz => h2 z (List.mem_append_left _ hz), h2 y (by simp)⟩, ⟨h3.1, h3.2.1, by have := h3.2.2; rw [List.length_append, List.length_singleton] at this; omega⟩, H.turn ?_⟩
  unfold rtT
  rw [rsT_app, List.flatMap_append, List.length_append, List.length_singleton]
  show sepT _ (sepT (rowT 102 4 _ _ (ys.flatMap rcs ++ (rcs y ++ []))) (sepT (sepT (rsT ys) (sepT (rT y) empT)) R)) = _
  rw [sep_empT, List.append_nil]
  ac_rfl
theorem ref_untop {g cp : Nat} {ys : List RD} {y : RD} {fr : List Cal} (hf : ys.map (·.1) = fr) (h2 : (∀ z ∈ ys, rOk z) ∧ rOk y) (hm : 1 ≤ most ∧ most ≤ 200 ∧ (ys.length : Int) + 1 ≤ most) (H : Lies N w0 W (sepT (rtT q most g cp ys y) (sepT (rT y) R))) :
    Lies N w0 W (sepT (refT q most (fr ++ [y.1])) R) := by
  refine ref_whole (sl := .slice (some ⟨g, 0, none⟩) (ys.length + 1) cp) (l := ys ++ [y]) ⟨⟨by rw [List.map_append, hf, List.map_singleton], fun z hz => ?_⟩, hm.1, hm.2.1, ?_⟩ (H.turn ?_)
  · rcases List.mem_append.1 hz with hz | hz
    · exact h2.1 z hz
    · rw [List.mem_singleton.1 hz]; exact h2.2
  · have : fr.length = ys.length := by rw [← hf, List.length_map]
    rw [List.length_append, List.length_singleton]
    have := hm.2.2
    omega
  · unfold rtT
    rw [rsT_app, List.flatMap_append, List.length_append, List.length_singleton]
    show _ = sepT _ (sepT (rowT 102 4 _ _ (ys.flatMap rcs ++ (rcs y ++ []))) (sepT (sepT (rsT ys) (sepT (rT y) empT)) R))
    rw [sep_empT, List.append_nil]
    ac_rfl
/-- What stands there. -/
theorem rt_cells {g cp : Nat} {ys : List RD} {y : RD} (H : Lies N w0 W (sepT (rtT q most g cp ys y) R)) : W.cell? ⟨q, 0, none⟩ = some (.int .i64 most) ∧ W.cell? ⟨q, 1, none⟩ = some (.slice (some ⟨g, 0, none⟩) (ys.length + 1) cp) ∧
    W.cell? ⟨g, ys.length * 4, none⟩ = some (.int .i64 y.1.number) ∧ W.cell? ⟨g, ys.length * 4 + 1, none⟩ = some (.int .i64 y.1.place) ∧ W.cell? ⟨g, ys.length * 4 + 2, none⟩ = some y.2.1.1 ∧ W.cell? ⟨g, ys.length * 4 + 3, none⟩ = some y.2.1.2 ∧
    ∀ j, W.frozen? ⟨g, j, none⟩ = false := by
  have H1 : Lies N w0 W (sepT (blkT q 64 #[.int .i64 most, .slice (some ⟨g, 0, none⟩) (ys.length + 1) cp]) (sepT (rowT 102 4 (.slice (some ⟨g, 0, none⟩) (ys.length + 1) cp) (ys.length + 1) (ys.flatMap rcs ++ rcs y)) (sepT (rsT ys) R))) := H.turn (by unfold rtT; ac_rfl)
  have hb := H1.blk.1
  have hr := H1.drop.row
  have hc : ∀ j, j < 4 → W.cell? ⟨g, ys.length * 4 + j, none⟩ = (rcs y)[j]? := fun j hj => by
    rw [hr.cellAt _ (by omega), ← rcs_len ys, List.getElem?_append_right (by omega), Nat.add_sub_cancel_left]
  exact ⟨hb.cell 0, hb.cell 1, hc 0 (by decide), hc 1 (by decide), hc 2 (by decide), hc 3 (by decide), fun j => hr.frozenAt j⟩
theorem rcs_set {a : List Value} {n : Nat} (hn : a.length = n) (c0 c1 c2 c3 u : Value) : (a ++ [c0, c1, c2, c3]).set (n + 1) u = a ++ [c0, u, c2, c3] ∧ (a ++ [c0, c1, c2, c3]).set (n + 3) u = a ++ [c0, c1, c2, u] := by
  subst hn
  constructor <;> simp
theorem rt_store1 {g cp : Nat} {ys : List RD} {y : RD} (pl : Int) (H : Lies N w0 W (sepT (rtT q most g cp ys y) R)) : Lies N w0 (W.setCell ⟨g, ys.length * 4 + 1, none⟩ (.int .i64 pl)) (sepT (rtT q most g cp ys ({ y.1 with place := pl }, y.2)) R) := by
  have H1 : Lies N w0 W (sepT (rowT 102 4 (.slice (some ⟨g, 0, none⟩) (ys.length + 1) cp) (ys.length + 1) (ys.flatMap rcs ++ rcs y)) (sepT (blkT q 64 #[.int .i64 most, .slice (some ⟨g, 0, none⟩) (ys.length + 1) cp]) (sepT (rsT ys) R))) := H.turn (by unfold rtT; ac_rfl)
  have h2 := H1.store (ys.length * 4 + 1) (.int .i64 pl)
  have e : (ys.flatMap rcs ++ rcs y).set (ys.length * 4 + 1) (.int .i64 pl) = ys.flatMap rcs ++ rcs ({ y.1 with place := pl }, y.2) := (rcs_set (rcs_len ys) _ _ _ _ _).1
  rw [e] at h2
  exact h2.turn (by unfold rtT; ac_rfl)
theorem rt_store3 {g cp : Nat} {ys : List RD} {y : RD} (ss : Value) (sa : List AV) (st : List Val) (H : Lies N w0 W (sepT (rtT q most g cp ys y) R)) : Lies N w0 (W.setCell ⟨g, ys.length * 4 + 3, none⟩ ss) (sepT (rtT q most g cp ys ({ y.1 with stack := st }, (y.2.1.1, ss), y.2.2.1, sa)) R) := by
  have H1 : Lies N w0 W (sepT (rowT 102 4 (.slice (some ⟨g, 0, none⟩) (ys.length + 1) cp) (ys.length + 1) (ys.flatMap rcs ++ rcs y)) (sepT (blkT q 64 #[.int .i64 most, .slice (some ⟨g, 0, none⟩) (ys.length + 1) cp]) (sepT (rsT ys) R))) := H.turn (by unfold rtT; ac_rfl)
  have h2 := H1.store (ys.length * 4 + 3) ss
  have e : (ys.flatMap rcs ++ rcs y).set (ys.length * 4 + 3) ss = ys.flatMap rcs ++ rcs ({ y.1 with stack := st }, (y.2.1.1, ss), y.2.2.1, sa) := (rcs_set (rcs_len ys) _ _ _ _ _).2
  rw [e] at h2
  exact h2.turn (by unfold rtT; ac_rfl)
/-- Frames without a call. -/
theorem ref_empty (H : Lies N w0 W (sepT (refT q most []) R)) : ∃ A c, W.cell? ⟨q, 0, none⟩ = some (.int .i64 most) ∧ W.cell? ⟨q, 1, none⟩ = some (.slice A 0 c) := by
  obtain ⟨sl, l, ⟨⟨h1, h2⟩, h3⟩, H⟩ := ref_parts H
  obtain rfl : l = [] := by simpa using h1
  obtain ⟨A, c, rfl, _⟩ := own_form H.drop.row
  exact ⟨A, c, H.blk.1.cell 0, H.blk.1.cell 1⟩
theorem rtop_nil (H : Lies N w0 W (sepT (refT q most []) R)) : Calls Try.prog 66 #[.pointer (some ⟨q, 0, none⟩)] W fun e w' => e = .returned (.pointer none) ∧ W = w' := by
  obtain ⟨A, c, h0, h1⟩ := ref_empty H
  clear H
  go_enter Try.func66, Try.ntmps66
  go_wp2
  go_ret
  exact ⟨rfl, rfl⟩
set_option maxRecDepth 100000 in
theorem rtop_call {g cp : Nat} {ys : List RD} {y : RD} (H : Lies N w0 W (sepT (rtT q most g cp ys y) R)) (hn : ys.length ≤ 1000) : Calls Try.prog 66 #[.pointer (some ⟨q, 0, none⟩)] W fun e w' => e = .returned (.pointer (some ⟨g, ys.length * 4, none⟩)) ∧ ∃ n, w' = W.drewN n := by
  obtain ⟨_, h1, _⟩ := rt_cells H
  obtain ⟨n, hnn⟩ : ∃ n, n = ys.length := ⟨_, rfl⟩
  rw [← hnn] at hn h1 ⊢
  have hwr : IntKind.i64.wrap (n : Int) = (n : Int) := IntWalk.i64_in _ (by omega)
  have hnlt : (n : Int) < (n : Int) + 1 := by omega
  clear H hnn
  go_enter Try.func66, Try.ntmps66
  go_wp2
  go_quiet (fail)
  go_wp2
  go_ret
  exact ⟨rfl, _, rfl⟩
theorem rnew_bad (w : World) (h : most < 1 ∨ 200 < most) : Calls Try.prog 26 #[.int .i64 most] w fun e w' => e = .returned (.tuple #[.pointer none, .int .i64 3]) ∧ w = w' := by
  by_cases h1 : most < 1
  · go_enter Try.func26, Try.ntmps26
    go_wp2
    go_ret2
    exact ⟨rfl, rfl⟩
  · have h2 : 200 < most := by omega
    go_enter Try.func26, Try.ntmps26
    go_wp2
    go_ret2
    exact ⟨rfl, rfl⟩
theorem rnew_good (h1 : 1 ≤ most) (h2 : most ≤ 200) (H : Lies N w0 W R) : Calls Try.prog 26 #[.int .i64 most] W fun e w' => ∃ q, e = .returned (.tuple #[.pointer (some ⟨q, 0, none⟩), .int .i64 0]) ∧ Lies N w0 w' (sepT (refT q most []) R) := by
  have h1' : ¬ most < 1 := by omega
  have h2' : ¬ 200 < most := by omega
  have HH := Lib.hid (H.newBlk 64 #[.int .i64 most, .slice none 0 0])
  clear H
  go_enter Try.func26, Try.ntmps26
  go_wp2
  go_ret2
  refine ⟨_, rfl, ref_whole (sl := .slice none 0 0) (l := []) ⟨⟨rfl, fun y hy => by cases hy⟩, h1, h2, by simp; omega⟩ ?_⟩
  have h3 := (HH.out.add (rowT 102 4 (.slice none 0 0) 0 []) (Only.refl _ _) ⟨_, ⟨World.ownsRow_nil _ _ _ _, rfl⟩, fun b hb => by simp [Value.ownBlock] at hb⟩)
  refine h3.turn ?_
  show _ = sepT _ (sepT (rowT 102 4 (.slice none 0 0) 0 []) (sepT empT R))
  rw [empT_sep]
  ac_rfl
set_option maxRecDepth 100000 in
theorem rwhere_all (H : Lies N w0 W (sepT (refT q most fr) R)) : Calls Try.prog 29 #[.pointer (some ⟨q, 0, none⟩)] W fun e w' => e = .returned (.tuple #[.int .i64 (ftop fr 0 (·.number)), .int .i64 (ftop fr 0 (·.place))]) ∧ Lies N w0 w' (sepT (refT q most fr) R) := by
  rcases fr_cases fr with rfl | ⟨f, k, rfl⟩
  · have HT := Lib.hid (rtop_nil H)
    have HH := Lib.hid H
    clear H
    simp only [ftop_nil]
    go_enter Try.func29, Try.ntmps29
    go_wp2_with fail
    refine HT.out.mono ?_
    rintro e w' ⟨rfl, rfl⟩
    go_wp2
    go_ret2
    exact ⟨rfl, HH.out⟩
  · obtain ⟨g, cp, ys, y, ⟨rfl, rfl⟩, hok, hm, H1⟩ := ref_top H
    obtain ⟨_, c1, d0, d1, d2, d3, _⟩ := rt_cells H1
    have HT := Lib.hid (rtop_call H1 (by omega))
    have HH := Lib.hid H
    clear H H1 hok hm
    simp only [ftop_snoc]
    generalize ys.length = n at *
    go_enter Try.func29, Try.ntmps29
    go_wp2_with fail
    refine HT.out.mono ?_
    rintro e w' ⟨rfl, m, rfl⟩
    go_wp2
    go_quiet (fail)
    go_wp2
    go_ret2
    exact ⟨rfl, (HH.out.drewN _).drewN _⟩
set_option maxRecDepth 100000 in
theorem rheight_all (H : Lies N w0 W (sepT (refT q most fr) R)) : Calls Try.prog 32 #[.pointer (some ⟨q, 0, none⟩)] W fun e w' => e = .returned (.int .i64 (ftop fr 0 fun k => (k.stack.length : Int))) ∧ Lies N w0 w' (sepT (refT q most fr) R) := by
  rcases fr_cases fr with rfl | ⟨f, k, rfl⟩
  · have HT := Lib.hid (rtop_nil H)
    have HH := Lib.hid H
    clear H
    simp only [ftop_nil]
    go_enter Try.func32, Try.ntmps32
    go_wp2_with fail
    refine HT.out.mono ?_
    rintro e w' ⟨rfl, rfl⟩
    go_wp2
    go_ret
    exact ⟨rfl, HH.out⟩
  · obtain ⟨g, cp, ys, y, ⟨rfl, rfl⟩, hok, hm, H1⟩ := ref_top H
    obtain ⟨_, c1, d0, d1, d2, d3, _⟩ := rt_cells H1
    have HT := Lib.hid (rtop_call H1 (by omega))
    have hr : W.ownsRow 0 30 5 y.2.1.2 y.2.2.2.length (avV y.2.2.2) := (H1.turn (a' := sepT (rowT 30 5 y.2.1.2 y.2.2.2.length (avV y.2.2.2)) (sepT (chainsT y.2.2.2) (sepT (rowsT y.2.1.1 y.2.2.1) (sepT (rtT q most g cp ys y) R)))) (by unfold rT rowsT; ac_rfl)).row
    obtain ⟨A, c, hs, _⟩ := own_form hr
    have hl : y.2.2.2.length = y.1.stack.length := by rw [← hok.2.2.2, List.length_map]
    rw [hs, hl] at d3
    have HH := Lib.hid H
    clear H H1 hok hm hr hs hl d2
    simp only [ftop_snoc]
    generalize ys.length = n at *
    go_enter Try.func32, Try.ntmps32
    go_wp2_with fail
    refine HT.out.mono ?_
    rintro e w' ⟨rfl, m, rfl⟩
    go_wp2
    go_ret
    exact ⟨rfl, HH.out.drewN _⟩
set_option maxRecDepth 100000 in
theorem rjump_all (place : Int) (H : Lies N w0 W (sepT (refT q most fr) R)) : Calls Try.prog 63 #[.pointer (some ⟨q, 0, none⟩), .int .i64 place] W fun e w' => e = .returned (.int .i64 (ftop fr 17 fun _ => jumpE place)) ∧ Lies N w0 w' (sepT (refT q most (fup fr (·.jump place))) R) := by
  rcases fr_cases fr with rfl | ⟨f, k, rfl⟩
  · have HT := Lib.hid (rtop_nil H)
    have HH := Lib.hid H
    clear H
    simp only [ftop_nil, fup_nil]
    go_enter Try.func63, Try.ntmps63
    go_wp2_with fail
    refine HT.out.mono ?_
    rintro e w' ⟨rfl, rfl⟩
    go_wp2
    go_ret
    exact ⟨rfl, HH.out⟩
  · obtain ⟨g, cp, ys, y, ⟨rfl, rfl⟩, hok, hm, H1⟩ := ref_top H
    obtain ⟨_, c1, d0, d1, d2, d3, hfz⟩ := rt_cells H1
    have HT := Lib.hid (rtop_call H1 (by omega))
    simp only [ftop_snoc, fup_snoc]
    by_cases hp : place < 0
    · have e1 : jumpE place = 3 := if_pos hp
      have e2 : y.1.jump place = y.1 := if_pos hp
      rw [e1, e2]
      have HH := Lib.hid H
      clear H H1 hok hm e1 e2 hfz
      go_enter Try.func63, Try.ntmps63
      go_wp2_with fail
      refine HT.out.mono ?_
      rintro e w' ⟨rfl, m, rfl⟩
      go_wp2
      go_ret
      exact ⟨rfl, HH.out.drewN _⟩
    · have e1 : jumpE place = 0 := if_neg hp
      have e2 : y.1.jump place = { y.1 with place := place } := if_neg hp
      rw [e1, e2]
      have f1 := hfz (ys.length * 4 + 1)
      have HF := Lib.hid (fun m => ref_untop (fr := ys.map (·.1)) rfl ⟨hok.1, (⟨hok.2.1, hok.2.2.1, hok.2.2.2⟩ : rOk ({ y.1 with place := place }, y.2))⟩ hm (((rt_store1 place (H1.drewN m)))))
      clear H H1 hok hm e1 e2 hfz
      go_enter Try.func63, Try.ntmps63
      go_wp2_with fail
      refine HT.out.mono ?_
      rintro e w' ⟨rfl, m, rfl⟩
      go_wp2
      go_ret
      refine ⟨rfl, ?_⟩
      exact HF.out m
end
end Go.Proofs.Ytiaeckljpdhagaa
/- The document's frames: Return, Push, Take, Pop. -/
namespace Go.Proofs.Ytiaeckljpdhagaa
open Go.RowKit
set_option linter.unusedVariables false
set_option linter.unusedSimpArgs false
attribute [local go_sem] Oper.semAt_some run_store_func run_store_nilFunc
section
variable {N : Nat} {w0 W : World} {R : Thing} {q : Nat} {most : Int} {fr : List Cal}
theorem r_shrink {g cp : Nat} {ys : List RD} {y : RD} (h2 : ∀ z ∈ ys, rOk z) (hm : 1 ≤ most ∧ most ≤ 200 ∧ (ys.length : Int) + 1 ≤ most) (H : Lies N w0 W (sepT (rtT q most g cp ys y) (sepT (rT y) R))) :
    Lies N w0 (W.setCell ⟨q, 1, none⟩ (.slice (some ⟨g, 0, none⟩) ys.length cp)) (sepT (refT q most (ys.map (·.1))) R) := by
  have h1 := (H.turn (a' := sepT (blkT q 64 #[.int .i64 most, .slice (some ⟨g, 0, none⟩) (ys.length + 1) cp]) (sepT (rowT 102 4 (.slice (some ⟨g, 0, none⟩) (ys.length + 1) cp) (ys.length + 1) (ys.flatMap rcs ++ rcs y)) (sepT (rsT ys) (sepT (rT y) R)))) (by unfold rtT; ac_rfl)).setBlk 1 (.slice (some ⟨g, 0, none⟩) ys.length cp)
  have h3 := (h1.turn (a' := sepT (rowT 102 4 (.slice (some ⟨g, 0, none⟩) (ys.length + 1) cp) (ys.length + 1) (ys.flatMap rcs ++ rcs y)) (sepT (blkT q 64 #[.int .i64 most, .slice (some ⟨g, 0, none⟩) ys.length cp]) (sepT (rsT ys) (sepT (rT y) R)))) (by
    show sepT (blkT q 64 #[.int .i64 most, .slice (some ⟨g, 0, none⟩) ys.length cp]) _ = _
    ac_rfl)).shrunk ys.length (Nat.le_succ _)
  rw [List.take_left' (rcs_len ys)] at h3
  exact ref_whole (sl := .slice (some ⟨g, 0, none⟩) ys.length cp) (l := ys) ⟨⟨rfl, h2⟩, hm.1, hm.2.1, by rw [List.length_map]; have := hm.2.2; omega⟩ ((h3.turn (a' := sepT (rT y) (sepT (blkT q 64 #[.int .i64 most, .slice (some ⟨g, 0, none⟩) ys.length cp]) (sepT (rowT 102 4 (.slice (some ⟨g, 0, none⟩) ys.length cp) ys.length (ys.flatMap rcs)) (sepT (rsT ys) R)))) (by ac_rfl)).drop)
def loRr (i : Nat) : Nat := 0
def upRr (i : Nat) : Nat := [0, 0, 0, 0, 0, 0, 0, 0, 0, 0, 0, 0, 0, 0, 1].getD i 0
set_option maxRecDepth 100000 in
theorem rreturn_all (H : Lies N w0 W (sepT (refT q most fr) R)) : Calls Try.prog 56 #[.pointer (some ⟨q, 0, none⟩)] W fun e w' => e = .returned (.int .i64 (ftop fr 17 fun _ => 0)) ∧ Lies N w0 w' (sepT (refT q most fr.dropLast) R) := by
  rcases fr_cases fr with rfl | ⟨f, k, rfl⟩
  · obtain ⟨A, c, c0, c1⟩ := ref_empty H
    have HH := Lib.hid H
    clear H
    go_enter Try.func56, Try.ntmps56
    go_wp2
    go_ret
    exact ⟨rfl, HH.out⟩
  · rw [ftop_snoc, List.dropLast_concat]
    obtain ⟨g, cp, ys, y, ⟨rfl, rfl⟩, hok, hm, H1⟩ := ref_top H
    obtain ⟨_, c1, _⟩ := rt_cells H1
    have fq : W.frozen? ⟨q, 1, none⟩ = false := (H1.turn (a' := sepT (blkT q 64 #[.int .i64 most, .slice (some ⟨g, 0, none⟩) (ys.length + 1) cp]) (sepT (rowT 102 4 (.slice (some ⟨g, 0, none⟩) (ys.length + 1) cp) (ys.length + 1) (ys.flatMap rcs ++ rcs y)) (sepT (rsT ys) (sepT (rT y) R)))) (by unfold rtT; ac_rfl)).blk.1.frozen 1
    have HF := Lib.hid (r_shrink hok.1 hm H1.drew)
    have hcp : ys.length + 1 ≤ cp := by
      obtain ⟨_, _, h', h''⟩ := own_form ((H1.turn (a' := sepT (rowT 102 4 (.slice (some ⟨g, 0, none⟩) (ys.length + 1) cp) (ys.length + 1) (ys.flatMap rcs ++ rcs y)) (sepT (blkT q 64 #[.int .i64 most, .slice (some ⟨g, 0, none⟩) (ys.length + 1) cp]) (sepT (rsT ys) (sepT (rT y) R)))) (by unfold rtT; ac_rfl)).row)
      injection h' with _ _ h3
      omega
    have hb : ys.length ≤ 1000 := by omega
    clear H H1 hok hm
    generalize ys.length = n at *
    have hwr : IntKind.i64.wrap (n : Int) = (n : Int) := IntWalk.i64_in _ (by omega)
    have hnlt : (n : Int) ≤ (n : Int) + 1 := by omega
    have hncp : (n : Int) ≤ (cp : Int) := by omega
    clear hcp
    go_enter Try.func56, Try.ntmps56
    go_wp2_with fail
    refine wp_region_text [14] loRr upRr (by kernel_rfl) (by kernel_rfl) (by kernel_rfl) (by kernel_rfl) (by kernel_rfl) ?_
    repeat (refine wpTx_now (by rfl) (by rfl) (by rfl) (fun K hK => ?_); go_simp; refine hK _ ?_; clear hK K)
    refine wpTx_eff (by rfl) (fun K hK => ?_)
    go_simp
    refine hK _ _ (by simp [lateOK]) ?_
    clear hK K
    refine wpTx_nil ?_
    go_wp2_with fail
    go_ret
    exact ⟨rfl, HF.out⟩
def loRp (i : Nat) : Nat := [0, 0, 0, 0, 0, 0, 0, 1, 2, 3, 3, 3].getD i 0
def upRp (i : Nat) : Nat := [3, 2, 2, 2, 2, 0, 1, 2, 3, 3, 3, 4].getD i 0
set_option maxRecDepth 100000 in
set_option maxHeartbeats 1600000 in
theorem rpush_all (v : Val) (x : Value) (H : Lies N w0 W (sepT (refT q most fr) R)) (hv : VIs W v x) : Calls Try.prog 58 #[.pointer (some ⟨q, 0, none⟩), x] W fun e w' => e = .returned (.int .i64 (ftop fr 17 pushE)) ∧ Lies N w0 w' (sepT (refT q most (fup fr (·.push v))) R) := by
  obtain ⟨A0, c0, rfl, hr0, hk0⟩ := hv
  have hvv : VIs W v (v.go (.slice A0 v.lay.length c0)) := ⟨A0, c0, rfl, hr0, hk0⟩
  have hv1 := VIs.quiet hvv (Only.alloc _ W (.cells #[.int .i64 v.tag, .int .i64 v.n, .int .u64 v.bits, .string v.s, .slice A0 v.lay.length c0] 30))
  have H0 := H.newBlk 30 #[.int .i64 v.tag, .int .i64 v.n, .int .u64 v.bits, .string v.s, .slice A0 v.lay.length c0]
  have H0' := H0.turn (a' := sepT (refT q most fr) (sepT (blkT W.heap.size 30 #[.int .i64 v.tag, .int .i64 v.n, .int .u64 v.bits, .string v.s, .slice A0 v.lay.length c0]) R)) (by ac_rfl)
  rcases fr_cases fr with rfl | ⟨f, k, rfl⟩
  · have HT := Lib.hid (rtop_nil H0')
    have HH := Lib.hid H0.drop
    obtain ⟨tag, n, bits, s, lay⟩ := v
    simp only [Val.go] at *
    clear H H0 H0' hv1 hvv hr0
    simp only [ftop_nil, fup_nil]
    go_enter Try.func58, Try.ntmps58
    go_wp2_with fail
    refine HT.out.mono ?_
    rintro e w' ⟨rfl, rfl⟩
    go_wp2
    go_ret
    exact ⟨rfl, HH.out⟩
  · obtain ⟨g, cp, ys, y, ⟨rfl, rfl⟩, hok, hm, H1⟩ := ref_top H0'
    obtain ⟨_, c1, d0, d1, d2, d3, hfz⟩ := rt_cells H1
    have HT := Lib.hid (rtop_call H1 (by omega))
    have H2 := H1.turn (a' := sepT (rowsT y.2.1.2 y.2.2.2) (sepT (rowsT y.2.1.1 y.2.2.1) (sepT (rtT q most g cp ys y) (sepT (blkT W.heap.size 30 #[.int .i64 v.tag, .int .i64 v.n, .int .u64 v.bits, .string v.s, .slice A0 v.lay.length c0]) R)))) (by unfold rT; ac_rfl)
    obtain ⟨Cal, ⟨ls, ss⟩, la, sa⟩ := y
    obtain ⟨As, cs, hss, hcs, _⟩ := rows_arg H2 (fun z hz => hok.2.1.2.2.2 _ (by rw [← hok.2.2.2]; exact List.mem_map.2 ⟨z, hz, rfl⟩))
    simp only at hss
    subst hss
    have hl : sa.length = Cal.stack.length := by rw [← hok.2.2.2, List.length_map]
    simp only [ftop_snoc, fup_snoc]
    simp only at d0 d1 d2 d3
    by_cases hp : 5000 ≤ sa.length
    · have e1 : pushE Cal = 12 := if_pos (by omega)
      have e2 : Cal.push v = Cal := if_pos (by omega)
      rw [e1, e2]
      have hp' : (5000 : Int) ≤ (sa.length : Int) := by omega
      have HH := Lib.hid H0.drop
      obtain ⟨tag, n, bits, s, lay⟩ := v
      simp only [Val.go] at *
      clear H H0 H0' H1 H2 hv1 hvv hr0 hok hm e1 e2 hfz hl hp
      generalize ys.length = m at *
      go_enter Try.func58, Try.ntmps58
      go_wp2_with fail
      refine HT.out.mono ?_
      rintro e w' ⟨rfl, nn, rfl⟩
      go_wp2
      go_ret
      exact ⟨rfl, HH.out.drewN _⟩
    · have e1 : pushE Cal = 0 := if_neg (by omega)
      have e2 : Cal.push v = { Cal with stack := Cal.stack ++ [v] } := if_neg (by omega)
      rw [e1, e2]
      have hp' : ¬ (5000 : Int) ≤ (sa.length : Int) := by omega
      have f3 := hfz (ys.length * 4 + 3)
      have bx := H0.blk.1
      have x0 := bx.cell 0
      have x1 := bx.cell 1
      have x2 := bx.cell 2
      have x3 := bx.cell 3
      have x4 := bx.cell 4
      simp at x0 x1 x2 x3 x4
      have HC := Lib.hid (fun m => copyV_any v _ _ (VIs.quiet hv1 (Only.drewN _ _ m)))
      have HOK := Lib.hid hok
      have HM := Lib.hid hm
      have HK := Lib.hid hk0
      have HSz := Lib.hid (show sa.length < 5000 by omega)
      have HH := Lib.hid H2
      have HGo : Hid (∀ ch, v.go ch = .agg #[.int .i64 v.tag, .int .i64 v.n, .int .u64 v.bits, .string v.s, ch]) := Lib.hid fun _ => rfl
      simp only [Val.go] at HC
      clear H H0 H0' H1 H2 hv1 hvv hr0 hok hm e1 e2 hfz bx hp hl hk0
      obtain ⟨m, hmm⟩ : ∃ m, m = ys.length := ⟨_, rfl⟩
      have HMM := Lib.hid hmm
      rw [← hmm] at c1 d0 d1 d2 d3 f3 HT
      clear hmm
      unfold Val.go
      go_enter Try.func58, Try.ntmps58
      go_wp2_with fail
      refine HT.out.mono ?_
      rintro e w' ⟨rfl, nn, rfl⟩
      go_wp2_with fail
      refine wp_region_text [6, 7, 8, 11] loRp upRp (by kernel_rfl) (by kernel_rfl) (by kernel_rfl) (by kernel_rfl) (by kernel_rfl) ?_
      repeat (first | (refine wpTx_now (by rfl) (by rfl) (by rfl) (fun K hK => ?_); go_simp; refine hK _ ?_; clear hK K) | (refine wpTx_late [] (by rfl) (by rfl) (by rfl) (fun K hK => ?_); go_simp; refine hK _ _ ?_; clear hK K))
      refine wpTx_eff (by rfl) (fun K hK => ?_)
      go_simp
      refine (HC.out _).mono ?_
      rintro e w1 ⟨ch, rfl, hown, hb1⟩
      obtain ⟨A3, c3, rfl, _⟩ := own_form hown
      replace hb1 := (below_drewN _ _).trans (hb1.mono (by simp))
      have d3' := cell_below d3 hb1
      have f3' : w1.frozen? ⟨g, m * 4 + 3, none⟩ = false := (hb1.frozen (cell_lt d3)).trans f3
      refine ⟨_, rfl, hK _ _ (by repeat (first | exact lateOK_nil | refine lateOK_skip (by rfl) ?_ | refine lateOK_cons (by go_simp) ?_)) ?_⟩
      clear hK K HC
      have h1 := HH.out.newRow hown hb1
      obtain ⟨acc2, hE2, A', c', w2, hrun, h2, hsz⟩ := append_one sa (.slice As sa.length cs) v A3 c3 (R := sepT (rowsT ls la) (sepT (rtT q most g cp ys (Cal, (ls, .slice As sa.length cs), la, sa)) (sepT (blkT W.heap.size 30 #[.int .i64 v.tag, .int .i64 v.n, .int .u64 v.bits, .string v.s, .slice A0 v.lay.length c0]) R))) (h1.turn (by unfold chainT; ac_rfl)) (by have := HSz.out; omega)
      have hd4 := cell_alloc d3' (.cells #[.int .i64 v.tag, .int .i64 v.n, .int .u64 v.bits, .string v.s, .slice A3 v.lay.length c3] 30)
      have HR := Lib.hid hrun
      have HE2 := Lib.hid hE2
      have H2 := Lib.hid h2
      clear hown hb1 h1 hrun hE2 h2 HH x0 x1 x2 x3 x4
      refine wpTx_eff (by rfl) (fun K hK => ?_)
      go_simp
      refine hK _ _ (by repeat (first | exact lateOK_nil | refine lateOK_skip (by rfl) ?_ | refine lateOK_cons (by go_simp) ?_)) ?_
      clear hK K
      obtain ⟨d5, f5⟩ : w2.cell? ⟨g, m * 4 + 3, none⟩ = some (.slice As sa.length cs) ∧ w2.frozen? ⟨g, m * 4 + 3, none⟩ = false := by
        have h := rt_cells (H2.out.drop.drop)
        rw [← HMM.out] at h
        exact ⟨h.2.2.2.2.2.1, h.2.2.2.2.2.2 _⟩
      refine wpTx_append (by rfl) (by rfl) (.tmp 22) (.tmp 25) 31 31 rfl rfl rfl rfl HR.out (by repeat (first | exact lateOK_nil | refine lateOK_skip (by rfl) ?_ | refine lateOK_cons (by go_simp) ?_)) ?_
      repeat (refine wpTx_now (by rfl) (by rfl) (by rfl) (fun K hK => ?_); go_simp; refine hK _ ?_; clear hK K)
      refine wpTx_eff (by rfl) (fun K hK => ?_)
      go_simp
      refine hK _ _ (by repeat (first | exact lateOK_nil | refine lateOK_skip (by rfl) ?_)) ?_
      clear hK K
      have h6 := rt_store3 (y := (Cal, (ls, .slice As sa.length cs), la, sa)) (.slice A' acc2.length c') acc2 (Cal.stack ++ [v]) (H2.out.turn (a' := sepT (rtT q most g cp ys (Cal, (ls, .slice As sa.length cs), la, sa)) (sepT (rowsT (.slice A' acc2.length c') acc2) (sepT (rowsT ls la) (sepT (blkT W.heap.size 30 #[.int .i64 v.tag, .int .i64 v.n, .int .u64 v.bits, .string v.s, .slice A0 v.lay.length c0]) R)))) (by ac_rfl))
      have h7 := ref_untop (y := ({ Cal with stack := Cal.stack ++ [v] }, (ls, .slice A' acc2.length c'), la, acc2)) (fr := ys.map (·.1)) (R := R) rfl ⟨HOK.out.1, ⟨⟨HOK.out.2.1.1, by have := HSz.out; have h := HOK.out.2.2.2; simp only at h; show (Cal.stack ++ [v]).length ≤ 5000; rw [← h, List.length_append, List.length_map, List.length_singleton]; omega, HOK.out.2.1.2.2.1, fun u hu => by
          rcases List.mem_append.1 hu with hu | hu
          · exact HOK.out.2.1.2.2.2 u hu
          · rw [List.mem_singleton.1 hu]; exact HK.out⟩, HOK.out.2.2.1, by
          have h := HOK.out.2.2.2
          simp only at h
          show acc2.map (·.1) = Cal.stack ++ [v]
          rw [HE2.out, List.map_append, h]; rfl⟩⟩ HM.out ((h6.turn (a' := sepT (blkT W.heap.size 30 #[.int .i64 v.tag, .int .i64 v.n, .int .u64 v.bits, .string v.s, .slice A0 v.lay.length c0]) (sepT (rtT q most g cp ys ({ Cal with stack := Cal.stack ++ [v] }, (ls, .slice A' acc2.length c'), la, acc2)) (sepT (rT ({ Cal with stack := Cal.stack ++ [v] }, (ls, .slice A' acc2.length c'), la, acc2)) R))) (by unfold rT; ac_rfl)).drop)
      rw [← HMM.out] at h6
      have HF : Hid (Lies N w0 (w2.setCell ⟨g, m * 4 + 3, none⟩ (.slice A' acc2.length c')) (sepT (refT q most (ys.map (·.1) ++ [{ Cal with stack := Cal.stack ++ [v] }])) R)) := Lib.hid (by rw [HMM.out]; exact h7)
      clear h6 h7
      refine wpTx_nil ?_
      go_wp2_with fail
      go_ret
      exact ⟨rfl, HF.out⟩
end
end Go.Proofs.Ytiaeckljpdhagaa
/- The document's frames: Take, Pop, Local. -/
namespace Go.Proofs.Ytiaeckljpdhagaa
open Go.RowKit
set_option linter.unusedVariables false
set_option linter.unusedSimpArgs false
attribute [local go_sem] Oper.semAt_some run_store_func run_store_nilFunc
theorem slice_fromV (A : Option Addr) (i c j : Nat) (h1 : (j : Int) ≤ (i : Int)) (w : World) : (Instr.sliceAt 31 (.slice A i c) (some (.int .i64 (j : Int))) none none).run Try.prog w = .ok (.slice (if c = j then A else A.map (·.add (j * 5))) (i - j) (c - j)) w := by
  have h0 : (0 : Int) ≤ (j : Int) := by omega
  have u := Try.underlying31
  go_simp
theorem add_none (A : Option Addr) : A.map (·.add (0 * 5)) = A := by cases A <;> rfl
theorem slice_toV (A : Option Addr) (i c j : Nat) (h1 : (j : Int) ≤ (c : Int)) (w : World) : (Instr.sliceAt 31 (.slice A i c) none (some (.int .i64 (j : Int))) none).run Try.prog w = .ok (.slice A j c) w := by
  have h0 : (0 : Int) ≤ (j : Int) := by omega
  have u := Try.underlying31
  have e : (if c = 0 then A else A.map (·.add (0 * 5))) = A := by rw [add_none, ite_self]
  go_simp
section
variable {N : Nat} {w0 W : World} {R : Thing} {q : Nat} {most : Int} {fr : List Cal}
theorem rows_shrink {As : Option Addr} {cs : Nat} {sa : List AV} (k : Nat) (hk : k ≤ sa.length) (H : Lies N w0 W (sepT (rowsT (.slice As sa.length cs) sa) R)) : Lies N w0 W (sepT (rowsT (.slice As k cs) (sa.take k)) R) := by
  have H1 : Lies N w0 W (sepT (rowT 30 5 (.slice As sa.length cs) sa.length (avV sa)) (sepT (chainsT sa) R)) := H.turn (by unfold rowsT; ac_rfl)
  rcases H1.row.2 with ⟨hnil, _⟩ | ⟨g, cap, _, hsome, _⟩
  · have hz : sa.length = 0 := by injection hnil
    have hk0 : k = 0 := by omega
    have hsa : sa = [] := List.length_eq_zero_iff.1 hz
    subst hsa hk0
    exact H
  · obtain ⟨rfl, rfl⟩ : As = some ⟨g, 0, none⟩ ∧ cs = cap := by injection hsome with h1 h2 h3; exact ⟨h1, h3⟩
    have h2 := H1.shrunk k hk
    have h3 := h2.turn (a' := sepT (chainsT (sa.drop k)) (sepT (rowT 30 5 (.slice (some ⟨g, 0, none⟩) k cs) k ((avV sa).take (k * 5))) (sepT (chainsT (sa.take k)) R))) (by rw [chainsT_cut sa k]; ac_rfl)
    refine h3.drop.turn ?_
    unfold rowsT
    rw [avV_take, List.length_take, Nat.min_eq_left hk]
    ac_rfl
theorem ref_ok (H : Lies N w0 W (sepT (refT q most fr) R)) : ∀ k ∈ fr, k.ok := by
  obtain ⟨sl, l, ⟨⟨rfl, h2⟩, _⟩, _⟩ := ref_parts H
  intro k hk
  obtain ⟨y, hy, rfl⟩ := List.mem_map.1 hk
  exact (h2 y hy).1
set_option maxRecDepth 100000 in
set_option maxHeartbeats 1600000 in
theorem rtake_all (n : Int) (H : Lies N w0 W (sepT (refT q most fr) R)) : Calls Try.prog 60 #[.pointer (some ⟨q, 0, none⟩), .int .i64 n] W fun e w' => ∃ y, e = .returned (.tuple #[y, .int .i64 (ftop fr 17 (·.takeE n))]) ∧ Lies N w0 w' (sepT (valsT (ftop fr [] (·.taken n)) y) (sepT (refT q most (fup fr (·.take n))) R)) := by
  rcases fr_cases fr with rfl | ⟨f, k, rfl⟩
  · have HT := Lib.hid (rtop_nil H)
    have HH := Lib.hid H
    clear H
    simp only [ftop_nil, fup_nil]
    go_enter Try.func60, Try.ntmps60
    go_wp2_with fail
    refine HT.out.mono ?_
    rintro e w' ⟨rfl, rfl⟩
    go_wp2
    go_ret2
    exact ⟨_, rfl, vals_nil HH.out⟩
  · obtain ⟨g, cp, ys, y, ⟨rfl, rfl⟩, hok, hm, H1⟩ := ref_top H
    obtain ⟨_, c1, d0, d1, d2, d3, hfz⟩ := rt_cells H1
    have HT := Lib.hid (rtop_call H1 (by omega))
    have H2 := H1.turn (a' := sepT (rowsT y.2.1.2 y.2.2.2) (sepT (rowsT y.2.1.1 y.2.2.1) (sepT (rtT q most g cp ys y) R))) (by unfold rT; ac_rfl)
    obtain ⟨kc, ⟨ls, ss⟩, la, sa⟩ := y
    obtain ⟨As, cs, hss, hcs, hAr⟩ := rows_arg H2 (fun z hz => hok.2.1.2.2.2 _ (by rw [← hok.2.2.2]; exact List.mem_map.2 ⟨z, hz, rfl⟩))
    simp only at hss hcs
    subst hss
    have hl : sa.length = kc.stack.length := by rw [← hok.2.2.2, List.length_map]
    have hlen : sa.length ≤ 5000 := by have := hok.2.1.2.1; simp only at this; omega
    simp only [ftop_snoc, fup_snoc]
    simp only at d0 d1 d2 d3
    by_cases h0 : n < 0
    · have hE : kc.takeE n = 3 := if_pos h0
      have e2 : kc.take n = kc := by simp [Cal.take, hE]
      have e3 : kc.taken n = [] := by simp [Cal.taken, hE]
      rw [hE, e2, e3]
      have HH := Lib.hid H
      clear H H1 H2 hok hm hfz hl hAr hE e2 e3
      generalize ys.length = m at *
      go_enter Try.func60, Try.ntmps60
      go_wp2_with fail
      refine HT.out.mono ?_
      rintro e w' ⟨rfl, nn, rfl⟩
      go_wp2
      go_ret2
      exact ⟨_, rfl, vals_nil (HH.out.drewN _)⟩
    · obtain ⟨j, rfl⟩ : ∃ j : Nat, n = j := ⟨n.toNat, by omega⟩
      by_cases h1 : sa.length < j
      · have hE : kc.takeE j = 15 := by unfold Cal.takeE; rw [if_neg h0, if_pos (by omega)]
        have e2 : kc.take j = kc := by simp [Cal.take, hE]
        have e3 : kc.taken j = [] := by simp [Cal.taken, hE]
        rw [hE, e2, e3]
        have h1' : (sa.length : Int) < (j : Int) := by omega
        have HH := Lib.hid H
        clear H H1 H2 hok hm hfz hl hAr hE e2 e3 h1
        generalize ys.length = m at *
        go_enter Try.func60, Try.ntmps60
        go_wp2_with fail
        refine HT.out.mono ?_
        rintro e w' ⟨rfl, nn, rfl⟩
        go_wp2
        go_ret2
        exact ⟨_, rfl, vals_nil (HH.out.drewN _)⟩
      · have hE : kc.takeE j = 0 := by unfold Cal.takeE; rw [if_neg h0, if_neg (by omega)]
        obtain ⟨i, hi⟩ : ∃ i, i = sa.length - j := ⟨_, rfl⟩
        have hst : sa.map (·.1) = kc.stack := hok.2.2.2
        have e2 : kc.take j = { kc with stack := (sa.take i).map (·.1) } := by
          unfold Cal.take; rw [if_pos hE, hi, List.map_take, hst, hl]; rfl
        have e3 : kc.taken j = (sa.drop i).map (·.1) := by
          unfold Cal.taken; rw [if_pos hE, hi, List.map_drop, hst, hl]; rfl
        rw [hE, e2, e3]
        have hij : sa.length - i = j := by omega
        have hile : i ≤ sa.length := by omega
        have hw : IntKind.i64.wrap ((sa.length : Int) - (j : Int)) = (i : Int) := by rw [show (sa.length : Int) - j = (i : Int) by omega]; exact IntWalk.i64_in _ (by omega)
        have h1' : ¬ (sa.length : Int) < (j : Int) := by omega
        have hlow : (i : Int) ≤ (sa.length : Int) := by omega
        have hhigh : (i : Int) ≤ (cs : Int) := by omega
        have hs1 : ∀ w, (Instr.sliceAt 31 (.slice As sa.length cs) (some (.int .i64 (i : Int))) none none).run Try.prog w = .ok (.slice (if cs = i then As else As.map (·.add (i * 5))) j (cs - i)) w := fun w => by
          have h := slice_fromV As sa.length cs i hlow w
          rw [hij] at h; exact h
        have hs2 := slice_toV As sa.length cs i hhigh
        have HC : Hid (∀ m, Calls Try.prog 54 #[.slice (if cs = i then As else As.map (·.add (i * 5))) j (cs - i)] (W.drewN m) fun e w' => ∃ y, e = .returned y ∧ Lies N w0 w' (sepT (valsT ((sa.drop i).map (·.1)) y) (sepT (rowsT (.slice As sa.length cs) sa) (sepT (rowsT ls la) (sepT (rtT q most g cp ys (kc, (ls, .slice As sa.length cs), la, sa)) R))))) := by
          refine Lib.hid fun m => ?_
          have hcut := (hAr.1.cut (k := i) (cap := cs) hile hcs)
          rw [hij] at hcut
          have hdl : (sa.drop i).length = j := by rw [List.length_drop]; exact hij
          have h := copyVs_big (sa.drop i) (if cs = i then As else As.map (·.add (i * 5))) (cs - i) (H2.drewN m) (by rw [hdl, avV_drop]; exact (hcut.below (below_drewN W m)).more (by simp)) (fun z hz => ((hAr.2.2 z (List.mem_of_mem_drop hz)).two).below (below_drewN W m)) (by rw [hdl]; omega)
          rw [hdl] at h
          exact h.mono fun e w' ⟨y, he, h, _⟩ => ⟨y, he, h⟩
        have HOK := Lib.hid hok
        have HM := Lib.hid hm
        have HST := Lib.hid hst
        have HIL := Lib.hid (And.intro hile (And.intro hl hlen))
        have f3 := hfz (ys.length * 4 + 3)
        clear H H1 H2 hok hm hfz hl hAr hE e2 e3 h1 hst hi hcs
        generalize hA2 : (if cs = i then As else As.map (·.add (i * 5))) = A2 at *
        obtain ⟨m, hmm⟩ : ∃ m, m = ys.length := ⟨_, rfl⟩
        have HMM := Lib.hid hmm
        rw [← hmm] at c1 d0 d1 d2 d3 f3 HT
        obtain ⟨sl, hsl⟩ : ∃ sl, sl = sa.length := ⟨_, rfl⟩
        have HSL := Lib.hid hsl
        rw [← hsl] at d3 hw h1' hlow hs1 hs2
        clear hmm hA2 hij hile hlen hsl
        go_enter Try.func60, Try.ntmps60
        go_wp2_with fail
        refine HT.out.mono ?_
        rintro e w' ⟨rfl, nn, rfl⟩
        go_wp2_with fail
        refine (HC.out _).mono ?_
        rintro e w1 ⟨y1, rfl, h1⟩
        have h2 := h1.turn (a' := sepT (rtT q most g cp ys (kc, (ls, .slice As sa.length cs), la, sa)) (sepT (rowsT (.slice As sa.length cs) sa) (sepT (valsT ((sa.drop i).map (·.1)) y1) (sepT (rowsT ls la) R)))) (by ac_rfl)
        have hcells := rt_cells h2
        rw [← HMM.out] at hcells
        simp only at hcells
        obtain ⟨_, _, _, _, _, g3, gz⟩ := hcells
        rw [← HSL.out] at g3
        have gf := gz (m * 4 + 3)
        have h3 := rt_store3 (.slice As i cs) (sa.take i) ((sa.take i).map (·.1)) h2
        have h4 := rows_shrink i HIL.out.1 (h3.turn (a' := sepT (rowsT (.slice As sa.length cs) sa) (sepT (rtT q most g cp ys ({ kc with stack := (sa.take i).map (·.1) }, (ls, .slice As i cs), la, sa.take i)) (sepT (valsT ((sa.drop i).map (·.1)) y1) (sepT (rowsT ls la) R)))) (by ac_rfl))
        have h5 := ref_untop (y := ({ kc with stack := (sa.take i).map (·.1) }, (ls, .slice As i cs), la, sa.take i)) (fr := ys.map (·.1)) (R := sepT (valsT ((sa.drop i).map (·.1)) y1) R) rfl ⟨HOK.out.1, ⟨⟨HOK.out.2.1.1, by
            show ((sa.take i).map (·.1)).length ≤ 5000
            rw [List.length_map, List.length_take]; have := HIL.out; omega, HOK.out.2.1.2.2.1, fun u hu => by
            obtain ⟨z, hz, rfl⟩ := List.mem_map.1 hu
            refine HOK.out.2.1.2.2.2 _ ?_
            have h := HST.out
            show z.1 ∈ kc.stack
            rw [← h]
            exact List.mem_map.2 ⟨z, List.mem_of_mem_take hz, rfl⟩⟩, HOK.out.2.2.1, rfl⟩⟩ HM.out (h4.turn (by unfold rT; ac_rfl))
        rw [← HMM.out] at h5
        have HF := Lib.hid (h5.turn (a' := sepT (valsT ((sa.drop i).map (·.1)) y1) (sepT (refT q most (ys.map (·.1) ++ [{ kc with stack := (sa.take i).map (·.1) }])) R)) (by ac_rfl))
        clear h1 h2 h3 h4 h5 gz HC d0 d1 d2 d3 c1 f3
        go_wp2_with fail
        go_ret2
        exact ⟨_, rfl, HF.out⟩
end
end Go.Proofs.Ytiaeckljpdhagaa
/- The document's frames: Pop, Local. -/
namespace Go.Proofs.Ytiaeckljpdhagaa
open Go.RowKit
set_option linter.unusedVariables false
set_option linter.unusedSimpArgs false
attribute [local go_sem] Oper.semAt_some run_store_func run_store_nilFunc
section
variable {N : Nat} {w0 W : World} {R : Thing} {q : Nat} {most : Int} {fr : List Cal}
set_option maxRecDepth 100000 in
set_option maxHeartbeats 800000 in
theorem rpop_all (H : Lies N w0 W (sepT (refT q most fr) R)) : Calls Try.prog 59 #[.pointer (some ⟨q, 0, none⟩)] W fun e w' => ∃ x, e = .returned (.tuple #[x, .int .i64 (ftop fr 17 (·.takeE 1))]) ∧ Lies N w0 w' (sepT (valT (ftop fr Val.zero (·.popV)) x) (sepT (refT q most (fup fr (·.take 1))) R)) := by
  have hcase : (¬ ftop fr 17 (·.takeE 1) = 0 ∧ ftop fr Val.zero (·.popV) = Val.zero) ∨ (ftop fr 17 (·.takeE 1) = 0 ∧ ∃ v, v.ok ∧ ftop fr [] (·.taken 1) = [v] ∧ ftop fr Val.zero (·.popV) = v) := by
    have hok := ref_ok H
    rcases fr_cases fr with rfl | ⟨f, k, rfl⟩
    · simp only [ftop_nil]; exact .inl ⟨by decide, trivial⟩
    · simp only [ftop_snoc]
      by_cases hs : k.stack.length = 0
      · have hE : k.takeE 1 = 15 := by unfold Cal.takeE; rw [if_neg (by decide), if_pos (by omega)]
        refine .inl ⟨by rw [hE]; decide, ?_⟩
        show (k.taken 1).headD Val.zero = _
        rw [show k.taken 1 = [] by simp [Cal.taken, hE]]; rfl
      · have hE : k.takeE 1 = 0 := by unfold Cal.takeE; rw [if_neg (by decide), if_neg (by omega)]
        have ht : k.taken 1 = k.stack.drop (k.stack.length - 1) := by simp [Cal.taken, hE]
        have hlen : (k.taken 1).length = 1 := by rw [ht, List.length_drop]; omega
        obtain ⟨v, hv⟩ := List.length_eq_one_iff.1 hlen
        refine .inr ⟨hE, v, ?_, hv, ?_⟩
        · refine (hok k (by simp)).2.2.2 v ?_
          have h : v ∈ k.stack.drop (k.stack.length - 1) := by rw [← ht, hv]; exact List.mem_singleton.2 rfl
          exact List.mem_of_mem_drop h
        · show (k.taken 1).headD Val.zero = v; rw [hv]; rfl
  have HT := Lib.hid (rtake_all 1 ((H.newBlk 30 #[.int .i64 0, .int .i64 0, .int .u64 0, .string ⟨#[]⟩, .slice none 0 0]).turn (a' := sepT (refT q most fr) (sepT (blkT W.heap.size 30 #[.int .i64 0, .int .i64 0, .int .u64 0, .string ⟨#[]⟩, .slice none 0 0]) R)) (by ac_rfl)))
  clear H
  generalize ftop fr Val.zero (·.popV) = pv at *
  generalize ftop fr [] (·.taken 1) = tk at *
  generalize fup fr (·.take 1) = fr2 at *
  generalize ftop fr 17 (·.takeE 1) = E at *
  rcases hcase with ⟨hE, rfl⟩ | ⟨rfl, v', hvo, rfl, rfl⟩
  · go_enter Try.func59, Try.ntmps59
    go_wp2_with fail
    refine HT.out.mono ?_
    rintro e w1 ⟨y, rfl, h⟩
    have h2 := (h.drop).turn (a' := sepT (blkT W.heap.size 30 #[.int .i64 0, .int .i64 0, .int .u64 0, .string ⟨#[]⟩, .slice none 0 0]) (sepT (refT q most fr2) R)) (by ac_rfl)
    have b1 := h2.blk.1
    have f1 := b1.frozen
    have y0 := b1.cell 0
    have y1 := b1.cell 1
    have y2 := b1.cell 2
    have y3 := b1.cell 3
    have y4 := b1.cell 4
    simp at y0 y1 y2 y3 y4
    have HN := Lib.hid h2
    clear h h2 b1 HT
    go_wp2_with fail
    have HF := ((((HN.out.setBlk 0 (.int .i64 0)).setBlk 1 (.int .i64 0)).setBlk 2 (.int .u64 0)).setBlk 3 (.string ⟨#[]⟩)).setBlk 4 (.slice none 0 0)
    refine bodyPost_ret (results_row_tmp rfl _ _ W.heap.size 30 #[.int .i64 0, .int .i64 0, .int .u64 0, .string ⟨#[]⟩, .slice none 0 0] (0, 0) _ rfl HF.blk.1 Try.underlying30 rfl (by kernel_rfl)) rfl ?_
    refine ⟨_, rfl, ?_⟩
    exact zero_in HF.drop
  · have HO := Lib.hid hvo
    clear hvo
    go_enter Try.func59, Try.ntmps59
    go_wp2_with fail
    refine HT.out.mono ?_
    rintro e w1 ⟨y, rfl, h⟩
    obtain ⟨la, hla, h1⟩ := vals_out h
    have hl1 : la.length = 1 := by have := congrArg List.length hla; simpa using this
    obtain ⟨⟨v2, ch⟩, rfl⟩ := List.length_eq_one_iff.1 hl1
    have hv2 : v2 = pv := by simpa using hla
    subst hv2
    obtain ⟨A, c, rfl, _, hA⟩ := rows_arg h1 (by intro z hz; simp at hz; subst hz; exact HO.out)
    obtain ⟨b, off, rfl⟩ := hA.2.1 (by simp)
    obtain ⟨tag, n, bits, s, lay, A3, c4, he, ⟨e0, e1, e2, e3, e4⟩, _⟩ := rows_at hA 0 (by simp)
    have he' : (_, ch) = ((⟨tag, n, bits, s, lay⟩ : Val), Value.slice A3 lay.length c4) := he
    injection he' with g1 g2
    subst g1 g2
    have h2 := h1.turn (a' := sepT (blkT W.heap.size 30 #[.int .i64 0, .int .i64 0, .int .u64 0, .string ⟨#[]⟩, .slice none 0 0]) (sepT (rowT 30 5 (.slice (some ⟨b, off, none⟩) 1 c) 1 (avV [((⟨tag, n, bits, s, lay⟩ : Val), Value.slice A3 lay.length c4)])) (sepT (chainT ⟨tag, n, bits, s, lay⟩ (.slice A3 lay.length c4)) (sepT (refT q most fr2) R)))) (by
      show sepT (sepT (rowT 30 5 (.slice (some ⟨b, off, none⟩) 1 c) 1 (avV [((⟨tag, n, bits, s, lay⟩ : Val), Value.slice A3 lay.length c4)])) (sepT (chainT ⟨tag, n, bits, s, lay⟩ (.slice A3 lay.length c4)) empT)) _ = _
      rw [sep_empT]; ac_rfl)
    have b1 := h2.blk.1
    have f1 := b1.frozen
    have y0 := b1.cell 0
    have y1 := b1.cell 1
    have y2 := b1.cell 2
    have y3 := b1.cell 3
    have y4 := b1.cell 4
    simp at y0 y1 y2 y3 y4
    simp only [Nat.zero_mul, Nat.add_zero, List.length_singleton] at e0 e1 e2 e3 e4 ⊢
    have HN := Lib.hid h2
    clear h h2 b1 HT h1 hA he hla hl1 HO
    go_wp2_with fail
    have HF := ((((HN.out.setBlk 0 (.int .i64 tag)).setBlk 1 (.int .i64 n)).setBlk 2 (.int .u64 bits)).setBlk 3 (.string s)).setBlk 4 (.slice A3 lay.length c4)
    refine bodyPost_ret (results_row_tmp rfl _ _ W.heap.size 30 #[.int .i64 tag, .int .i64 n, .int .u64 bits, .string s, .slice A3 lay.length c4] (0, 0) _ rfl HF.blk.1 Try.underlying30 rfl (by kernel_rfl)) rfl ?_
    refine ⟨_, rfl, ?_⟩
    exact val_in (v := ⟨tag, n, bits, s, lay⟩) HF.drop.drop
set_option maxRecDepth 100000 in
set_option maxHeartbeats 1600000 in
theorem rlocal_all (i : Int) (H : Lies N w0 W (sepT (refT q most fr) R)) : Calls Try.prog 61 #[.pointer (some ⟨q, 0, none⟩), .int .i64 i] W fun e w' => ∃ x, e = .returned (.tuple #[x, .int .i64 (ftop fr 17 (·.localE i))]) ∧ Lies N w0 w' (sepT (valT (ftop fr Val.zero (·.localV i)) x) (sepT (refT q most fr) R)) := by
  have H0 := (H.newBlk 30 #[.int .i64 0, .int .i64 0, .int .u64 0, .string ⟨#[]⟩, .slice none 0 0]).turn (a' := sepT (refT q most fr) (sepT (blkT W.heap.size 30 #[.int .i64 0, .int .i64 0, .int .u64 0, .string ⟨#[]⟩, .slice none 0 0]) R)) (by ac_rfl)
  rcases fr_cases fr with rfl | ⟨f, k, rfl⟩
  · have HT := Lib.hid (rtop_nil H0)
    have HH := Lib.hid (H0.turn (a' := sepT (blkT W.heap.size 30 #[.int .i64 0, .int .i64 0, .int .u64 0, .string ⟨#[]⟩, .slice none 0 0]) (sepT (refT q most []) R)) (by ac_rfl))
    clear H H0
    simp only [ftop_nil]
    go_enter Try.func61, Try.ntmps61
    go_wp2_with fail
    refine HT.out.mono ?_
    rintro e w' ⟨rfl, rfl⟩
    go_wp2
    have HF := HH.out
    refine bodyPost_ret (results_row_tmp rfl _ _ W.heap.size 30 #[.int .i64 0, .int .i64 0, .int .u64 0, .string ⟨#[]⟩, .slice none 0 0] (0, 0) _ rfl HF.blk.1 Try.underlying30 rfl (by kernel_rfl)) rfl ?_
    exact ⟨_, rfl, zero_in HF.drop⟩
  · obtain ⟨g, cp, ys, y, ⟨rfl, rfl⟩, hok, hm, H1⟩ := ref_top H0
    obtain ⟨_, c1, d0, d1, d2, d3, hfz⟩ := rt_cells H1
    have HT := Lib.hid (rtop_call H1 (by omega))
    have H2 := H1.turn (a' := sepT (rowsT y.2.1.1 y.2.2.1) (sepT (rowsT y.2.1.2 y.2.2.2) (sepT (rtT q most g cp ys y) (sepT (blkT W.heap.size 30 #[.int .i64 0, .int .i64 0, .int .u64 0, .string ⟨#[]⟩, .slice none 0 0]) R)))) (by unfold rT; ac_rfl)
    have HB := H0.turn (a' := sepT (blkT W.heap.size 30 #[.int .i64 0, .int .i64 0, .int .u64 0, .string ⟨#[]⟩, .slice none 0 0]) (sepT (refT q most (ys.map (·.1) ++ [y.1])) R)) (by ac_rfl)
    obtain ⟨k, ⟨ls, ss⟩, la, sa⟩ := y
    have hok2 : ∀ z ∈ la, z.1.ok := fun z hz => hok.2.1.2.2.1 _ (by rw [← hok.2.2.1]; exact List.mem_map.2 ⟨z, hz, rfl⟩)
    obtain ⟨As, cs, hss, hcs, hA⟩ := rows_arg H2 hok2
    simp only at hss hcs
    subst hss
    have hll : la.length = k.locals.length := by rw [← hok.2.2.1, List.length_map]
    have hla : la.map (·.1) = k.locals := hok.2.2.1
    simp only [ftop_snoc]
    simp only at d0 d1 d2 d3
    by_cases hbad : i < 0 ∨ (k.locals.length : Int) ≤ i
    · have HE : Hid (k.localE i = 3 ∧ k.localV i = Val.zero) := by
        have hb : k.badAt i = true := by simp [Cal.badAt, hbad]
        exact Lib.hid ⟨by simp [Cal.localE, hb], by simp [Cal.localV, hb]⟩
      have HH := Lib.hid HB
      clear H H0 H1 H2 HB hok hm hA hok2 hfz hcs hla
      generalize ys.length = m at *
      by_cases h0 : i < 0
      · clear hbad hll
        go_enter Try.func61, Try.ntmps61
        go_wp2_with fail
        refine HT.out.mono ?_
        rintro e w' ⟨rfl, nn, rfl⟩
        go_wp2
        have HF := (((((HH.out.drewN nn).setBlk 0 (.int .i64 0)).setBlk 1 (.int .i64 0)).setBlk 2 (.int .u64 0)).setBlk 3 (.string ⟨#[]⟩)).setBlk 4 (.slice none 0 0)
        refine bodyPost_ret (results_row_tmp rfl _ _ W.heap.size 30 #[.int .i64 0, .int .i64 0, .int .u64 0, .string ⟨#[]⟩, .slice none 0 0] (0, 0) _ rfl HF.blk.1 Try.underlying30 rfl (by kernel_rfl)) rfl ?_
        rw [HE.out.1, HE.out.2]
        exact ⟨_, rfl, zero_in HF.drop⟩
      · have hd : decide (i < 0) = false := by simpa using h0
        have h1 : (la.length : Int) ≤ i := by omega
        clear hbad hll
        go_enter Try.func61, Try.ntmps61
        go_wp2_with fail
        refine HT.out.mono ?_
        rintro e w' ⟨rfl, nn, rfl⟩
        go_wp2
        have HF := (((((HH.out.drewN nn).setBlk 0 (.int .i64 0)).setBlk 1 (.int .i64 0)).setBlk 2 (.int .u64 0)).setBlk 3 (.string ⟨#[]⟩)).setBlk 4 (.slice none 0 0)
        refine bodyPost_ret (results_row_tmp rfl _ _ W.heap.size 30 #[.int .i64 0, .int .i64 0, .int .u64 0, .string ⟨#[]⟩, .slice none 0 0] (0, 0) _ rfl HF.blk.1 Try.underlying30 rfl (by kernel_rfl)) rfl ?_
        rw [HE.out.1, HE.out.2]
        exact ⟨_, rfl, zero_in HF.drop⟩
    · obtain ⟨j, rfl⟩ : ∃ j : Nat, i = j := ⟨i.toNat, by omega⟩
      have hj : j < la.length := by omega
      have hb2 : k.badAt j = false := by simp [Cal.badAt]; omega
      obtain ⟨b2, off, rfl⟩ := hA.2.1 (by simpa using (by omega : 0 < la.length))
      obtain ⟨tag, n, bits, s, lay, A3, c4, he, ⟨e0, e1, e2, e3, e4⟩, hv⟩ := rows_at hA j hj
      simp only at he e0 e1 e2 e3 e4 hv
      have HE : Hid (k.localE j = 0 ∧ k.localV j = ⟨tag, n, bits, s, lay⟩) := by
        refine Lib.hid ⟨by simp [Cal.localE, hb2], ?_⟩
        simp [Cal.localV, hb2, ← hla, hj, he]
      have HV := Lib.hid hv
      have HO := Lib.hid (fun m => copyV_any _ _ _ (VIs.quiet HV.out (Only.drewN _ _ m)))
      have hd : decide ((j : Int) < 0) = false := decide_eq_false (by omega)
      have hd2 : decide ((la.length : Int) ≤ (j : Int)) = false := decide_eq_false (by omega)
      have hlt : (j : Int) < (la.length : Int) := by omega
      have HH := Lib.hid HB
      clear H H0 H1 H2 HB hok hm hA hok2 hfz hv he hb2 hbad HV hll hla hcs
      generalize ys.length = m at *
      go_enter Try.func61, Try.ntmps61
      go_wp2_with fail
      refine HT.out.mono ?_
      rintro e w' ⟨rfl, nn, rfl⟩
      go_wp2_with fail
      refine (HO.out _).mono ?_
      rintro e w1 ⟨ch, rfl, hown, hbe⟩
      obtain ⟨A5, c5, rfl, _⟩ := own_form hown
      have h2 := (HH.out.drewN _).newRow hown hbe
      have h3 : Lies N w0 w1 (sepT (blkT W.heap.size 30 #[.int .i64 0, .int .i64 0, .int .u64 0, .string ⟨#[]⟩, .slice none 0 0]) (sepT (chainT ⟨tag, n, bits, s, lay⟩ (.slice A5 lay.length c5)) (sepT (refT q most (ys.map (·.1) ++ [k])) R))) := h2.turn (by unfold chainT; ac_rfl)
      have b1 := h3.blk.1
      have f1 := b1.frozen
      have y0 := b1.cell 0
      have y1 := b1.cell 1
      have y2 := b1.cell 2
      have y3 := b1.cell 3
      have y4 := b1.cell 4
      simp at y0 y1 y2 y3 y4
      have HN := Lib.hid h3
      clear h2 h3 b1 hown hbe
      simp only [Val.go]
      go_wp2_with fail
      have HF := ((((HN.out.setBlk 0 (.int .i64 tag)).setBlk 1 (.int .i64 n)).setBlk 2 (.int .u64 bits)).setBlk 3 (.string s)).setBlk 4 (.slice A5 lay.length c5)
      refine bodyPost_ret (results_row_tmp rfl _ _ W.heap.size 30 #[.int .i64 tag, .int .i64 n, .int .u64 bits, .string s, .slice A5 lay.length c5] (0, 0) _ rfl HF.blk.1 Try.underlying30 rfl (by kernel_rfl)) rfl ?_
      rw [HE.out.1, HE.out.2]
      exact ⟨_, rfl, val_in (v := ⟨tag, n, bits, s, lay⟩) HF.drop⟩
end
end Go.Proofs.Ytiaeckljpdhagaa
/- The document's frames: Set. -/
namespace Go.Proofs.Ytiaeckljpdhagaa
open Go.RowKit
set_option linter.unusedVariables false
set_option linter.unusedSimpArgs false
attribute [local go_sem] Oper.semAt_some run_store_func run_store_nilFunc
section
variable {N : Nat} {w0 W : World} {R : Thing} {q : Nat} {most : Int} {fr : List Cal}
theorem row_off {b off n c : Nat} {e : TypeId} {size : Nat} {xs : List Value} (h : W.ownsRow 0 e size (.slice (some ⟨b, off, none⟩) n c) n xs) (hn : 0 < n) : off = 0 := by
  obtain ⟨g', cap, h, _⟩ := h.form hn
  injection h with h
  injection h with h
  injection h with _ h
theorem rt_set {g cp j : Nat} {ys : List RD} {k : Cal} {b c : Nat} {ss : Value} {la sa : List AV} (v : Val) (A5 : Option Addr) (c5 : Nat) (hj : j < la.length) (hvk : v.ok) (hok : (∀ z ∈ ys, rOk z) ∧ rOk (k, (.slice (some ⟨b, 0, none⟩) la.length c, ss), la, sa)) (hm : 1 ≤ most ∧ most ≤ 200 ∧ (ys.length : Int) + 1 ≤ most)
    (H : Lies N w0 W (sepT (rowT 104 3 (.slice A5 v.lay.length c5) v.lay.length (layV v.lay)) (sepT (rtT q most g cp ys (k, (.slice (some ⟨b, 0, none⟩) la.length c, ss), la, sa)) (sepT (rT (k, (.slice (some ⟨b, 0, none⟩) la.length c, ss), la, sa)) R)))) :
    Lies N w0 (((((W.setCell ⟨b, j * 5, none⟩ (.int .i64 v.tag)).setCell ⟨b, j * 5 + 1, none⟩ (.int .i64 v.n)).setCell ⟨b, j * 5 + 2, none⟩ (.int .u64 v.bits)).setCell ⟨b, j * 5 + 3, none⟩ (.string v.s)).setCell ⟨b, j * 5 + 4, none⟩ (.slice A5 v.lay.length c5)) (sepT (refT q most (ys.map (·.1) ++ [{ k with locals := k.locals.set j v }])) R) := by
  obtain ⟨S, hS1, hS2⟩ := chainsT_set la j hj
  have h3 := H.turn (a' := sepT (rowT 30 5 (.slice (some ⟨b, 0, none⟩) la.length c) la.length (avV la)) (sepT (sepT (chainT la[j].1 la[j].2) S) (sepT (rowT 104 3 (.slice A5 v.lay.length c5) v.lay.length (layV v.lay)) (sepT (rtT q most g cp ys (k, (.slice (some ⟨b, 0, none⟩) la.length c, ss), la, sa)) (sepT (rowsT ss sa) R))))) (by unfold rT rowsT; dsimp only; rw [hS1]; ac_rfl)
  have h5 := ((((h3.store (j * 5) (.int .i64 v.tag)).store (j * 5 + 1) (.int .i64 v.n)).store (j * 5 + 2) (.int .u64 v.bits)).store (j * 5 + 3) (.string v.s)).store (j * 5 + 4) (.slice A5 v.lay.length c5)
  rw [avV_set la j v (.slice A5 v.lay.length c5) hj] at h5
  have h7 := h5.turn (a' := sepT (chainT la[j].1 la[j].2) (sepT (sepT (rowT 30 5 (.slice (some ⟨b, 0, none⟩) la.length c) la.length (avV (la.set j (v, .slice A5 v.lay.length c5)))) (sepT (chainT v (.slice A5 v.lay.length c5)) S)) (sepT (rtT q most g cp ys (k, (.slice (some ⟨b, 0, none⟩) la.length c, ss), la, sa)) (sepT (rowsT ss sa) R)))) (by unfold chainT; ac_rfl)
  refine ref_untop (y := ({ k with locals := k.locals.set j v }, (.slice (some ⟨b, 0, none⟩) la.length c, ss), la.set j (v, .slice A5 v.lay.length c5), sa)) (g := g) (cp := cp) rfl ⟨hok.1, ⟨⟨?_, hok.2.1.2.1, ?_, hok.2.1.2.2.2⟩, ?_, hok.2.2.2⟩⟩ hm (h7.drop.turn ?_)
  · show (k.locals.set j _).length ≤ 200
    rw [List.length_set]; exact hok.2.1.1
  · intro u hu
    rcases List.mem_or_eq_of_mem_set hu with hu | rfl
    · exact hok.2.1.2.2.1 u hu
    · exact hvk
  · show (la.set j (v, .slice A5 v.lay.length c5)).map (·.1) = k.locals.set j v
    rw [List.map_set, show la.map (·.1) = k.locals from hok.2.2.1]
  · unfold rT rowsT
    dsimp only
    rw [List.length_set, hS2]
    show sepT _ (sepT (rtT q most g cp ys (k, (.slice (some ⟨b, 0, none⟩) la.length c, ss), la, sa)) _) = sepT (rtT q most g cp ys (k, (.slice (some ⟨b, 0, none⟩) la.length c, ss), la, sa)) _
    ac_rfl
def loRs (i : Nat) : Nat := [0, 0, 1, 1, 1, 0, 0, 1, 2, 2].getD i 0
def upRs (i : Nat) : Nat := [0, 1, 2, 2, 2, 2, 1, 2, 2, 3].getD i 0
set_option maxRecDepth 100000 in
set_option maxHeartbeats 3200000 in
theorem rset_all (i : Int) (v : Val) (x : Value) (H : Lies N w0 W (sepT (refT q most fr) R)) (hv : ∀ W', Below N w0 W' → VIs W' v x) : Calls Try.prog 62 #[.pointer (some ⟨q, 0, none⟩), .int .i64 i, x] W fun e w' => e = .returned (.int .i64 (ftop fr 17 (·.localE i))) ∧ Lies N w0 w' (sepT (refT q most (fup fr (·.set i v))) R) := by
  obtain ⟨A0, c0, rfl, _, hvk⟩ := hv W H.below
  have H0 := H.newBlk 30 #[.int .i64 v.tag, .int .i64 v.n, .int .u64 v.bits, .string v.s, .slice A0 v.lay.length c0]
  have HT := Lib.hid (rlocal_all i (H0.turn (a' := sepT (refT q most fr) (sepT (blkT W.heap.size 30 #[.int .i64 v.tag, .int .i64 v.n, .int .u64 v.bits, .string v.s, .slice A0 v.lay.length c0]) R)) (by ac_rfl)))
  have hcase : (¬ ftop fr 17 (·.localE i) = 0 ∧ fup fr (·.set i v) = fr) ∨ (ftop fr 17 (·.localE i) = 0 ∧ ∃ f k, ∃ j : Nat, fr = f ++ [k] ∧ i = j ∧ j < k.locals.length ∧ fup fr (·.set i v) = f ++ [{ k with locals := k.locals.set j v }]) := by
    rcases fr_cases fr with rfl | ⟨f, k, rfl⟩
    · simp only [ftop_nil, fup_nil]; exact .inl ⟨by decide, trivial⟩
    · simp only [ftop_snoc, fup_snoc]
      by_cases hbad : i < 0 ∨ (k.locals.length : Int) ≤ i
      · have hb : k.badAt i = true := by simp [Cal.badAt, hbad]
        exact .inl ⟨by simp [Cal.localE, hb], by simp [Cal.set, hb]⟩
      · obtain ⟨j, rfl⟩ : ∃ j : Nat, i = j := ⟨i.toNat, by omega⟩
        have hb : k.badAt j = false := by simp [Cal.badAt]; omega
        exact .inr ⟨by simp [Cal.localE, hb], f, k, j, rfl, rfl, by omega, by simp [Cal.set, hb]⟩
  generalize hE2 : ftop fr 17 (·.localE i) = E at *
  generalize ftop fr Val.zero (·.localV i) = lv at *
  generalize fup fr (·.set i v) = fr2 at *
  have HV := Lib.hid (And.intro hv hvk)
  clear H H0 hv hvk hE2
  obtain ⟨tag, n, bits, s, lay⟩ := v
  simp only [Val.go] at *
  rcases hcase with ⟨hE, rfl⟩ | ⟨rfl, f, k, j, rfl, rfl, hj, rfl⟩
  · go_enter Try.func62, Try.ntmps62
    go_wp2_with fail
    refine HT.out.mono ?_
    rintro e w1 ⟨y, rfl, h⟩
    obtain ⟨Ay, cy, rfl, h⟩ := val_out h
    have HH := Lib.hid ((h.drop.turn (a' := sepT (blkT W.heap.size 30 #[.int .i64 tag, .int .i64 n, .int .u64 bits, .string s, .slice A0 lay.length c0]) (sepT (refT q most fr2) R)) (by ac_rfl)).drop)
    clear h HT HV
    obtain ⟨tag1, n1, bits1, s1, lay1⟩ := lv
    simp only [Val.go] at *
    go_wp2_with fail
    go_ret
    exact ⟨rfl, HH.out.alloc _⟩
  · go_enter Try.func62, Try.ntmps62
    go_wp2_with fail
    refine HT.out.mono ?_
    rintro e w1 ⟨y, rfl, h⟩
    obtain ⟨Ay, cy, rfl, hx0⟩ := val_out h
    clear h
    obtain ⟨tag1, n1, bits1, s1, lay1⟩ := lv
    have hx := hx0.drop.alloc (.cells #[.int .i64 tag1, .int .i64 n1, .int .u64 bits1, .string s1, .slice Ay lay1.length cy] 30)
    have hbl := (hx.turn (a' := sepT (blkT W.heap.size 30 #[.int .i64 tag, .int .i64 n, .int .u64 bits, .string s, .slice A0 lay.length c0]) (sepT (refT q most (f ++ [k])) R)) (by ac_rfl)).blk.1
    have b0 := hbl.cell 0
    have b1 := hbl.cell 1
    have b2 := hbl.cell 2
    have b3 := hbl.cell 3
    have b4 := hbl.cell 4
    simp at b0 b1 b2 b3 b4
    obtain ⟨g, cp, ys, y, ⟨rfl, rfl⟩, hok, hm, H1⟩ := ref_top ((hx.turn (a' := sepT (blkT W.heap.size 30 #[.int .i64 tag, .int .i64 n, .int .u64 bits, .string s, .slice A0 lay.length c0]) (sepT (refT q most (f ++ [k])) R)) (by ac_rfl)).drop)
    obtain ⟨_, c1, d0, d1, d2, d3, hfz⟩ := rt_cells H1
    obtain ⟨k, ⟨ls, ss⟩, la, sa⟩ := y
    have hll : la.length = k.locals.length := by rw [← hok.2.2.1, List.length_map]
    have H2 := H1.turn (a' := sepT (rowT 30 5 ls la.length (avV la)) (sepT (chainsT la) (sepT (rowsT ss sa) (sepT (rtT q most g cp ys (k, (ls, ss), la, sa)) R)))) (by unfold rT rowsT; dsimp only; ac_rfl)
    simp only at hj d0 d1 d2 d3
    obtain ⟨b, cs, rfl, _⟩ := H2.row.form (by omega)
    have hcs : (la.length : Int) ≤ (cs : Int) := by
      obtain ⟨_, _, h', h''⟩ := own_form H2.row
      injection h' with _ _ h3
      omega
    have hlt : (j : Int) < (la.length : Int) := by omega
    have fz := fun i => H2.row.frozenAt i
    have hcell := fun (a u) (ha : a < 5) (hu : ((la[j]'(by omega)).1.cs (la[j]'(by omega)).2)[a]? = some u) => (H2.row.cellAt (j * 5 + a) (by omega)).trans ((avV_at la j (by omega) a ha).trans hu)
    obtain ⟨u0, e0⟩ : ∃ u, _ = some u := ⟨_, hcell 0 _ (by decide) rfl⟩
    obtain ⟨u1, e1⟩ : ∃ u, _ = some u := ⟨_, hcell 1 _ (by decide) rfl⟩
    obtain ⟨u2, e2⟩ : ∃ u, _ = some u := ⟨_, hcell 2 _ (by decide) rfl⟩
    obtain ⟨u3, e3⟩ : ∃ u, _ = some u := ⟨_, hcell 3 _ (by decide) rfl⟩
    obtain ⟨u4, e4⟩ : ∃ u, _ = some u := ⟨_, hcell 4 _ (by decide) rfl⟩
    have HO := Lib.hid (fun m => copyV_any _ _ _ (HV.out.1 _ (H1.drewN m).below))
    have HT2 := Lib.hid (fun m => rtop_call (H1.drewN m) (by omega))
    have HOK := Lib.hid hok
    have HM := Lib.hid hm
    have HJ := Lib.hid (And.intro hj hll)
    have HH := Lib.hid H1
    have HVk := Lib.hid HV.out.2
    obtain ⟨m, hmm⟩ : ∃ m, m = ys.length := ⟨_, rfl⟩
    have HMM := Lib.hid hmm
    rw [← hmm] at c1 d0 d1 d2 d3 HT2
    simp only [Val.go] at *
    clear hx0 hx hbl H1 H2 hok hm hmm hfz hcell HT HV hj hll fz
    go_wp2_with fail
    refine wp_region_text [1, 7, 9] loRs upRs (by kernel_rfl) (by kernel_rfl) (by kernel_rfl) (by kernel_rfl) (by kernel_rfl) ?_
    refine wpTx_now (by rfl) (by rfl) (by rfl) (fun K hK => ?_)
    go_simp
    refine hK _ ?_
    clear hK K
    refine wpTx_eff (by rfl) (fun K hK => ?_)
    go_simp
    refine (HT2.out 1).mono ?_
    rintro e w' ⟨rfl, nn, rfl⟩
    refine ⟨_, rfl, hK _ _ (by simp [lateOK]) ?_⟩
    clear hK K
    repeat (refine wpTx_late [] (by rfl) (by rfl) (by rfl) (fun K hK => ?_); go_simp; refine hK _ _ ?_; clear hK K)
    refine wpTx_late [_] (by rfl) (by rfl) (by rfl) (fun K hK => ?_)
    go_simp
    refine hK _ _ ?_
    clear hK K
    refine wpTx_ws [_] (by rfl) (by rfl) (by rfl) (fun K hK => ?_)
    go_simp
    refine hK _ ?_
    clear hK K
    refine wpTx_eff (by rfl) (fun K hK => ?_)
    go_simp
    refine (HO.out (1 + nn)).mono ?_
    rintro e w2 ⟨ch, rfl, hown, hbe⟩
    obtain ⟨A5, c5, rfl, _⟩ := own_form hown
    replace hbe := (below_drewN _ _).trans (hbe.mono (by simp))
    have q2 := cell_below d2 hbe
    refine ⟨_, rfl, hK _ _ (by repeat (first | exact lateOK_nil | refine lateOK_skip (by rfl) ?_ | refine lateOK_cons (by go_simp) ?_)) ?_⟩
    clear hK K HO
    have h1 := HH.out.newRow hown hbe
    replace e0 := cell_below e0 hbe
    replace e1 := cell_below e1 hbe
    replace e2 := cell_below e2 hbe
    replace e3 := cell_below e3 hbe
    replace e4 := cell_below e4 hbe
    rw [Nat.add_zero] at e0
    have hrow := (h1.turn (a' := sepT (rowT 30 5 (.slice (some ⟨b, 0, none⟩) la.length cs) la.length (avV la)) (sepT (chainsT la) (sepT (rowsT ss sa) (sepT (rtT q most g cp ys (k, (.slice (some ⟨b, 0, none⟩) la.length cs, ss), la, sa)) (sepT (rowT 104 3 (.slice A5 lay.length c5) lay.length (layV lay)) R))))) (by unfold rT rowsT; dsimp only; ac_rfl)).row
    have f0 := hrow.frozenAt (j * 5)
    have f1 := hrow.frozenAt (j * 5 + 1)
    have f2 := hrow.frozenAt (j * 5 + 2)
    have f3 := hrow.frozenAt (j * 5 + 3)
    have f4 := hrow.frozenAt (j * 5 + 4)
    have HF := Lib.hid (rt_set (j := j) ⟨tag, n, bits, s, lay⟩ A5 c5 (by have := HJ.out; omega) HVk.out HOK.out HM.out (h1.turn (a' := sepT (rowT 104 3 (.slice A5 lay.length c5) lay.length (layV lay)) (sepT (rtT q most g cp ys (k, (.slice (some ⟨b, 0, none⟩) la.length cs, ss), la, sa)) (sepT (rT (k, (.slice (some ⟨b, 0, none⟩) la.length cs, ss), la, sa)) R))) (by ac_rfl)))
    clear h1 hown hbe hrow HH
    refine wpTx_now (by rfl) (by rfl) (by rfl) (fun K hK => ?_)
    go_simp
    refine hK _ ?_
    clear hK K
    refine wpTx_eff (by rfl) (fun K hK => ?_)
    go_simp
    refine hK _ _ (by repeat (first | exact lateOK_nil | refine lateOK_skip (by rfl) ?_)) ?_
    clear hK K
    refine wpTx_nil ?_
    go_wp2_with fail
    go_ret
    exact ⟨rfl, HF.out⟩
end
end Go.Proofs.Ytiaeckljpdhagaa
/- The document's frames: Call. -/
namespace Go.Proofs.Ytiaeckljpdhagaa
open Go.RowKit
set_option linter.unusedVariables false
set_option linter.unusedSimpArgs false
attribute [local go_sem] Oper.semAt_some run_store_func run_store_nilFunc
section
variable {N : Nat} {w0 W : World} {R : Thing} {q : Nat} {most : Int} {fr : List Cal}
theorem infoRC : (Try.prog.info? 102).map (fun i => (i.zero, i.size, i.bytes)) = some (some (.agg #[.int .i64 0, .int .i64 0, .slice none 0 0, .slice none 0 0]), 4, 64) := by kernel_rfl
theorem append_rc (xs : List Value) (n : Nat) (out : Value) (num pl : Int) (A : Option Addr) (k c : Nat) (H : Lies N w0 W (sepT (rowT 102 4 out n xs) R)) (hn : n ≤ 1000) :
    ∃ A' c' w', (Builtin.append_ #[62, 62] 62 #[out, .slice (some ⟨W.heap.size, 0, none⟩) 1 1]).run Try.prog (W.alloc (.cells #[.int .i64 num, .int .i64 pl, .slice A k c, .slice none 0 0] 102)) = .ok (.slice A' (n + 1) c') w' ∧ Lies N w0 w' (sepT (rowT 102 4 (.slice A' (n + 1) c') (n + 1) (xs ++ [.int .i64 num, .int .i64 pl, .slice A k c, .slice none 0 0])) R) ∧ W.heap.size ≤ w'.heap.size := by
  obtain ⟨W1, hW1⟩ : ∃ W1, W1 = W.alloc (.cells #[.int .i64 num, .int .i64 pl, .slice A k c, .slice none 0 0] 102) := ⟨_, rfl⟩
  have H1 : Lies N w0 W1 (sepT (rowT 102 4 out n xs) R) := by rw [hW1]; exact H.alloc _
  obtain ⟨i0, hi0, hz0, hz1, hz2⟩ := info_parts infoRC
  have hnr : Reads W1 (W.heap.size + 1) 4 (some ⟨W.heap.size, 0, none⟩) 1 [.int .i64 num, .int .i64 pl, .slice A k c, .slice none 0 0] := by rw [hW1]; exact new_reads W 102 4 _ rfl _ rfl
  obtain ⟨v', w', hrun, hown, hgrow, hat⟩ := run_append_any (P := Try.prog) W1 0 62 62 102 i0 _ 4 64 Try.underlying62 hi0 hz0 hz1 hz2 rfl (by decide) out n xs H1.row _ (some ⟨W.heap.size, 0, none⟩) 1 1 [.int .i64 num, .int .i64 pl, .slice A k c, .slice none 0 0] hnr
    (by intro u hu; simp at hu; rcases hu with rfl | rfl | rfl | rfl <;> rfl) (by simp only [maxLen]; omega) (by omega) (Nat.zero_le _)
  obtain ⟨A', c', rfl, _⟩ := own_form hown
  have h3 := H1.grown hown hgrow hat
  have hs1 : W1.heap.size = W.heap.size + 1 := by rw [hW1]; simp
  subst hW1
  exact ⟨A', c', w', hrun, h3, by have := hgrow.size; omega⟩
def loRk (i : Nat) : Nat := [0, 0, 0, 0, 0, 0, 0, 0, 1, 1, 2, 3, 3, 3].getD i 0
def upRk (i : Nat) : Nat := [3, 2, 2, 2, 2, 1, 0, 1, 1, 2, 3, 3, 3, 4].getD i 0
set_option maxRecDepth 100000 in
set_option maxHeartbeats 1600000 in
theorem rcall_all (number : Int) (l : List AV) (A : Option Addr) (c : Nat) (H : Lies N w0 W (sepT (refT q most fr) R)) (ha : l.length ≤ 200 → ArgRow W l A) (hlo : l.length ≤ 200 → ∀ y ∈ l, y.1.ok) :
    Calls Try.prog 55 #[.pointer (some ⟨q, 0, none⟩), .int .i64 number, .slice A l.length c] W fun e w' => e = .returned (.int .i64 (callE most fr (l.map (·.1)))) ∧ Lies N w0 w' (sepT (refT q most (fcall most fr number (l.map (·.1)))) R) := by
  obtain ⟨sl, rl, ⟨⟨hrl, hro⟩, hm⟩, H1⟩ := ref_parts H
  have hrn : rl.length = fr.length := by rw [← hrl, List.length_map]
  obtain ⟨Af, cf, rfl, _⟩ := own_form H1.drop.row
  have c0 := H1.blk.1.cell 0
  have c1 := H1.blk.1.cell 1
  have fz := H1.blk.1.frozen
  simp at c0 c1
  by_cases h1 : most ≤ (fr.length : Int)
  · have e1 : callE most fr (l.map (·.1)) = 11 := if_pos h1
    rw [fcall, e1, if_neg (by decide)]
    have h1' : most ≤ (rl.length : Int) := by omega
    have HH := Lib.hid H
    clear H H1 hrl hro hm ha hlo hrn h1 e1
    go_enter Try.func55, Try.ntmps55
    go_wp2_with fail
    go_quiet (fail)
    go_wp2
    go_ret
    exact ⟨rfl, HH.out.drewN _⟩
  · by_cases h2 : 200 < l.length
    · have e1 : callE most fr (l.map (·.1)) = 12 := by unfold callE; rw [if_neg h1, if_pos (by rw [List.length_map]; exact h2)]
      rw [fcall, e1, if_neg (by decide)]
      have h1' : ¬ most ≤ (rl.length : Int) := by omega
      have h2' : (200 : Int) < (l.length : Int) := by omega
      have HH := Lib.hid H
      clear H H1 hrl hro hm ha hlo hrn h1 e1 h2
      go_enter Try.func55, Try.ntmps55
      go_wp2_with fail
      go_quiet (fail)
      go_wp2
      go_ret
      exact ⟨rfl, HH.out.drewN _⟩
    · have e1 : callE most fr (l.map (·.1)) = 0 := by unfold callE; rw [if_neg h1, if_neg (by rw [List.length_map]; exact h2)]
      rw [fcall, e1, if_pos rfl]
      have h1' : ¬ most ≤ (rl.length : Int) := by omega
      have h2' : ¬ (200 : Int) < (l.length : Int) := by omega
      have hA := ha (by omega)
      have HO := Lib.hid (fun m => copyVs_big l A c (H1.drewN m) ((hA.1.below (below_drewN W m)).more (by simp)) (fun z hz => ((hA.2.2 z hz).two).below (below_drewN W m)) (by omega))
      have HL := Lib.hid (And.intro hrl hro)
      have HM := Lib.hid (And.intro hm (by omega : (rl.length : Int) + 1 ≤ most ∧ rl.length ≤ 1000))
      have HN := Lib.hid (And.intro (by omega : l.length ≤ 200) (hlo (by omega)))
      have HB := Lib.hid H1.blk.1
      clear H H1 hrl hro hm ha hlo hrn h1 e1 h2 hA
      go_enter Try.func55, Try.ntmps55
      go_wp2_with fail
      go_quiet (fail)
      go_wp2_with fail
      refine wp_region_text [7, 9, 10, 13] loRk upRk (by kernel_rfl) (by kernel_rfl) (by kernel_rfl) (by kernel_rfl) (by kernel_rfl) ?_
      repeat (first | (refine wpTx_now (by rfl) (by rfl) (by rfl) (fun K hK => ?_); go_simp; refine hK _ ?_; clear hK K) | (refine wpTx_late [] (by rfl) (by rfl) (by rfl) (fun K hK => ?_); go_simp; refine hK _ _ ?_; clear hK K))
      refine wpTx_eff (by rfl) (fun K hK => ?_)
      go_simp
      refine (HO.out _).mono ?_
      rintro e w1 ⟨y, rfl, h, hbe⟩
      replace hbe := (below_drewN _ _).trans (hbe.mono (by simp))
      obtain ⟨la, hla, h'⟩ := vals_out h
      clear h
      obtain ⟨A2, c2, rfl, _⟩ := own_form (h'.turn (a' := sepT (rowT 30 5 y la.length (avV la)) (sepT (chainsT la) (sepT (blkT q 64 #[.int .i64 most, .slice Af rl.length cf]) (sepT (rowT 102 4 (.slice Af rl.length cf) rl.length (rl.flatMap rcs)) (sepT (rsT rl) R))))) (by unfold rowsT; ac_rfl)).row
      have q1 := cell_below c1 hbe
      refine ⟨_, rfl, hK _ _ (by repeat (first | exact lateOK_nil | refine lateOK_skip (by rfl) ?_ | refine lateOK_cons (by go_simp) ?_)) ?_⟩
      clear hK K HO
      obtain ⟨A', c', w2, hrun, h2, hsz⟩ := append_rc (rl.flatMap rcs) rl.length (.slice Af rl.length cf) number 0 A2 la.length c2 (h'.turn (a' := sepT (rowT 102 4 (.slice Af rl.length cf) rl.length (rl.flatMap rcs)) (sepT (rowsT (.slice A2 la.length c2) la) (sepT (blkT q 64 #[.int .i64 most, .slice Af rl.length cf]) (sepT (rsT rl) R)))) (by ac_rfl)) HM.out.2.2
      have q2 := cell_alloc q1 (.cells #[.int .i64 number, .int .i64 0, .slice A2 la.length c2, .slice none 0 0] 102)
      have hb3 := (h2.turn (a' := sepT (blkT q 64 #[.int .i64 most, .slice Af rl.length cf]) (sepT (rowT 102 4 (.slice A' (rl.length + 1) c') (rl.length + 1) (rl.flatMap rcs ++ [.int .i64 number, .int .i64 0, .slice A2 la.length c2, .slice none 0 0])) (sepT (rowsT (.slice A2 la.length c2) la) (sepT (rsT rl) R)))) (by ac_rfl)).setBlk 1 (.slice A' (rl.length + 1) c')
      have hb4 := (h2.turn (a' := sepT (blkT q 64 #[.int .i64 most, .slice Af rl.length cf]) (sepT (rowT 102 4 (.slice A' (rl.length + 1) c') (rl.length + 1) (rl.flatMap rcs ++ [.int .i64 number, .int .i64 0, .slice A2 la.length c2, .slice none 0 0])) (sepT (rowsT (.slice A2 la.length c2) la) (sepT (rsT rl) R)))) (by ac_rfl)).blk.1
      have q3 := hb4.cell 1
      have f3 := hb4.frozen 1
      simp at q3
      have HF : Hid (Lies N w0 (w2.setCell ⟨q, 1, none⟩ (.slice A' (rl.length + 1) c')) (sepT (refT q most (fr ++ [⟨number, 0, l.map (·.1), []⟩])) R)) := by
        refine Lib.hid (ref_whole (sl := .slice A' (rl.length + 1) c') (l := rl ++ [(⟨number, 0, l.map (·.1), []⟩, (.slice A2 la.length c2, .slice none 0 0), la, [])]) ⟨⟨?_, ?_⟩, HM.out.1.1, HM.out.1.2.1, ?_⟩ ((rows_nil hb3).turn ?_))
        · rw [List.map_append, HL.out.1]; rfl
        · intro z hz
          rcases List.mem_append.1 hz with hz | hz
          · exact HL.out.2 z hz
          · rw [List.mem_singleton.1 hz]
            refine ⟨⟨?_, ?_, ?_, ?_⟩, hla, rfl⟩
            · show (l.map (·.1)).length ≤ 200
              rw [List.length_map]; exact HN.out.1
            · show (0 : Nat) ≤ 5000
              omega
            · intro v hv
              obtain ⟨y, hy, rfl⟩ := List.mem_map.1 hv
              exact HN.out.2 y hy
            · intro v hv; cases hv
        · have := HM.out.2.1
          have h := congrArg List.length HL.out.1
          rw [List.length_map] at h
          rw [List.length_append, List.length_singleton]
          omega
        · rw [rsT_app, List.flatMap_append, List.length_append, List.length_singleton]
          show _ = sepT _ (sepT (rowT 102 4 _ _ (rl.flatMap rcs ++ ([.int .i64 number, .int .i64 0, .slice A2 la.length c2, .slice none 0 0] ++ []))) (sepT (sepT (rsT rl) (sepT (sepT (rowsT (.slice A2 la.length c2) la) (rowsT (.slice none 0 0) [])) empT)) R))
          rw [sep_empT, List.append_nil]
          show sepT _ (sepT (blkT q 64 #[.int .i64 most, .slice A' (rl.length + 1) c']) _) = _
          ac_rfl
      have HR := Lib.hid hrun
      clear h' hla hrun h2 hb3 hb4 hbe
      repeat (refine wpTx_now (by rfl) (by rfl) (by rfl) (fun K hK => ?_); go_simp; refine hK _ ?_; clear hK K)
      refine wpTx_eff (by rfl) (fun K hK => ?_)
      go_simp
      refine hK _ _ (by repeat (first | exact lateOK_nil | refine lateOK_skip (by rfl) ?_ | refine lateOK_cons (by go_simp) ?_)) ?_
      clear hK K
      refine wpTx_append (by rfl) (by rfl) (.tmp 26) (.tmp 31) 62 62 rfl rfl rfl rfl HR.out (by repeat (first | exact lateOK_nil | refine lateOK_skip (by rfl) ?_ | refine lateOK_cons (by go_simp) ?_)) ?_
      repeat (refine wpTx_now (by rfl) (by rfl) (by rfl) (fun K hK => ?_); go_simp; refine hK _ ?_; clear hK K)
      refine wpTx_eff (by rfl) (fun K hK => ?_)
      go_simp
      refine hK _ _ (by repeat (first | exact lateOK_nil | refine lateOK_skip (by rfl) ?_)) ?_
      clear hK K
      refine wpTx_nil ?_
      go_wp2_with fail
      go_ret
      exact ⟨rfl, HF.out⟩
end
end Go.Proofs.Ytiaeckljpdhagaa
/- The document's frames: Values. -/
namespace Go.Proofs.Ytiaeckljpdhagaa
open Go.RowKit
set_option linter.unusedVariables false
set_option linter.unusedSimpArgs false
attribute [local go_sem] Oper.semAt_some run_store_func run_store_nilFunc
section
variable {N : Nat} {w0 W : World} {R : Thing} {q : Nat} {most : Int} {fr : List Cal}
theorem append_row (acc la : List AV) (out : Value) (A : Option Addr) (c : Nat) (H : Lies N w0 W (sepT (rowT 30 5 out acc.length (avV acc)) (sepT (rowsT (.slice A la.length c) la) R))) (hla : ∀ y ∈ la, y.1.ok) (hn : acc.length + la.length ≤ 10000000) :
    ∃ acc2, acc2 = acc ++ la ∧ ∃ A' c' w', (Builtin.append_ #[31, 31] 31 #[out, .slice A la.length c]).run Try.prog W = .ok (.slice A' acc2.length c') w' ∧ Lies N w0 w' (sepT (rowT 30 5 (.slice A' acc2.length c') acc2.length (avV acc2)) (sepT (rowsT (.slice A la.length c) la) R)) ∧ W.heap.size ≤ w'.heap.size := by
  have H2 : Lies N w0 W (sepT (rowT 30 5 (.slice A la.length c) la.length (avV la)) (sepT (chainsT la) (sepT (rowT 30 5 out acc.length (avV acc)) R))) := H.turn (by unfold rowsT; ac_rfl)
  obtain ⟨i0, hi0, hz0, hz1, hz2⟩ := info_parts infoV
  obtain ⟨v', w', hrun, hown, hgrow, hat⟩ := run_append_any (P := Try.prog) W 0 31 31 30 i0 _ 5 64 Try.underlying31 hi0 hz0 hz1 hz2 rfl (by decide) out acc.length (avV acc) H.row _ A la.length c (avV la) (Reads.of_own H2.row) (avV_one (chains_are H2.drop hla)) (by simp only [maxLen]; omega) (by omega) (Nat.zero_le _)
  obtain ⟨A', c', rfl, _⟩ := own_form hown
  have h3 := H.grown hown hgrow hat
  have e : (acc ++ la).length = acc.length + la.length := List.length_append
  refine ⟨_, rfl, A', c', w', by rw [e]; exact hrun, ?_, hgrow.size⟩
  rw [e, avV_app]
  exact h3
theorem rsT_pick : ∀ {l : List RD} (i : Nat) (h : i < l.length), ∃ S, rsT l = sepT (rT l[i]) S
  | x :: l, 0, _ => ⟨_, rfl⟩
  | x :: l, i + 1, h => by
    obtain ⟨S, hS⟩ := rsT_pick (l := l) i (by simpa using h)
    refine ⟨sepT (rT x) S, ?_⟩
    rw [rsT, hS]
    simp only [List.getElem_cons_succ]
    ac_rfl
theorem rcs_at (l : List RD) (i : Nat) (h : i < l.length) (j : Nat) (hj : j < 4) : (l.flatMap rcs)[i * 4 + j]? = (rcs l[i])[j]? := by
  conv => lhs; rw [← List.take_append_drop i l, List.drop_eq_getElem_cons h, List.flatMap_append]
  rw [List.getElem?_append_right (by rw [rcs_len, List.length_take]; omega), rcs_len, List.length_take, Nat.min_eq_left (by omega), Nat.add_sub_cancel_left, List.flatMap_cons, List.getElem?_append_left (by simp [rcs]; omega)]
def avs (x : RD) : List AV := x.2.2.1 ++ x.2.2.2
theorem rOk.len {x : RD} (h : rOk x) : x.2.2.1.length ≤ 200 ∧ x.2.2.2.length ≤ 5000 ∧ (∀ y ∈ x.2.2.1, y.1.ok) ∧ (∀ y ∈ x.2.2.2, y.1.ok) := by
  obtain ⟨⟨h1, h2, h3, h4⟩, h5, h6⟩ := h
  refine ⟨?_, ?_, fun y hy => h3 _ (by rw [← h5]; exact List.mem_map.2 ⟨y, hy, rfl⟩), fun y hy => h4 _ (by rw [← h6]; exact List.mem_map.2 ⟨y, hy, rfl⟩)⟩
  · rw [← h5, List.length_map] at h1; exact h1
  · rw [← h6, List.length_map] at h2; exact h2
theorem rs_chains {l : List RD} (H : Lies N w0 W (sepT (rsT l) R)) (hok : ∀ y ∈ l, rOk y) : ∀ z ∈ l.flatMap avs, ChIs W z.1 z.2 := by
  intro z hz
  obtain ⟨x, hx, hz⟩ := List.mem_flatMap.1 hz
  obtain ⟨i, hi, rfl⟩ := List.mem_iff_getElem.1 hx
  obtain ⟨S, hS⟩ := rsT_pick i hi
  have h1 : Lies N w0 W (sepT (rowsT l[i].2.1.1 l[i].2.2.1) (sepT (rowsT l[i].2.1.2 l[i].2.2.2) (sepT S R))) := H.turn (by rw [hS]; unfold rT; ac_rfl)
  have ho := (hok _ hx).len
  rcases List.mem_append.1 hz with hz | hz
  · obtain ⟨_, _, _, _, hA⟩ := rows_arg h1 ho.2.2.1
    exact hA.2.2 z hz
  · obtain ⟨_, _, _, _, hA⟩ := rows_arg (h1.turn (a' := sepT (rowsT l[i].2.1.2 l[i].2.2.2) (sepT (rowsT l[i].2.1.1 l[i].2.2.1) (sepT S R))) (by ac_rfl)) ho.2.2.2
    exact hA.2.2 z hz
theorem avs_map {l : List RD} (hok : ∀ y ∈ l, rOk y) : (l.flatMap avs).map (·.1) = (l.map (·.1)).flatMap Cal.all := by
  induction l with
  | nil => rfl
  | cons x l ih =>
    rw [List.flatMap_cons, List.map_append, ih (fun y hy => hok y (List.mem_cons_of_mem _ hy)), List.map_cons, List.flatMap_cons]
    have h := hok x (List.mem_cons_self ..)
    unfold avs Cal.all
    rw [List.map_append, h.2.1, h.2.2]
set_option maxRecDepth 100000 in
set_option maxHeartbeats 1600000 in
theorem rvalues_all (H : Lies N w0 W (sepT (refT q most fr) R)) : Calls Try.prog 33 #[.pointer (some ⟨q, 0, none⟩)] W fun e w' => ∃ y, e = .returned y ∧ Lies N w0 w' (sepT (valsT (fr.flatMap Cal.all) y) (sepT (refT q most fr) R)) := by
  obtain ⟨sl, rl, ⟨⟨hrl, hro⟩, hm⟩, H1⟩ := ref_parts H
  have hrn : rl.length = fr.length := by rw [← hrl, List.length_map]
  obtain ⟨Af, cf, rfl, _⟩ := own_form H1.drop.row
  have HM := Lib.hid hm
  have HL := Lib.hid (And.intro hrl hro)
  have hr2 : rl.length ≤ 200 := by omega
  have H2 := (H1.add (rowT 30 5 (.slice none 0 0) 0 []) (Only.refl _ _) ⟨_, ⟨World.ownsRow_nil _ _ _ _, rfl⟩, fun b hb => by simp [Value.ownBlock] at hb⟩)
  have HH := Lib.hid H2
  clear H H1 H2 hrl hro hm hrn
  go_enter Try.func33, Try.ntmps33
  go_wp2
  go_loopw [3, 4] (fun out ix wr => ∃ (i : Nat) (acc : List AV) (Ao : Option Addr) (co : Nat), out = .slice Ao acc.length co ∧ ix = .int .i64 i ∧ i ≤ rl.length ∧ (acc.length ≤ i * 5200 ∧ acc = (rl.take i).flatMap avs) ∧ Lies N w0 wr (sepT (rowT 30 5 (.slice Ao acc.length co) acc.length (avV acc)) (sepT (blkT q 64 #[.int .i64 most, .slice Af rl.length cf]) (sepT (rowT 102 4 (.slice Af rl.length cf) rl.length (rl.flatMap rcs)) (sepT (rsT rl) R))))) (fun _ ix _ => rl.length - (intOf ix).toNat)
  case atStart => exact ⟨0, [], none, 0, rfl, rfl, Nat.zero_le _, ⟨Nat.zero_le _, rfl⟩, HH.out⟩
  case round =>
    obtain ⟨i, acc, Ao, co, rfl, rfl, hi, hacc, hh⟩ := hrel
    have HA := Lib.hid hacc
    have HB := Lib.hid hh
    have q1 : wr.cell? ⟨q, 1, none⟩ = some (.slice Af rl.length cf) := hh.drop.blk.1.cell 1
    clear hacc hh HH
    by_cases hlt : i < rl.length
    · have hlt' : (i : Int) < (rl.length : Int) := by omega
      obtain ⟨S, hS⟩ := rsT_pick i hlt
      have HS := Lib.hid hS
      have hrow := (HB.out.turn (a' := sepT (rowT 102 4 (.slice Af rl.length cf) rl.length (rl.flatMap rcs)) (sepT (blkT q 64 #[.int .i64 most, .slice Af rl.length cf]) (sepT (rowT 30 5 (.slice Ao acc.length co) acc.length (avV acc)) (sepT (rsT rl) R)))) (by ac_rfl)).row
      obtain ⟨g, cap, he, _⟩ := hrow.form (by omega)
      obtain ⟨rfl, rfl⟩ : Af = some ⟨g, 0, none⟩ ∧ cf = cap := by injection he with h1 h2 h3; exact ⟨h1, h3⟩
      have hlo := (HL.out.2 _ (List.getElem_mem hlt)).len
      have d2 : wr.cell? ⟨g, i * 4 + 2, none⟩ = some rl[i].2.1.1 := (hrow.cellAt _ (by omega)).trans ((rcs_at rl i hlt 2 (by decide)).trans rfl)
      have HN := Lib.hid (rcs_at rl i hlt 3 (by decide))
      have h1 := HB.out.turn (a' := sepT (rowsT rl[i].2.1.1 rl[i].2.2.1) (sepT (rowsT rl[i].2.1.2 rl[i].2.2.2) (sepT (rowT 30 5 (.slice Ao acc.length co) acc.length (avV acc)) (sepT (blkT q 64 #[.int .i64 most, .slice (some ⟨g, 0, none⟩) rl.length cf]) (sepT (rowT 102 4 (.slice (some ⟨g, 0, none⟩) rl.length cf) rl.length (rl.flatMap rcs)) (sepT S R)))))) (by rw [hS]; unfold rT; ac_rfl)
      obtain ⟨Al, cl, hAl, _, _⟩ := rows_arg h1 hlo.2.2.1
      obtain ⟨As, cs, hAs, _, _⟩ := rows_arg (h1.turn (a' := sepT (rowsT rl[i].2.1.2 rl[i].2.2.2) (sepT (rowsT rl[i].2.1.1 rl[i].2.2.1) (sepT (rowT 30 5 (.slice Ao acc.length co) acc.length (avV acc)) (sepT (blkT q 64 #[.int .i64 most, .slice (some ⟨g, 0, none⟩) rl.length cf]) (sepT (rowT 102 4 (.slice (some ⟨g, 0, none⟩) rl.length cf) rl.length (rl.flatMap rcs)) (sepT S R)))))) (by ac_rfl)) hlo.2.2.2
      have hs3 : rsT rl = sepT (sepT (rowsT rl[i].2.1.1 rl[i].2.2.1) (rowsT rl[i].2.1.2 rl[i].2.2.2)) S := hS
      have hix : rl[i].2.2.1 ++ rl[i].2.2.2 = avs rl[i] := rfl
      have HIX := Lib.hid hix
      generalize rl[i].2.2.1 = la at *
      generalize rl[i].2.2.2 = sa at *
      rw [hAl, hAs] at h1 hs3
      rw [hAl] at d2
      have hd3 : ∀ w' : World, w'.ownsRow 0 102 4 (.slice (some ⟨g, 0, none⟩) rl.length cf) rl.length (rl.flatMap rcs) → w'.cell? ⟨g, i * 4 + 3, none⟩ = some (.slice As sa.length cs) := fun w' h => (h.cellAt _ (by omega)).trans (HN.out.trans (by rw [← hAs]; rfl))
      obtain ⟨acc2, hE2, A', c', w1, hrun, h2, _⟩ := append_row acc la (.slice Ao acc.length co) Al cl (R := sepT (rowsT (.slice As sa.length cs) sa) (sepT (blkT q 64 #[.int .i64 most, .slice (some ⟨g, 0, none⟩) rl.length cf]) (sepT (rowT 102 4 (.slice (some ⟨g, 0, none⟩) rl.length cf) rl.length (rl.flatMap rcs)) (sepT S R)))) (h1.turn (by ac_rfl)) hlo.2.2.1 (by have := HA.out.1; omega)
      have h3 := h2.turn (a' := sepT (rowT 30 5 (.slice A' acc2.length c') acc2.length (avV acc2)) (sepT (rowsT (.slice As sa.length cs) sa) (sepT (rowsT (.slice Al la.length cl) la) (sepT (blkT q 64 #[.int .i64 most, .slice (some ⟨g, 0, none⟩) rl.length cf]) (sepT (rowT 102 4 (.slice (some ⟨g, 0, none⟩) rl.length cf) rl.length (rl.flatMap rcs)) (sepT S R)))))) (by ac_rfl)
      have hl2 : acc2.length = acc.length + la.length := by rw [hE2, List.length_append]
      obtain ⟨acc3, hE3, A3, c3, w2, hrun2, h4, _⟩ := append_row acc2 sa (.slice A' acc2.length c') As cs h3 hlo.2.2.2 (by have := HA.out.1; omega)
      have q2 : w1.cell? ⟨q, 1, none⟩ = some (.slice (some ⟨g, 0, none⟩) rl.length cf) := h3.drop.drop.drop.blk.1.cell 1
      have d3 := hd3 w1 h3.drop.drop.drop.drop.row
      have HR := Lib.hid hrun
      have HR2 := Lib.hid hrun2
      have HFin : Hid (acc3.length ≤ (i + 1) * 5200 ∧ acc3 = (rl.take (i + 1)).flatMap avs) := by
        refine Lib.hid ⟨?_, ?_⟩
        · rw [hE3, List.length_append, hl2]
          have := HA.out.1
          omega
        · rw [hE3, hE2, HA.out.2, List.take_succ_eq_append_getElem hlt, List.flatMap_append, List.append_assoc, HIX.out]
          simp
      have HZ := Lib.hid (h4.turn (a' := sepT (rowT 30 5 (.slice A3 acc3.length c3) acc3.length (avV acc3)) (sepT (blkT q 64 #[.int .i64 most, .slice (some ⟨g, 0, none⟩) rl.length cf]) (sepT (rowT 102 4 (.slice (some ⟨g, 0, none⟩) rl.length cf) rl.length (rl.flatMap rcs)) (sepT (sepT (sepT (rowsT (.slice Al la.length cl) la) (rowsT (.slice As sa.length cs) sa)) S) R)))) (by ac_rfl))
      have HS3 := Lib.hid hs3
      clear hS hs3 hrow he h1 hAl hAs hix hd3 hrun hrun2 h2 h3 h4 hE2 hE3 hl2 hlo
      go_wp2_with (first | (at_builtin; refine wpList_append_run rfl (.tmp 14) (.tmp 22) 31 31 rfl rfl rfl rfl HR.out ?_) | (at_builtin; refine wpList_append_run rfl (.tmp 24) (.tmp 32) 31 31 rfl rfl rfl rfl HR2.out ?_))
      go_roundw
      case rel => exact ⟨i + 1, acc3, A3, c3, rfl, by go_num, by omega, HFin.out, HZ.out.turn (by rw [HS3.out])⟩
      case measure => simp [intOf]; omega
    · have hlt' : ¬ (i : Int) < (rl.length : Int) := by omega
      obtain rfl : i = rl.length := by omega
      have ha := HA.out.2
      rw [List.take_length] at ha
      have hc := rs_chains (HB.out.turn (a' := sepT (rsT rl) (sepT (rowT 30 5 (.slice Ao acc.length co) acc.length (avV acc)) (sepT (blkT q 64 #[.int .i64 most, .slice Af rl.length cf]) (sepT (rowT 102 4 (.slice Af rl.length cf) rl.length (rl.flatMap rcs)) R)))) (by ac_rfl)) HL.out.2
      have HC := Lib.hid (copyVs_big acc Ao co HB.out (Reads.of_own HB.out.row) (fun z hz => (hc z (by rw [← ha]; exact hz)).two) (by have := HA.out.1; omega))
      have HE := Lib.hid (show acc.map (·.1) = fr.flatMap Cal.all by rw [ha, avs_map HL.out.2, HL.out.1])
      clear ha hc
      go_wp2_with fail
      refine HC.out.mono ?_
      rintro e w1 ⟨y, rfl, h, _⟩
      rw [HE.out] at h
      have HF := Lib.hid (ref_whole ⟨⟨HL.out.1, HL.out.2⟩, HM.out⟩ ((h.turn (a' := sepT (rowT 30 5 (.slice Ao acc.length co) acc.length (avV acc)) (sepT (blkT q 64 #[.int .i64 most, .slice Af rl.length cf]) (sepT (rowT 102 4 (.slice Af rl.length cf) rl.length (rl.flatMap rcs)) (sepT (rsT rl) (sepT (valsT (fr.flatMap Cal.all) y) R))))) (by ac_rfl)).drop))
      clear h HC
      go_wp2_with fail
      go_ret
      exact ⟨_, rfl, HF.out.turn (by ac_rfl)⟩
end
end Go.Proofs.Ytiaeckljpdhagaa
