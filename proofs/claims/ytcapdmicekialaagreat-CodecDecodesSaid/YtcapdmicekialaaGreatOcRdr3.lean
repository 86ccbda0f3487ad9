/- octet.Reader: Word. -/
import Derived.Test.YtcapdmicekialaaGreatOcRdr2
namespace Go.Proofs.YtcapdmicekialaaGreat
open Go.RowKit
open Go.BigFrame
attribute [local go_sem] Oper.semAt_some run_store_func run_store_nilFunc

/-- What Word comes to. -/
def rWord (bs : List UInt8) (s : RS) (most : Int) : List UInt8 × RS :=
  if s.2.1 ≠ 0 then ([], s) else if (rdGo 0 0 (bs.drop s.1)).1 ≠ 0 then ([], (s.1, (rdGo 0 0 (bs.drop s.1)).1, s.1)) else if most < (rdGo 0 0 (bs.drop s.1)).2.1 then ([], (s.1, 4, s.1))
  else if bs.length < s.1 + (rdGo 0 0 (bs.drop s.1)).2.2 + (rdGo 0 0 (bs.drop s.1)).2.1 then ([], (s.1, 13, s.1))
  else ((bs.drop (s.1 + (rdGo 0 0 (bs.drop s.1)).2.2)).take (rdGo 0 0 (bs.drop s.1)).2.1, (s.1 + (rdGo 0 0 (bs.drop s.1)).2.2 + (rdGo 0 0 (bs.drop s.1)).2.1, s.2))
def RStepS (p : Nat) (bs : List UInt8) (v : Value) (r : List UInt8 × RS) (w : World) (e : Ending) (w' : World) : Prop := e = .returned (.string (strB r.1)) ∧ RdAt p bs r.2.1 r.2.2.1 r.2.2.2 v w w'
theorem cut_reads {w : World} {base g n cap a k : Nat} {bs : List UInt8} (h : w.ownsRow base 5 1 (.slice (some ⟨g, 0, none⟩) n cap) n (bytesV bs)) (_hk : a + k ≤ n) :
    Reads w w.heap.size 1 (some ⟨g, a, none⟩) ((bs.drop a).take k).length (bytesV ((bs.drop a).take k)) := by
  refine ⟨by rw [bytesV_len, Nat.mul_one], fun hn => ⟨_, rfl, (World.ownsRow.lt h g rfl).2, fun j u hu => ?_⟩⟩
  have hj : j < ((bs.drop a).take k).length := by
    rcases Nat.lt_or_ge j ((bs.drop a).take k).length with x | x
    · exact x
    · rw [List.getElem?_eq_none (by rw [bytesV_len]; exact x)] at hu; cases hu
  rw [List.length_take, List.length_drop] at hj
  have hc := World.ownsRow.cells h (g := g) rfl (a + j) u (by
    unfold bytesV at hu ⊢
    rw [List.getElem?_map, List.getElem?_take_of_lt (by omega), List.getElem?_drop] at hu
    rw [List.getElem?_map]; exact hu)
  rw [show (⟨g, a, none⟩ : Addr).add j = (⟨g, 0, none⟩ : Addr).add (a + j) from by unfold Addr.add; by_cases h1 : j = 0 <;> by_cases h2 : a = 0 <;> simp [h1, h2]]
  exact hc
set_option maxRecDepth 100000 in
set_option maxHeartbeats 1600000 in
theorem rdr_word (p : Nat) (bs : List UInt8) (at_ : Nat) (err eat most : Int) (v : Value) (w : World) (h : Rd w p bs at_ err eat v) :
    Calls Tryz.prog 106 #[.pointer (some ⟨p, 0, none⟩), .int .i64 most] w (RStepS p bs v (rWord bs (at_, err, eat) most) w) := by
  have c1 := h.blk.cell 1
  have c2 := h.blk.cell 2
  have c4 := h.blk.cell 4
  simp at c1 c2 c4
  have hb := rdGo_lt (bs.drop at_) 0 0 (by decide) (by decide)
  have hle := h.le
  have hsm := h.small
  by_cases he : err = 0
  · subst he
    have HN := Lib.hid (rdnum_any p bs at_ 0 eat v w h)
    have HRW : Hid (rWord bs (at_, 0, eat) most = if (rdGo 0 0 (bs.drop at_)).1 ≠ 0 then ([], (at_, (rdGo 0 0 (bs.drop at_)).1, (at_ : Int))) else if most < (rdGo 0 0 (bs.drop at_)).2.1 then ([], (at_, 4, (at_ : Int)))
      else if bs.length < at_ + (rdGo 0 0 (bs.drop at_)).2.2 + (rdGo 0 0 (bs.drop at_)).2.1 then ([], (at_, 13, (at_ : Int)))
      else ((bs.drop (at_ + (rdGo 0 0 (bs.drop at_)).2.2)).take (rdGo 0 0 (bs.drop at_)).2.1, (at_ + (rdGo 0 0 (bs.drop at_)).2.2 + (rdGo 0 0 (bs.drop at_)).2.1, 0, eat))) := by
      unfold rWord; rw [if_neg (show ¬ (0 : Int) ≠ 0 by decide)]; exact rfl
    clear h
    have hpos : (rdGo 0 0 (bs.drop at_)).1 = 0 → 0 < bs.length := by
      intro h0
      rcases Nat.eq_zero_or_pos bs.length with h1 | h1
      · rw [List.drop_eq_nil_of_le (by omega)] at h0; cases h0
      · exact h1
    generalize rdGo 0 0 (bs.drop at_) = r at *
    obtain ⟨r1, n, k⟩ := r
    simp only at hb HRW hpos
    by_cases hr : r1 = 0
    · subst hr
      rw [if_neg (show ¬ (0 : Int) ≠ 0 by decide)] at HRW
      by_cases hm : most < (n : Int)
      · rw [if_pos hm] at HRW
        go_enter_defers Tryz.func106, Tryz.ntmps106
        go_wp2_with fail
        refine (rdnone_made p w c4).mono ?_
        rintro e w' ⟨rfl, rfl⟩
        go_wp2_with fail
        refine HN.out.mono ?_
        rintro e w1 ⟨h1, _⟩
        obtain ⟨rfl, h2, h3⟩ := h1 rfl
        have H2 := Lib.hid h2
        clear h2 h1
        go_wp2_with fail
        refine leaves_cons (f := 131) (args := #[.pointer (some ⟨p, 0, none⟩), .int .i64 at_]) (by simp) (by simp [go_sem]) ?_
        refine (keep_panic p bs (at_ + k) at_ 0 eat 4 v [] w1 H2.out hle).mono ?_
        rintro e u' w2 ⟨rfl, rfl, h4, h5⟩
        refine ⟨_, results_tmp rfl _ _ _, ?_⟩
        rw [HRW.out]
        exact ⟨rfl, h4, h3.trans h5⟩
      · rw [if_neg hm] at HRW
        by_cases hl : bs.length < at_ + k + n
        · rw [if_pos hl] at HRW
          go_enter_defers Tryz.func106, Tryz.ntmps106
          go_wp2_with fail
          refine (rdnone_made p w c4).mono ?_
          rintro e w' ⟨rfl, rfl⟩
          go_wp2_with fail
          refine HN.out.mono ?_
          rintro e w1 ⟨h1, _⟩
          obtain ⟨rfl, h2, h3⟩ := h1 rfl
          obtain ⟨Av, cv, rfl, _⟩ := own_form h2.own
          have d0 := h2.blk.cell 0
          have d1 := h2.blk.cell 1
          simp at d0 d1
          have hak : at_ + k ≤ bs.length := h2.le
          have hw : IntKind.i64.wrap ((bs.length : Int) - ((at_ : Int) + (k : Int))) = (bs.length : Int) - ((at_ : Int) + (k : Int)) := IntWalk.i64_in _ (by omega)
          have hlt : (bs.length : Int) - ((at_ : Int) + (k : Int)) < (n : Int) := by omega
          have H2 := Lib.hid h2
          clear h2 h1
          go_wp2_with fail
          go_quiet (fail)
          go_wp2_with fail
          refine leaves_cons (f := 131) (args := #[.pointer (some ⟨p, 0, none⟩), .int .i64 at_]) (by simp) (by simp [go_sem]) ?_
          refine (keep_panic p bs (at_ + k) at_ 0 eat 13 _ [] _ (H2.out.drewN nq) hle).mono ?_
          rintro e u' w2 ⟨rfl, rfl, h4, h5⟩
          refine ⟨_, results_tmp rfl _ _ _, ?_⟩
          rw [HRW.out]
          exact ⟨rfl, h4, (h3.trans (Only.drewN _ w1 nq)).trans h5⟩
        · rw [if_neg hl] at HRW
          go_enter_defers Tryz.func106, Tryz.ntmps106
          go_wp2_with fail
          refine (rdnone_made p w c4).mono ?_
          rintro e w' ⟨rfl, rfl⟩
          go_wp2_with fail
          refine HN.out.mono ?_
          rintro e w1 ⟨h1, _⟩
          obtain ⟨rfl, h2, h3⟩ := h1 rfl
          change Rd w1 p bs (at_ + k) 0 eat v at h2
          clear h1
          generalize at_ + k = a at *
          obtain ⟨g, cv, rfl, _, _⟩ := h2.own.form (hpos trivial)
          have hcap : bs.length ≤ cv := by
            rcases h2.own.2 with ⟨hh, _⟩ | ⟨g', cap, cur, hh, _, _, hc, _⟩
            · cases hh
            · injection hh with _ _ hh; omega
          have hcm : cv ≤ 9223372036854775807 := by
            rcases h2.own.2 with ⟨hh, _⟩ | ⟨g', cap, cur, hh, _, _, _, hc, _⟩
            · cases hh
            · injection hh with _ _ hh; simp only [maxLen] at hc; omega
          have d0 := h2.blk.cell 0
          have d1 := h2.blk.cell 1
          have e1 := h2.blk.frozen 1
          simp at d0 d1
          have hw : IntKind.i64.wrap ((bs.length : Int) - (a : Int)) = (bs.length : Int) - (a : Int) := IntWalk.i64_in _ (by omega)
          have hlt : ¬ (bs.length : Int) - (a : Int) < (n : Int) := by omega
          have H2 := Lib.hid h2
          clear h2
          go_wp2_with fail
          go_quiet (fail)
          go_wp2_with fail
          have k1 := (H2.out.drewN nq).at_set (a + n) (by omega)
          have k2 : Only (· = p) w1 ((w1.drewN nq).setCell ⟨p, 1, none⟩ (.int .i64 ((a + n : Nat) : Int))) := (Only.drewN _ w1 nq).trans (Only.setCell (S := (· = p)) _ ⟨p, 1, none⟩ _ rfl)
          rw [Int.natCast_add] at k1 k2
          clear d0 d1 e1 hw H2
          generalize ((w1.drewN nq).setCell ⟨p, 1, none⟩ (.int .i64 ((a : Int) + (n : Int)))) = W at *
          have d0 := k1.blk.cell 0
          have d1 := k1.blk.cell 1
          simp at d0 d1
          have hlen : ((bs.drop a).take n).length = n := by rw [List.length_take, List.length_drop]; omega
          have hcv : ∀ (c m : Nat), (convert 31 9 (.slice (if cv = a then some ⟨g, 0, none⟩ else some ⟨g, a, none⟩) n c)).run Tryz.prog (W.drewN m) = .ok (.string (strB ((bs.drop a).take n))) (W.drewN m) := by
            intro c m
            by_cases hca : cv = a
            · have hn0 : n = 0 := by omega
              subst hn0
              rw [if_pos hca]
              exact conv_reads (P := Tryz.prog) (W.drewN m) 31 9 5 Tryz.underlying31 Tryz.underlying5 Tryz.underlying9 (bs := []) c (B := 0) ⟨rfl, fun h => absurd h (by decide)⟩
            · rw [if_neg hca]
              have := conv_reads (P := Tryz.prog) (W.drewN m) 31 9 5 Tryz.underlying31 Tryz.underlying5 Tryz.underlying9 c (cut_reads (k1.drewN m).own (a := a) (k := n) (by omega))
              rw [hlen] at this
              exact this
          obtain ⟨AD, hAD⟩ : ∃ AD, (if cv = a then some (⟨g, 0, none⟩ : Addr) else some ⟨g, a, none⟩) = AD := ⟨_, rfl⟩
          rw [hAD] at hcv
          have hw1 : IntKind.i64.wrap ((a : Int) + (n : Int) - (n : Int)) = a := by rw [Int.add_sub_cancel]; exact IntWalk.i64_in _ (by omega)
          have hw2 : IntKind.i64.wrap (a : Int) = a := IntWalk.i64_in _ (by omega)
          have K1 := Lib.hid k1
          clear k1 hlen
          go_quiet (fail)
          go_wp2_with fail
          refine leaves_cons (f := 131) (args := #[.pointer (some ⟨p, 0, none⟩), .int .i64 at_]) (by simp) (by simp [go_sem]) ?_
          refine (keep_idle p at_ _).mono ?_
          rintro e u' w2 ⟨rfl, rfl, rfl⟩
          refine ⟨_, results_tmp rfl _ _ _, ?_⟩
          rw [HRW.out]
          exact ⟨rfl, K1.out.drewN _, (h3.trans k2).trans (Only.drewN _ _ _)⟩
    · have HR : Hid (rWord bs (at_, 0, eat) most = ([], (at_, r1, (at_ : Int)))) := by rw [HRW.out, if_pos hr]; exact rfl
      clear HRW
      go_enter_defers Tryz.func106, Tryz.ntmps106
      go_wp2_with fail
      refine (rdnone_made p w c4).mono ?_
      rintro e w' ⟨rfl, rfl⟩
      go_wp2_with fail
      refine HN.out.mono ?_
      rintro e w1 ⟨_, h1⟩
      obtain ⟨rfl, j, h2, h3⟩ := h1 hr
      have H2 := Lib.hid h2
      clear h2 h1
      go_wp2_with fail
      refine leaves_cons (f := 131) (args := #[.pointer (some ⟨p, 0, none⟩), .int .i64 at_]) (by simp) (by simp [go_sem]) ?_
      refine (keep_panic p bs j at_ 0 eat r1 v [] w1 H2.out hle).mono ?_
      rintro e u' w2 ⟨rfl, rfl, h4, h5⟩
      refine ⟨_, results_tmp rfl _ _ _, ?_⟩
      rw [HR.out]
      exact ⟨rfl, h4, h3.trans h5⟩
  · have HR : Hid (rWord bs (at_, err, eat) most = ([], (at_, err, eat))) := by unfold rWord; rw [if_pos he]; exact rfl
    have he' : (err != 0) = true := by simpa using he
    have H := Lib.hid h
    clear h hb
    go_enter_defers Tryz.func106, Tryz.ntmps106
    go_wp2_with fail
    refine (rdnone_made p w c4).mono ?_
    rintro e w' ⟨rfl, rfl⟩
    go_wp2_with fail
    refine ⟨_, results_tmp rfl _ _ _, ?_⟩
    rw [HR.out]
    exact ⟨rfl, H.out, Only.refl _ _⟩
end Go.Proofs.YtcapdmicekialaaGreat
