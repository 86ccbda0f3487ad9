/- The chapter's examples: seven, awake, FramesKnown. -/
import Derived.Test.YtiaeckljpdhagaaFrHelp
namespace Go.Proofs.Ytiaeckljpdhagaa
open Go.RowKit
set_option linter.unusedVariables false
set_option linter.unusedSimpArgs false
attribute [local go_sem] Oper.semAt_some run_store_func run_store_nilFunc
section
variable {N : Nat} {w0 W : World} {R : Thing}
theorem call_vals {p : Nat} {most : Int} {fr : List Cal} {l : List Val} {y : Value} (number : Int) (H : Lies N w0 W (sepT (valsT l y) (sepT (framesT p most fr) R))) (hl : ∀ v ∈ l, v.ok) :
    Calls Try.prog 13 #[.pointer (some ⟨p, 0, none⟩), .int .i64 number, y] W fun e w' => e = .returned (.int .i64 (callE most fr l)) ∧ Lies N w0 w' (sepT (valsT l y) (sepT (framesT p most (fcall most fr number l)) R)) := by
  obtain ⟨A, c, la, rfl, hla, hA⟩ := vals_arg H hl
  refine (call_all number la A c (H.turn (a' := sepT (framesT p most fr) (sepT (valsT l (.slice A la.length c)) R)) (by ac_rfl)) (fun _ => hA) (fun _ y hy => hl _ (by rw [← hla]; exact List.mem_map.2 ⟨y, hy, rfl⟩))).mono ?_
  rintro e w' ⟨rfl, h⟩
  rw [hla] at h ⊢
  exact ⟨rfl, h.turn (by ac_rfl)⟩
theorem call_nil {p : Nat} {most : Int} {fr : List Cal} (number : Int) (H : Lies N w0 W (sepT (framesT p most fr) R)) :
    Calls Try.prog 13 #[.pointer (some ⟨p, 0, none⟩), .int .i64 number, .slice none 0 0] W fun e w' => e = .returned (.int .i64 (callE most fr [])) ∧ Lies N w0 w' (sepT (framesT p most (fcall most fr number [])) R) := by
  refine (call_vals number (vals_nil H) (fun v hv => by cases hv)).mono ?_
  rintro e w' ⟨rfl, h⟩
  exact ⟨rfl, h.drop⟩
theorem vis_ok {xs : List Int} : ∀ v ∈ xs.map vi, v.ok := by
  intro v hv
  obtain ⟨n, _, rfl⟩ := List.mem_map.1 hv
  exact vi_ok n
def pu : Nat → List Val
  | 0 => []
  | j + 1 => pu j ++ [vi ((j : Int) + 1)]
theorem pu_len (j : Nat) : (pu j).length = j := by
  induction j with
  | zero => rfl
  | succ j ih => rw [pu, List.length_append, ih]; rfl

set_option maxRecDepth 100000 in
set_option maxHeartbeats 3200000 in
theorem seven_any (H : Lies N w0 W R) : Calls Try.prog 8 #[] W fun e w' => ∃ p, e = .returned (.pointer (some ⟨p, 0, none⟩)) ∧ Lies N w0 w' (sepT (framesT p 2 ([⟨7, 0, [vi 4, vi 5], [vi 1]⟩] : List Cal)) R) := by
  have H0 := Lib.hid H
  clear H
  go_enter Try.func8, Try.ntmps8
  go_wp2_with fail
  refine (new_good 2 (by decide) (by decide) H0.out).mono ?_
  rintro e w1 ⟨p, rfl, h1⟩
  have HH := Lib.hid h1
  clear h1 H0
  go_wp2_with fail
  refine (of_all (R := sepT (framesT p 2 ([] : List Cal)) R) ([1] : List Int) _ _ (HH.out.alloc _) (ints_new _ _ ([1] : List Int) _ rfl) (by simp)).mono ?_
  rintro e w2 ⟨y2, rfl, h2⟩
  obtain ⟨b, off, n', A', c', hy, ⟨e0, e1, e2, e3, e4⟩, hv⟩ := vi_at h2 0 (by simp)
  subst hy
  simp only [Nat.zero_mul, Nat.add_zero, List.getElem_cons_zero, List.length_cons, List.length_nil, Nat.zero_add] at e0 e1 e2 e3 e4 hv ⊢
  have HG := Lib.hid h2.drop
  have HP : Hid (Calls Try.prog 21 #[.pointer (some ⟨p, 0, none⟩), .agg #[.int .i64 1, .int .i64 1, .int .u64 0, .string ⟨#[]⟩, .slice A' 0 c']] _ fun e w' => e = .returned (.int .i64 17) ∧ Lies N w0 w' (sepT (framesT p 2 ([] : List Cal)) R)) := Lib.hid (push_all (vi 1) _ HG.out hv)
  clear HG HH hv h2
  go_wp2_with fail
  refine HP.out.mono ?_
  rintro e w3 ⟨rfl, h3⟩
  have HH := Lib.hid h3
  clear HP h3
  go_wp2_with fail
  refine (of_all (R := sepT (framesT p 2 ([] : List Cal)) R) ([4, 5] : List Int) _ _ (HH.out.alloc _) (ints_new _ _ ([4, 5] : List Int) _ rfl) (by simp)).mono ?_
  rintro e w4 ⟨y4, rfl, h4⟩
  have HG := Lib.hid h4
  have HP : Hid (Calls Try.prog 13 #[.pointer (some ⟨p, 0, none⟩), .int .i64 7, y4] w4 fun e w' => e = .returned (.int .i64 0) ∧ Lies N w0 w' (sepT (framesT p 2 ([⟨7, 0, [vi 4, vi 5], []⟩] : List Cal)) R)) := Lib.hid ((call_vals 7 HG.out vis_ok).mono fun e w' h => ⟨h.1, h.2.drop⟩)
  clear HG HH h4
  go_wp2_with fail
  refine HP.out.mono ?_
  rintro e w5 ⟨rfl, h5⟩
  have HH := Lib.hid h5
  clear HP h5
  go_wp2_with fail
  go_loopw [3] (fun x wr => ∃ j : Nat, x = .int .i64 ((j : Int) + 1) ∧ j ≤ 3 ∧ Lies N w0 wr (sepT (framesT p 2 ([⟨7, 0, [vi 4, vi 5], pu j⟩] : List Cal)) R)) (fun x _ => 4 - (intOf x).toNat)
  case atStart => exact ⟨0, rfl, by decide, HH.out⟩
  case round =>
    obtain ⟨j, rfl, hj, hh⟩ := hrel
    clear HH
    have HH := Lib.hid hh
    clear hh
    by_cases hlt : j < 3
    · have hlt2 : (j : Int) + 1 ≤ 3 := by omega
      go_wp2_with fail
      refine (of_all (R := sepT (framesT p 2 ([⟨7, 0, [vi 4, vi 5], pu j⟩] : List Cal)) R) ([(j : Int) + 1] : List Int) _ _ (HH.out.alloc _) (ints_new _ _ ([(j : Int) + 1] : List Int) _ rfl) (by simp)).mono ?_
      rintro e w6 ⟨y6, rfl, h6⟩
      obtain ⟨b, off, n', A', c', hy, ⟨e0, e1, e2, e3, e4⟩, hv⟩ := vi_at h6 0 (by simp)
      subst hy
      simp only [Nat.zero_mul, Nat.add_zero, List.getElem_cons_zero, List.length_cons, List.length_nil, Nat.zero_add] at e0 e1 e2 e3 e4 hv ⊢
      have HG := Lib.hid h6.drop
      have hE : pushE ⟨7, 0, [vi 4, vi 5], pu j⟩ = 0 := if_neg (by show ¬ 5000 ≤ (pu j).length; rw [pu_len]; omega)
      have hU : Cal.push ⟨7, 0, [vi 4, vi 5], pu j⟩ (vi ((j : Int) + 1)) = ⟨7, 0, [vi 4, vi 5], pu (j + 1)⟩ := by unfold Cal.push; rw [if_neg (by show ¬ 5000 ≤ (pu j).length; rw [pu_len]; omega)]; rfl
      have HP : Hid (Calls Try.prog 21 #[.pointer (some ⟨p, 0, none⟩), .agg #[.int .i64 1, .int .i64 ((j : Int) + 1), .int .u64 0, .string ⟨#[]⟩, .slice A' 0 c']] _ fun e w' => e = .returned (.int .i64 0) ∧ Lies N w0 w' (sepT (framesT p 2 ([⟨7, 0, [vi 4, vi 5], pu (j + 1)⟩] : List Cal)) R)) := Lib.hid ((push_all (fr := [⟨7, 0, [vi 4, vi 5], pu j⟩]) (vi ((j : Int) + 1)) _ HG.out hv).mono fun e w' h => ⟨h.1.trans (congrArg (fun z => Ending.returned (.int .i64 z)) hE), by have h2 : Lies N w0 w' (sepT (framesT p 2 [Cal.push ⟨7, 0, [vi 4, vi 5], pu j⟩ (vi ((j : Int) + 1))]) R) := h.2; rw [hU] at h2; exact h2⟩)
      clear HG HH hv h6 hE hU
      go_wp2_with fail
      refine HP.out.mono ?_
      rintro e w7 ⟨rfl, h7⟩
      have HH := Lib.hid h7
      clear HP h7
      go_wp2_with fail
      go_roundw
      case rel => exact ⟨j + 1, by go_num, by omega, HH.out⟩
      case measure => simp [intOf]; omega
    · obtain rfl : j = 3 := by omega
      have hlt2 : ¬ ((3 : Nat) : Int) + 1 ≤ 3 := by omega
      have HP : Hid (∀ wz, Lies N w0 wz (sepT (framesT p 2 ([⟨7, 0, [vi 4, vi 5], pu 3⟩] : List Cal)) R) → Calls Try.prog 22 #[.pointer (some ⟨p, 0, none⟩), .int .i64 2] wz fun e w' => ∃ y, e = .returned (.tuple #[y, .int .i64 0]) ∧ Lies N w0 w' (sepT (valsT ([2, 3].map vi) y) (sepT (framesT p 2 ([⟨7, 0, [vi 4, vi 5], [vi 1]⟩] : List Cal)) R))) := Lib.hid fun wz h => take_all (fr := [⟨7, 0, [vi 4, vi 5], pu 3⟩]) 2 h
      have HP2 := Lib.hid (HP.out _ HH.out)
      clear HP HH
      go_wp2_with fail
      refine HP2.out.mono ?_
      rintro e w8 ⟨y8, rfl, h8⟩
      obtain ⟨A1, c1, la1, rfl, _, _⟩ := vals_arg h8 vis_ok
      have HH := Lib.hid h8
      clear HP2 h8
      go_wp2_with fail
      refine (of_all (R := sepT (valsT ([2, 3].map vi) (.slice A1 la1.length c1)) (sepT (framesT p 2 ([⟨7, 0, [vi 4, vi 5], [vi 1]⟩] : List Cal)) R)) ([2, 3] : List Int) _ _ (HH.out.alloc _) (ints_new _ _ ([2, 3] : List Int) _ rfl) (by simp)).mono ?_
      rintro e w9 ⟨y9, rfl, h9⟩
      have HP : Hid (Calls Try.prog 23 #[.slice A1 la1.length c1, y9] w9 fun e w' => e = .returned (.bool true) ∧ Lies N w0 w' (sepT (framesT p 2 ([⟨7, 0, [vi 4, vi 5], [vi 1]⟩] : List Cal)) R)) := Lib.hid ((sameVs_all (h9.turn (a' := sepT (valsT ([2, 3].map vi) (.slice A1 la1.length c1)) (sepT (valsT ([2, 3].map vi) y9) (sepT (framesT p 2 ([⟨7, 0, [vi 4, vi 5], [vi 1]⟩] : List Cal)) R))) (by ac_rfl)) vis_ok vis_ok (by simp)).mono fun e w' h => ⟨by rw [h.1, decide_eq_true rfl], h.2.drop.drop⟩)
      clear HH h9
      go_wp2_with fail
      refine HP.out.mono ?_
      rintro e w10 ⟨rfl, h10⟩
      have HH := Lib.hid h10
      clear HP h10
      have HP : Hid (Calls Try.prog 24 #[.pointer (some ⟨p, 0, none⟩)] _ fun e w' => e = .returned (.int .i64 1) ∧ Lies N w0 w' (sepT (framesT p 2 ([⟨7, 0, [vi 4, vi 5], [vi 1]⟩] : List Cal)) R)) := Lib.hid (height_all (fr := [⟨7, 0, [vi 4, vi 5], [vi 1]⟩]) HH.out)
      clear HH
      go_wp2_with fail
      refine HP.out.mono ?_
      rintro e w11 ⟨rfl, h11⟩
      have HH := Lib.hid h11
      clear HP h11
      have HP : Hid (Calls Try.prog 15 #[.pointer (some ⟨p, 0, none⟩), .int .i64 7, .int .i64 0] _ fun e w' => e = .returned (.bool true) ∧ Lies N w0 w' (sepT (framesT p 2 ([⟨7, 0, [vi 4, vi 5], [vi 1]⟩] : List Cal)) R)) := Lib.hid (at_all (fr := [⟨7, 0, [vi 4, vi 5], [vi 1]⟩]) 7 0 HH.out)
      clear HH
      go_wp2_with fail
      refine HP.out.mono ?_
      rintro e w12 ⟨rfl, h12⟩
      have HH := Lib.hid h12
      clear HP h12
      go_wp2_with fail
      go_ret
      exact ⟨p, rfl, HH.out⟩
set_option maxRecDepth 100000 in
set_option maxHeartbeats 3200000 in
theorem awake_any (H : Lies N w0 W R) : Calls Try.prog 19 #[] W fun e w' => e = .returned (.bool true) ∧ Lies N w0 w' R := by
  have H0 := Lib.hid H
  clear H
  go_enter Try.func19, Try.ntmps19
  go_wp2_with fail
  refine (seven_any H0.out).mono ?_
  rintro e w1 ⟨p, rfl, h1⟩
  have HH := Lib.hid h1
  clear h1 H0
  have HP : Hid (Calls Try.prog 9 #[.pointer (some ⟨p, 0, none⟩), .int .i64 9] _ fun e w' => e = .returned (.int .i64 0) ∧ Lies N w0 w' (sepT (framesT p 2 ([⟨7, 9, [vi 4, vi 5], [vi 1]⟩] : List Cal)) R)) := Lib.hid (jump_all (fr := [⟨7, 0, [vi 4, vi 5], [vi 1]⟩]) 9 HH.out)
  clear HH
  go_wp2_with fail
  refine HP.out.mono ?_
  rintro e w13 ⟨rfl, h13⟩
  have HH := Lib.hid h13
  clear HP h13
  go_wp2_with fail
  refine (of_all (R := sepT (framesT p 2 ([⟨7, 9, [vi 4, vi 5], [vi 1]⟩] : List Cal)) R) ([6] : List Int) _ _ (HH.out.alloc _) (ints_new _ _ ([6] : List Int) _ rfl) (by simp)).mono ?_
  rintro e w14 ⟨y14, rfl, h14⟩
  obtain ⟨b, off, n', A', c', hy, ⟨e0, e1, e2, e3, e4⟩, hv⟩ := vi_at h14 0 (by simp)
  subst hy
  simp only [Nat.zero_mul, Nat.add_zero, List.getElem_cons_zero, List.length_cons, List.length_nil, Nat.zero_add] at e0 e1 e2 e3 e4 hv ⊢
  have HG := Lib.hid h14.drop
  have HP : Hid (Calls Try.prog 10 #[.pointer (some ⟨p, 0, none⟩), .int .i64 1, .agg #[.int .i64 1, .int .i64 6, .int .u64 0, .string ⟨#[]⟩, .slice A' 0 c']] _ fun e w' => e = .returned (.int .i64 0) ∧ Lies N w0 w' (sepT (framesT p 2 ([⟨7, 9, [vi 4, vi 6], [vi 1]⟩] : List Cal)) R)) := Lib.hid (set_all (fr := [⟨7, 9, [vi 4, vi 5], [vi 1]⟩]) 1 (vi 6) _ HG.out hv)
  clear HG HH hv h14
  go_wp2_with fail
  refine HP.out.mono ?_
  rintro e w15 ⟨rfl, h15⟩
  have HH := Lib.hid h15
  clear HP h15
  have HP : Hid (Calls Try.prog 13 #[.pointer (some ⟨p, 0, none⟩), .int .i64 8, .slice none 0 0] _ fun e w' => e = .returned (.int .i64 0) ∧ Lies N w0 w' (sepT (framesT p 2 ([⟨7, 9, [vi 4, vi 6], [vi 1]⟩, ⟨8, 0, [], []⟩] : List Cal)) R)) := Lib.hid (call_nil (fr := [⟨7, 9, [vi 4, vi 6], [vi 1]⟩]) 8 HH.out)
  clear HH
  go_wp2_with fail
  refine HP.out.mono ?_
  rintro e w16 ⟨rfl, h16⟩
  have HH := Lib.hid h16
  clear HP h16
  have HP : Hid (Calls Try.prog 13 #[.pointer (some ⟨p, 0, none⟩), .int .i64 8, .slice none 0 0] _ fun e w' => e = .returned (.int .i64 11) ∧ Lies N w0 w' (sepT (framesT p 2 ([⟨7, 9, [vi 4, vi 6], [vi 1]⟩, ⟨8, 0, [], []⟩] : List Cal)) R)) := Lib.hid (call_nil (fr := [⟨7, 9, [vi 4, vi 6], [vi 1]⟩, ⟨8, 0, [], []⟩]) 8 HH.out)
  clear HH
  go_wp2_with fail
  refine HP.out.mono ?_
  rintro e w17 ⟨rfl, h17⟩
  have HH := Lib.hid h17
  clear HP h17
  have HP : Hid (Calls Try.prog 30 #[.pointer (some ⟨p, 0, none⟩)] _ fun e w' => ∃ y, e = .returned y ∧ Lies N w0 w' (sepT (valsT ([4, 6, 1].map vi) y) (sepT (framesT p 2 ([⟨7, 9, [vi 4, vi 6], [vi 1]⟩, ⟨8, 0, [], []⟩] : List Cal)) R))) := Lib.hid (values_any HH.out)
  clear HH
  go_wp2_with fail
  refine HP.out.mono ?_
  rintro e w18 ⟨y18, rfl, h18⟩
  obtain ⟨A1, c1, la1, rfl, _, _⟩ := vals_arg h18 vis_ok
  have HH := Lib.hid h18
  clear HP h18
  go_wp2_with fail
  refine (of_all (R := sepT (valsT ([4, 6, 1].map vi) (.slice A1 la1.length c1)) (sepT (framesT p 2 ([⟨7, 9, [vi 4, vi 6], [vi 1]⟩, ⟨8, 0, [], []⟩] : List Cal)) R)) ([4, 6, 1] : List Int) _ _ (HH.out.alloc _) (ints_new _ _ ([4, 6, 1] : List Int) _ rfl) (by simp)).mono ?_
  rintro e w19 ⟨y19, rfl, h19⟩
  have HP : Hid (Calls Try.prog 23 #[.slice A1 la1.length c1, y19] w19 fun e w' => e = .returned (.bool true) ∧ Lies N w0 w' R) := Lib.hid ((sameVs_all (h19.turn (a' := sepT (valsT ([4, 6, 1].map vi) (.slice A1 la1.length c1)) (sepT (valsT ([4, 6, 1].map vi) y19) (sepT (framesT p 2 ([⟨7, 9, [vi 4, vi 6], [vi 1]⟩, ⟨8, 0, [], []⟩] : List Cal)) R))) (by ac_rfl)) vis_ok vis_ok (by simp)).mono fun e w' h => ⟨by rw [h.1, decide_eq_true rfl], h.2.drop.drop.drop⟩)
  clear HH h19
  go_wp2_with fail
  refine HP.out.mono ?_
  rintro e w20 ⟨rfl, h20⟩
  have HH := Lib.hid h20
  clear HP h20
  go_wp2_with fail
  go_ret
  exact ⟨rfl, HH.out⟩
set_option maxRecDepth 100000 in
set_option maxHeartbeats 6400000 in
theorem known_any (H : Lies N w0 W R) : Calls Try.prog 3 #[] W fun e w' => e = .returned (.bool true) ∧ Lies N w0 w' R := by
  have H0 := Lib.hid H
  clear H
  go_enter Try.func3, Try.ntmps3
  go_wp2_with fail
  refine (seven_any H0.out).mono ?_
  rintro e w1 ⟨p, rfl, h1⟩
  have HH := Lib.hid h1
  clear h1 H0
  have HP : Hid (Calls Try.prog 9 #[.pointer (some ⟨p, 0, none⟩), .int .i64 9] _ fun e w' => e = .returned (.int .i64 0) ∧ Lies N w0 w' (sepT (framesT p 2 ([⟨7, 9, [vi 4, vi 5], [vi 1]⟩] : List Cal)) R)) := Lib.hid (jump_all (fr := [⟨7, 0, [vi 4, vi 5], [vi 1]⟩]) 9 HH.out)
  clear HH
  go_wp2_with fail
  refine HP.out.mono ?_
  rintro e w21 ⟨rfl, h21⟩
  have HH := Lib.hid h21
  clear HP h21
  go_wp2_with fail
  refine (of_all (R := sepT (framesT p 2 ([⟨7, 9, [vi 4, vi 5], [vi 1]⟩] : List Cal)) R) ([6] : List Int) _ _ (HH.out.alloc _) (ints_new _ _ ([6] : List Int) _ rfl) (by simp)).mono ?_
  rintro e w22 ⟨y22, rfl, h22⟩
  obtain ⟨b, off, n', A', c', hy, ⟨e0, e1, e2, e3, e4⟩, hv⟩ := vi_at h22 0 (by simp)
  subst hy
  simp only [Nat.zero_mul, Nat.add_zero, List.getElem_cons_zero, List.length_cons, List.length_nil, Nat.zero_add] at e0 e1 e2 e3 e4 hv ⊢
  have HG := Lib.hid h22.drop
  have HP : Hid (Calls Try.prog 10 #[.pointer (some ⟨p, 0, none⟩), .int .i64 1, .agg #[.int .i64 1, .int .i64 6, .int .u64 0, .string ⟨#[]⟩, .slice A' 0 c']] _ fun e w' => e = .returned (.int .i64 0) ∧ Lies N w0 w' (sepT (framesT p 2 ([⟨7, 9, [vi 4, vi 6], [vi 1]⟩] : List Cal)) R)) := Lib.hid (set_all (fr := [⟨7, 9, [vi 4, vi 5], [vi 1]⟩]) 1 (vi 6) _ HG.out hv)
  clear HG HH hv h22
  go_wp2_with fail
  refine HP.out.mono ?_
  rintro e w23 ⟨rfl, h23⟩
  have HH := Lib.hid h23
  clear HP h23
  have HP : Hid (∀ wz, Lies N w0 wz (sepT (framesT p 2 ([⟨7, 9, [vi 4, vi 6], [vi 1]⟩] : List Cal)) R) → Calls Try.prog 12 #[.pointer (some ⟨p, 0, none⟩), .int .i64 1] wz fun e w' => ∃ x, e = .returned (.tuple #[x, .int .i64 0]) ∧ Lies N w0 w' (sepT (valT (vi 6) x) (sepT (framesT p 2 ([⟨7, 9, [vi 4, vi 6], [vi 1]⟩] : List Cal)) R))) := Lib.hid fun wz h => local_all (fr := [⟨7, 9, [vi 4, vi 6], [vi 1]⟩]) 1 h
  have HP2 := Lib.hid (HP.out _ HH.out)
  clear HP HH
  go_wp2_with fail
  refine HP2.out.mono ?_
  rintro e w24 ⟨x24, rfl, h24⟩
  obtain ⟨A24, c24, hx24, hc24⟩ := val_out h24
  have hx24' : x24 = .agg #[.int .i64 1, .int .i64 6, .int .u64 0, .string ⟨#[]⟩, .slice A24 0 c24] := hx24
  subst hx24'
  clear hx24
  have HH := Lib.hid ((h24.drop.newBlk 30 #[.int .i64 1, .int .i64 6, .int .u64 0, .string ⟨#[]⟩, .slice A24 0 c24]).turn (a' := sepT (framesT p 2 ([⟨7, 9, [vi 4, vi 6], [vi 1]⟩] : List Cal)) (sepT (blkT w24.heap.size 30 #[.int .i64 1, .int .i64 6, .int .u64 0, .string ⟨#[]⟩, .slice A24 0 c24]) R)) (by ac_rfl))
  clear HP2 h24 hc24
  have HP : Hid (∀ wz, Lies N w0 wz (sepT (framesT p 2 ([⟨7, 9, [vi 4, vi 6], [vi 1]⟩] : List Cal)) (sepT (blkT w24.heap.size 30 #[.int .i64 1, .int .i64 6, .int .u64 0, .string ⟨#[]⟩, .slice A24 0 c24]) R)) → Calls Try.prog 12 #[.pointer (some ⟨p, 0, none⟩), .int .i64 2] wz fun e w' => ∃ x, e = .returned (.tuple #[x, .int .i64 3]) ∧ Lies N w0 w' (sepT (valT (Val.zero) x) (sepT (framesT p 2 ([⟨7, 9, [vi 4, vi 6], [vi 1]⟩] : List Cal)) (sepT (blkT w24.heap.size 30 #[.int .i64 1, .int .i64 6, .int .u64 0, .string ⟨#[]⟩, .slice A24 0 c24]) R)))) := Lib.hid fun wz h => local_all (fr := [⟨7, 9, [vi 4, vi 6], [vi 1]⟩]) 2 h
  have HP2 := Lib.hid (HP.out _ HH.out)
  clear HP HH
  go_wp2_with fail
  refine HP2.out.mono ?_
  rintro e w25 ⟨x25, rfl, h25⟩
  obtain ⟨A25, c25, hx25, hc25⟩ := val_out h25
  have hx25' : x25 = .agg #[.int .i64 0, .int .i64 0, .int .u64 0, .string ⟨#[]⟩, .slice A25 0 c25] := hx25
  subst hx25'
  clear hx25
  have HH := Lib.hid (h25.drop.alloc (.cells #[.int .i64 0, .int .i64 0, .int .u64 0, .string ⟨#[]⟩, .slice A25 0 c25] 30))
  clear HP2 h25 hc25
  have z1 := (HH.out.drop.blk.1.cell 1)
  simp at z1
  have HI := Lib.hid (HH.out.turn (a' := sepT (blkT w24.heap.size 30 #[.int .i64 1, .int .i64 6, .int .u64 0, .string ⟨#[]⟩, .slice A24 0 c24]) (sepT (framesT p 2 ([⟨7, 9, [vi 4, vi 6], [vi 1]⟩] : List Cal)) R)) (by ac_rfl))
  clear HH
  have HH := Lib.hid HI.out.drop
  clear HI
  have HP : Hid (Calls Try.prog 13 #[.pointer (some ⟨p, 0, none⟩), .int .i64 8, .slice none 0 0] _ fun e w' => e = .returned (.int .i64 0) ∧ Lies N w0 w' (sepT (framesT p 2 ([⟨7, 9, [vi 4, vi 6], [vi 1]⟩, ⟨8, 0, [], []⟩] : List Cal)) R)) := Lib.hid (call_nil (fr := [⟨7, 9, [vi 4, vi 6], [vi 1]⟩]) 8 HH.out)
  clear HH
  go_wp2_with fail
  refine HP.out.mono ?_
  rintro e w26 ⟨rfl, h26⟩
  have HH := Lib.hid h26
  clear HP h26
  have HP : Hid (Calls Try.prog 14 #[.pointer (some ⟨p, 0, none⟩)] _ fun e w' => ∃ x, e = .returned (.tuple #[x, .int .i64 15]) ∧ Lies N w0 w' (sepT (valT Val.zero x) (sepT (framesT p 2 ([⟨7, 9, [vi 4, vi 6], [vi 1]⟩, ⟨8, 0, [], []⟩] : List Cal)) R))) := Lib.hid (pop_all (fr := [⟨7, 9, [vi 4, vi 6], [vi 1]⟩, ⟨8, 0, [], []⟩]) HH.out)
  clear HH
  go_wp2_with fail
  refine HP.out.mono ?_
  rintro e w27 ⟨x27, rfl, h27⟩
  obtain ⟨A27, c27, hx27, hc27⟩ := val_out h27
  have hx27' : x27 = .agg #[.int .i64 0, .int .i64 0, .int .u64 0, .string ⟨#[]⟩, .slice A27 0 c27] := hx27
  subst hx27'
  clear hx27
  have HH := Lib.hid (h27.drop.alloc (.cells #[.int .i64 0, .int .i64 0, .int .u64 0, .string ⟨#[]⟩, .slice A27 0 c27] 30))
  clear HP h27 hc27
  have HP : Hid (Calls Try.prog 15 #[.pointer (some ⟨p, 0, none⟩), .int .i64 8, .int .i64 0] _ fun e w' => e = .returned (.bool true) ∧ Lies N w0 w' (sepT (framesT p 2 ([⟨7, 9, [vi 4, vi 6], [vi 1]⟩, ⟨8, 0, [], []⟩] : List Cal)) R)) := Lib.hid (at_all (fr := [⟨7, 9, [vi 4, vi 6], [vi 1]⟩, ⟨8, 0, [], []⟩]) 8 0 HH.out)
  clear HH
  go_wp2_with fail
  refine HP.out.mono ?_
  rintro e w28 ⟨rfl, h28⟩
  have HH := Lib.hid h28
  clear HP h28
  have HP : Hid (Calls Try.prog 16 #[.pointer (some ⟨p, 0, none⟩)] _ fun e w' => e = .returned (.int .i64 0) ∧ Lies N w0 w' (sepT (framesT p 2 ([⟨7, 9, [vi 4, vi 6], [vi 1]⟩] : List Cal)) R)) := Lib.hid (return_all (fr := [⟨7, 9, [vi 4, vi 6], [vi 1]⟩, ⟨8, 0, [], []⟩]) HH.out)
  clear HH
  go_wp2_with fail
  refine HP.out.mono ?_
  rintro e w29 ⟨rfl, h29⟩
  have HH := Lib.hid h29
  clear HP h29
  have HP : Hid (Calls Try.prog 15 #[.pointer (some ⟨p, 0, none⟩), .int .i64 7, .int .i64 9] _ fun e w' => e = .returned (.bool true) ∧ Lies N w0 w' (sepT (framesT p 2 ([⟨7, 9, [vi 4, vi 6], [vi 1]⟩] : List Cal)) R)) := Lib.hid (at_all (fr := [⟨7, 9, [vi 4, vi 6], [vi 1]⟩]) 7 9 HH.out)
  clear HH
  go_wp2_with fail
  refine HP.out.mono ?_
  rintro e w30 ⟨rfl, h30⟩
  have HH := Lib.hid h30
  clear HP h30
  have hpo : (ftop ([⟨7, 9, [vi 4, vi 6], [vi 1]⟩] : List Cal) 17 (·.takeE 1) == 0 && decide (ftop ([⟨7, 9, [vi 4, vi 6], [vi 1]⟩] : List Cal) Val.zero Cal.popV = vi 1)) = true := by decide
  have HP : Hid (Calls Try.prog 17 #[.pointer (some ⟨p, 0, none⟩), .int .i64 1] _ fun e w' => e = .returned (.bool true) ∧ Lies N w0 w' (sepT (framesT p 2 ([⟨7, 9, [vi 4, vi 6], []⟩] : List Cal)) R)) := Lib.hid (by have h := pops_all (fr := [⟨7, 9, [vi 4, vi 6], [vi 1]⟩]) 1 HH.out; rw [hpo] at h; exact h)
  clear HH hpo
  go_wp2_with fail
  refine HP.out.mono ?_
  rintro e w32 ⟨rfl, h32⟩
  have HH := Lib.hid h32
  clear HP h32
  have HP : Hid (Calls Try.prog 16 #[.pointer (some ⟨p, 0, none⟩)] _ fun e w' => e = .returned (.int .i64 0) ∧ Lies N w0 w' (sepT (framesT p 2 ([] : List Cal)) R)) := Lib.hid (return_all (fr := [⟨7, 9, [vi 4, vi 6], []⟩]) HH.out)
  clear HH
  go_wp2_with fail
  refine HP.out.mono ?_
  rintro e w33 ⟨rfl, h33⟩
  have HH := Lib.hid h33
  clear HP h33
  have HP : Hid (Calls Try.prog 16 #[.pointer (some ⟨p, 0, none⟩)] _ fun e w' => e = .returned (.int .i64 17) ∧ Lies N w0 w' (sepT (framesT p 2 ([] : List Cal)) R)) := Lib.hid (return_all (fr := []) HH.out)
  clear HH
  go_wp2_with fail
  refine HP.out.mono ?_
  rintro e w34 ⟨rfl, h34⟩
  have HH := Lib.hid h34
  clear HP h34
  go_wp2_with fail
  refine (new_bad 0 _ (.inl (by decide))).mono ?_
  rintro e w35 ⟨rfl, rfl⟩
  go_wp2_with fail
  refine (awake_any HH.out.drop).mono ?_
  rintro e w36 ⟨rfl, h35⟩
  have HF := Lib.hid h35
  clear h35 HH
  go_wp2_with fail
  go_ret
  exact ⟨rfl, HF.out⟩
theorem known_row (W : World) : Calls Try.prog 3 #[] W fun e w' => e = .returned (.bool true) ∧ Below W.heap.size W w' := (known_any (Lies.nil W)).mono fun e w' h => ⟨h.1, h.2.below⟩
theorem known_in (H : Lies N w0 W R) : Calls Try.prog 3 #[] W fun e w' => e = .returned (.bool true) ∧ Lies N w0 w' R := known_any H
end
end Go.Proofs.Ytiaeckljpdhagaa
