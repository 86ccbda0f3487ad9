/- The law FramesApart, walked. -/
import Derived.Test.YtiaeckljpdhagaaFrNone
namespace Go.Proofs.Ytiaeckljpdhagaa
open Go.RowKit
set_option linter.unusedVariables false
set_option linter.unusedSimpArgs false
attribute [local go_sem] Oper.semAt_some run_store_func run_store_nilFunc
theorem longActs_ok {xs : List ActD} (h : longActs xs = false) : xs.length ≤ 100 ∧ ∀ z ∈ xs, longAct z = false := by
  unfold longActs at h
  simp only [Bool.or_eq_false_iff, decide_eq_false_iff_not] at h
  have hl : xs.length ≤ 100 := by omega
  refine ⟨hl, fun z hz => ?_⟩
  have h1 := h.1
  rw [List.take_of_length_le (by omega)] at h1
  simpa using (List.any_eq_false.1 h1) z hz
/-- The call below. -/
def bc (pl : Int) (lo st : List Int) : Cal := ⟨3, pl, lo.map vi, st.map vi⟩
theorem bc_push (pl : Int) (lo st : List Int) (x : Int) (h : st.length < 5000) : pushE (bc pl lo st) = 0 ∧ (bc pl lo st).push (vi x) = bc pl lo (st ++ [x]) := by
  have h1 : ¬ 5000 ≤ (st.map vi).length := by rw [List.length_map]; omega
  refine ⟨if_neg h1, ?_⟩
  unfold Cal.push
  rw [if_neg (show ¬ 5000 ≤ (bc pl lo st).stack.length from h1)]
  simp [bc]
section
variable {N : Nat} {w0 W : World} {R : Thing} {p : Nat}
theorem push_bc (pl : Int) (lo st : List Int) (x : Int) (y : Value) (hlen : st.length < 5000) (H : Lies N w0 W (sepT (framesT p 2 [bc pl lo st]) R)) (hv : VIs W (vi x) y) :
    Calls Try.prog 21 #[.pointer (some ⟨p, 0, none⟩), y] W fun e w' => e = .returned (.int .i64 0) ∧ Lies N w0 w' (sepT (framesT p 2 [bc pl lo (st ++ [x])]) R) := by
  obtain ⟨h1, h2⟩ := bc_push pl lo st x hlen
  refine (push_all (vi x) y H hv).mono ?_
  rintro e w' ⟨rfl, h⟩
  have h3 : Lies N w0 w' (sepT (framesT p 2 [(bc pl lo st).push (vi x)]) R) := h
  rw [h2] at h3
  exact ⟨congrArg (fun z => Ending.returned (.int .i64 z)) h1, h3⟩
theorem call_bc (lo : List Int) (y : Value) (hlen : lo.length ≤ 200) (H : Lies N w0 W (sepT (valsT (lo.map vi) y) (sepT (framesT p 2 []) R))) :
    Calls Try.prog 13 #[.pointer (some ⟨p, 0, none⟩), .int .i64 3, y] W fun e w' => e = .returned (.int .i64 0) ∧ Lies N w0 w' (sepT (framesT p 2 [bc 0 lo []]) R) := by
  have hE : callE 2 [] (lo.map vi) = 0 := by unfold callE; rw [if_neg (by decide), if_neg (by rw [List.length_map]; omega)]
  refine (call_vals 3 H vis_ok).mono ?_
  rintro e w' ⟨rfl, h⟩
  rw [fcall, hE, if_pos rfl] at h
  exact ⟨by rw [hE], h.drop⟩
theorem jump_bc (pl : Int) (lo : List Int) (hp : 0 ≤ pl) (H : Lies N w0 W (sepT (framesT p 2 [bc 0 lo []]) R)) :
    Calls Try.prog 9 #[.pointer (some ⟨p, 0, none⟩), .int .i64 pl] W fun e w' => e = .returned (.int .i64 0) ∧ Lies N w0 w' (sepT (framesT p 2 [bc pl lo []]) R) := by
  have h1 : jumpE pl = 0 := if_neg (by omega)
  have h2 : (bc 0 lo []).jump pl = bc pl lo [] := by unfold Cal.jump; rw [if_neg (by omega)]; rfl
  refine (jump_all pl H).mono ?_
  rintro e w' ⟨rfl, h⟩
  have h3 : Lies N w0 w' (sepT (framesT p 2 [(bc 0 lo []).jump pl]) R) := h
  rw [h2] at h3
  exact ⟨congrArg (fun z => Ending.returned (.int .i64 z)) h1, h3⟩
end
set_option maxRecDepth 100000 in
set_option maxHeartbeats 12800000 in
theorem apart_row (A B : Option Addr) (c d : Nat) (lo st : List Int) (n : Int) (D : Option Addr) (f : Nat) (xs : List ActD) (W : World) (hlo : Reads W W.heap.size 1 A lo.length (lo.map (Value.int .i64))) (hst : Reads W W.heap.size 1 B st.length (st.map (Value.int .i64)))
    (hn1 : -9223372036854775808 ≤ n) (hn2 : n ≤ 9223372036854775807) (hb1 : lo.length ≤ 140737488351232) (hb2 : st.length ≤ 140737488351232) (hxs : Reads W W.heap.size 8 D xs.length (xs.flatMap ActD.cs)) (hq : ∀ z ∈ xs, z.In W) (hb3 : xs.length ≤ 140737488351232) :
    Calls Try.prog 7 #[.slice A lo.length c, .slice B st.length d, .int .i64 n, .slice D xs.length f] W fun e w' => e = .returned (.bool true) ∧ Below W.heap.size W w' := by
  have HLo := Lib.hid hlo
  have HSt := Lib.hid hst
  have HXs := Lib.hid (And.intro hxs hq)
  have HNR := Lib.hid (And.intro hn1 hn2)
  obtain ⟨nl, hnl⟩ : ∃ x, x = lo.length := ⟨_, rfl⟩
  obtain ⟨ns, hns⟩ : ∃ x, x = st.length := ⟨_, rfl⟩
  obtain ⟨nx, hnx⟩ : ∃ x, x = xs.length := ⟨_, rfl⟩
  rw [← hnl] at hb1 ⊢
  rw [← hns] at hb2 ⊢
  rw [← hnx] at hb3 ⊢
  have HE := Lib.hid (And.intro hnl (And.intro hns hnx))
  clear hlo hst hxs hq hn1 hn2 hnl hns hnx
  go_enter Try.func7, Try.ntmps7
  go_wp2_with fail
  refine (known_in (Lies.nil W)).mono ?_
  rintro e w1 ⟨rfl, h1⟩
  go_wp2_with fail
  refine (new_good 2 (by decide) (by decide) h1).mono ?_
  rintro e w2 ⟨p, rfl, h2⟩
  have HH := Lib.hid h2
  clear h1 h2
  by_cases hl : 20 < nl
  · have hl' : (20 : Int) < (nl : Int) := by omega
    go_wp2
    go_ret
    exact ⟨rfl, HH.out.below⟩
  have hl' : ¬ (20 : Int) < (nl : Int) := by omega
  by_cases hs : 20 < ns
  · have hs' : (20 : Int) < (ns : Int) := by omega
    go_wp2
    go_ret
    exact ⟨rfl, HH.out.below⟩
  have hs' : ¬ (20 : Int) < (ns : Int) := by omega
  have HLg : Hid (Calls Try.prog 25 #[.slice D nx f] w2 fun e w' => e = .returned (.bool (longActs xs)) ∧ Below w2.heap.size w2 w') := by
    refine Lib.hid ?_
    rw [HE.out.2.2]
    exact long_any xs D f w2 ((HXs.out.1.below HH.out.below).more HH.out.below.size) (fun z hz => (HXs.out.2 z hz).below HH.out.below) (by rw [← HE.out.2.2]; simp only [maxLen]; omega)
  by_cases hlong : longActs xs = true
  · rw [hlong] at HLg
    clear hlong
    go_wp2_with fail
    refine HLg.out.mono ?_
    rintro e w3 ⟨rfl, hb⟩
    have HF := Lib.hid (HH.out.calm hb)
    clear hb HLg HH
    go_wp2
    go_ret
    exact ⟨rfl, HF.out.below⟩
  have hlf : longActs xs = false := by simpa using hlong
  rw [hlf] at HLg
  have HOK := Lib.hid (longActs_ok hlf)
  clear hlong hlf
  go_wp2_with fail
  refine HLg.out.mono ?_
  rintro e w3 ⟨rfl, hb⟩
  have h3 := HH.out.calm hb
  clear HH hb HLg
  have HH := Lib.hid h3
  clear h3
  go_wp2_with fail
  refine (pick_any n 1000 _ HNR.out.1 HNR.out.2 (by decide) (by decide)).mono ?_
  rintro e w' ⟨pl, rfl, ⟨hp1, hp2⟩, rfl⟩
  have HO : Hid (Calls Try.prog 11 #[.slice A nl c] w3 fun e w' => ∃ y, e = .returned y ∧ Lies W.heap.size W w' (sepT (valsT (lo.map vi) y) (sepT (framesT p 2 []) empT))) := by
    refine Lib.hid ?_
    rw [HE.out.1]
    exact of_all lo A c HH.out ((HLo.out.below HH.out.below).more HH.out.below.size) (by rw [← HE.out.1]; omega)
  clear HH
  go_wp2_with fail
  refine HO.out.mono ?_
  rintro e w4 ⟨y4, rfl, h4⟩
  have HP := Lib.hid (call_bc lo y4 (by rw [← HE.out.1]; omega) h4)
  clear h4 HO
  go_wp2_with fail
  refine HP.out.mono ?_
  rintro e w5 ⟨rfl, h5⟩
  have HP2 := Lib.hid (jump_bc pl lo hp1 h5)
  clear HP h5
  go_wp2_with fail
  refine HP2.out.mono ?_
  rintro e w6 ⟨rfl, h6⟩
  have HH := Lib.hid h6
  clear HP2 h6
  go_wp2_with fail
  go_loopw [12] (fun ix wr => ∃ i : Nat, ix = .int .i64 i ∧ i ≤ ns ∧ Lies W.heap.size W wr (sepT (framesT p 2 [bc pl lo (st.take i)]) empT)) (fun ix _ => ns - (intOf ix).toNat)
  case atStart => exact ⟨0, rfl, Nat.zero_le _, by simpa using HH.out⟩
  case round =>
    obtain ⟨i, rfl, hi, hh⟩ := hrel
    clear HH
    have HH := Lib.hid hh
    clear hh
    by_cases hlt : i < ns
    · have hlt' : (i : Int) < (ns : Int) := by omega
      have hlx : i < st.length := by have := HE.out.2.1; omega
      obtain ⟨b, off, rfl, hbl, hc⟩ := reads_addr HSt.out (by omega) (by decide)
      have hci : wr.cell? ⟨b, off + i, none⟩ = some (.int .i64 st[i]) := (HH.out.below.cell (by exact hbl)).trans (hc i (.int .i64 st[i]) (by simp [hlx]))
      generalize hxi : st[i] = x at *
      have HXi := Lib.hid hxi
      clear hc hxi hbl
      go_wp2_with fail
      refine (of_all (R := sepT (framesT p 2 [bc pl lo (st.take i)]) empT) ([x] : List Int) _ _ (HH.out.alloc _) (ints_new _ _ ([x] : List Int) _ rfl) (by simp)).mono ?_
      rintro e w5 ⟨y5, rfl, h5⟩
      obtain ⟨b2, off2, n', A', c', hy, ⟨e0, e1, e2, e3, e4⟩, hv⟩ := vi_at h5 0 (by simp)
      subst hy
      simp only [Nat.zero_mul, Nat.add_zero, List.getElem_cons_zero, List.length_cons, List.length_nil, Nat.zero_add] at e0 e1 e2 e3 e4 hv ⊢
      have HP : Hid (Calls Try.prog 21 #[.pointer (some ⟨p, 0, none⟩), .agg #[.int .i64 1, .int .i64 x, .int .u64 0, .string ⟨#[]⟩, .slice A' 0 c']] w5 fun e w' => e = .returned (.int .i64 0) ∧ Lies W.heap.size W w' (sepT (framesT p 2 [bc pl lo (st.take (i + 1))]) empT)) := Lib.hid (by
        rw [List.take_succ_eq_append_getElem hlx, HXi.out]
        exact push_bc pl lo (st.take i) x _ (by rw [List.length_take]; omega) h5.drop hv)
      clear HH hv h5
      go_wp2_with fail
      refine HP.out.mono ?_
      rintro e w6 ⟨rfl, h6⟩
      have HH := Lib.hid h6
      clear HP h6
      go_wp2_with fail
      go_roundw
      case rel => exact ⟨i + 1, by go_num, by omega, HH.out⟩
      case measure => simp [intOf]; omega
    · have hlt' : ¬ (i : Int) < (ns : Int) := by omega
      obtain rfl : i = ns := by omega
      have h0 := HH.out
      rw [List.take_of_length_le (by have := HE.out.2.1; omega)] at h0
      have HP : Hid (Calls Try.prog 30 #[.pointer (some ⟨p, 0, none⟩)] wr fun e w' => ∃ A n c, e = .returned (.slice A n c) ∧ Lies W.heap.size W w' (sepT (valsT (bc pl lo st).all (.slice A n c)) (sepT (framesT p 2 [bc pl lo st]) empT))) := Lib.hid (by
        refine (values_any h0).mono ?_
        rintro e w' ⟨y, rfl, h⟩
        have e1 : [bc pl lo st].flatMap Cal.all = (bc pl lo st).all := by simp
        rw [e1] at h
        obtain ⟨A, c, la, hy, _, _⟩ := vals_arg h (by
          intro v hv
          rcases List.mem_append.1 hv with hv | hv
          · exact vis_ok v hv
          · exact vis_ok v hv)
        subst hy
        exact ⟨A, _, c, rfl, h⟩)
      clear HH h0 hlt hlt'
      go_wp2_with fail
      refine HP.out.mono ?_
      rintro e w7 ⟨Aw, nw, cw, rfl, h7⟩
      have HH := Lib.hid (h7.turn (a' := sepT (framesT p 2 [bc pl lo st]) (sepT (valsT (bc pl lo st).all (.slice Aw nw cw)) empT)) (by ac_rfl))
      clear HP h7
      go_wp2_with fail
      refine (of_all (R := sepT (framesT p 2 [bc pl lo st]) (sepT (valsT (bc pl lo st).all (.slice Aw nw cw)) empT)) ([1, 2] : List Int) _ _ (HH.out.alloc _) (ints_new _ _ ([1, 2] : List Int) _ rfl) (by simp)).mono ?_
      rintro e w8 ⟨y8, rfl, h8⟩
      have HP : Hid (Calls Try.prog 13 #[.pointer (some ⟨p, 0, none⟩), .int .i64 4, y8] w8 fun e w' => e = .returned (.int .i64 0) ∧ Lies W.heap.size W w' (sepT (framesT p 2 [bc pl lo st, ⟨4, 0, [vi 1, vi 2], []⟩]) (sepT (valsT (bc pl lo st).all (.slice Aw nw cw)) empT))) := Lib.hid ((call_vals 4 h8 vis_ok).mono fun e w' h => ⟨h.1, h.2.drop⟩)
      clear HH h8
      go_wp2_with fail
      refine HP.out.mono ?_
      rintro e w9 ⟨rfl, h9⟩
      have HP2 : Hid (Calls Try.prog 15 #[.pointer (some ⟨p, 0, none⟩), .int .i64 4, .int .i64 0] w9 fun e w' => e = .returned (.bool true) ∧ Lies W.heap.size W w' (sepT (framesT p 2 [bc pl lo st, ⟨4, 0, [vi 1, vi 2], []⟩]) (sepT (valsT (bc pl lo st).all (.slice Aw nw cw)) empT))) := Lib.hid (at_all 4 0 h9)
      clear HP h9
      go_wp2_with fail
      refine HP2.out.mono ?_
      rintro e w10 ⟨rfl, h10⟩
      have HP3 : Hid (Calls Try.prog 24 #[.pointer (some ⟨p, 0, none⟩)] w10 fun e w' => e = .returned (.int .i64 0) ∧ Lies W.heap.size W w' (sepT (framesT p 2 [bc pl lo st, ⟨4, 0, [vi 1, vi 2], []⟩]) (sepT (valsT (bc pl lo st).all (.slice Aw nw cw)) empT))) := Lib.hid (height_all h10)
      clear HP2 h10
      go_wp2_with fail
      refine HP3.out.mono ?_
      rintro e w11 ⟨rfl, h11⟩
      have HH := Lib.hid h11
      clear HP3 h11
      go_wp2_with fail
      go_loopw [14] (fun jx wr => ∃ (j : Nat) (k : Cal), jx = .int .i64 j ∧ j ≤ nx ∧ Lies W.heap.size W wr (sepT (framesT p 2 [bc pl lo st, k]) (sepT (valsT (bc pl lo st).all (.slice Aw nw cw)) empT))) (fun jx _ => nx - (intOf jx).toNat)
      case atStart => exact ⟨0, _, rfl, Nat.zero_le _, HH.out⟩
      case round =>
        obtain ⟨j, k, rfl, hj, hh⟩ := hrel
        clear HH
        have HH := Lib.hid hh
        clear hh
        by_cases hlt : j < nx
        · have hlt' : (j : Int) < (nx : Int) := by omega
          have hl1 : j < xs.length := by have := HE.out.2.2; omega
          obtain ⟨b, off, kind, m, tag, num, bits, s, lay, A2, c2, l, A3, c3, hA, he, ⟨p0, p1, p2, p3, p4, p5, p6, p7⟩, ⟨hr2, hm2⟩, hr3, hq3, hm3⟩ := act_at rfl ((HXs.out.1.below HH.out.below).more HH.out.below.size) (fun z hz => (HXs.out.2 z hz).below HH.out.below) j hl1
          subst hA
          have hok := act_ok (HOK.out.2 xs[j] (List.getElem_mem hl1))
          rw [he] at hok
          have HV : Hid (VIs wr ⟨tag, num, bits, s, lay⟩ (.agg #[.int .i64 tag, .int .i64 num, .int .u64 bits, .string s, .slice A2 lay.length c2])) := Lib.hid ⟨A2, c2, rfl, hr2, hok.1⟩
          clear he hr2 hm2 hr3 hq3 hm3 hok p7
          by_cases hk2 : kind = 2
          · subst hk2
            have HP : Hid (Calls Try.prog 21 #[.pointer (some ⟨p, 0, none⟩), (.agg #[.int .i64 tag, .int .i64 num, .int .u64 bits, .string s, .slice A2 lay.length c2])] wr fun e w' => ∃ E : Int, e = .returned (.int .i64 E) ∧ Lies W.heap.size W w' (sepT (framesT p 2 [bc pl lo st, k.push ⟨tag, num, bits, s, lay⟩]) (sepT (valsT (bc pl lo st).all (.slice Aw nw cw)) empT))) := Lib.hid ((push_all ⟨tag, num, bits, s, lay⟩ (.agg #[.int .i64 tag, .int .i64 num, .int .u64 bits, .string s, .slice A2 lay.length c2]) HH.out HV.out).mono fun e w' h => ⟨_, h.1, h.2⟩)
            clear HH HV
            go_wp2_with fail
            refine HP.out.mono ?_
            rintro e wq ⟨E, rfl, h⟩
            have HH := Lib.hid h
            clear h HP
            go_wp2_with fail
            go_roundw
            case rel => exact ⟨j + 1, _, by go_num, by omega, HH.out⟩
            case measure => simp [intOf]; omega
          by_cases hk3 : kind = 3
          · subst hk3
            have HP : Hid (Calls Try.prog 14 #[.pointer (some ⟨p, 0, none⟩)] wr fun e w' => ∃ x E, e = .returned (.tuple #[x, .int .i64 E]) ∧ Lies W.heap.size W w' (sepT (framesT p 2 [bc pl lo st, k.take 1]) (sepT (valsT (bc pl lo st).all (.slice Aw nw cw)) empT))) := Lib.hid ((pop_all HH.out).mono fun e w' ⟨x, he, h⟩ => ⟨x, _, he, h.drop⟩)
            clear HH HV
            go_wp2_with fail
            refine HP.out.mono ?_
            rintro e wq ⟨x, E, rfl, h⟩
            have HH := Lib.hid h
            clear h HP
            go_wp2_with fail
            go_roundw
            case rel => exact ⟨j + 1, _, by go_num, by omega, HH.out⟩
            case measure => simp [intOf]; omega
          by_cases hk4 : kind = 4
          · subst hk4
            have HP : Hid (Calls Try.prog 22 #[.pointer (some ⟨p, 0, none⟩), .int .i64 m] wr fun e w' => ∃ x E, e = .returned (.tuple #[x, .int .i64 E]) ∧ Lies W.heap.size W w' (sepT (framesT p 2 [bc pl lo st, k.take m]) (sepT (valsT (bc pl lo st).all (.slice Aw nw cw)) empT))) := Lib.hid ((take_all m HH.out).mono fun e w' ⟨x, he, h⟩ => ⟨x, _, he, h.drop⟩)
            clear HH HV
            go_wp2_with fail
            refine HP.out.mono ?_
            rintro e wq ⟨x, E, rfl, h⟩
            have HH := Lib.hid h
            clear h HP
            go_wp2_with fail
            go_roundw
            case rel => exact ⟨j + 1, _, by go_num, by omega, HH.out⟩
            case measure => simp [intOf]; omega
          by_cases hk6 : kind = 6
          · subst hk6
            have HPD : Hid (Calls Try.prog 10 #[.pointer (some ⟨p, 0, none⟩), .int .i64 m, (.agg #[.int .i64 tag, .int .i64 num, .int .u64 bits, .string s, .slice A2 lay.length c2])] wr.drew fun e w' => ∃ E : Int, e = .returned (.int .i64 E) ∧ Lies W.heap.size W w' (sepT (framesT p 2 [bc pl lo st, k.set m ⟨tag, num, bits, s, lay⟩]) (sepT (valsT (bc pl lo st).all (.slice Aw nw cw)) empT))) := Lib.hid ((set_all m ⟨tag, num, bits, s, lay⟩ (.agg #[.int .i64 tag, .int .i64 num, .int .u64 bits, .string s, .slice A2 lay.length c2]) HH.out.drew (HV.out.quiet (Only.drew _ _))).mono fun e w' h => ⟨_, h.1, h.2⟩)
            clear HH HV
            go_wp2_with fail
            refine wp_region_text [11] (fun _ => 0) (fun i => if i = 11 then 1 else 0) (by kernel_rfl) (by kernel_rfl) (by kernel_rfl) (by kernel_rfl) (by kernel_rfl) ?_
            repeat (refine wpTx_now (by rfl) (by rfl) (by rfl) (fun K hK => ?_); go_simp; refine hK _ ?_; clear hK K)
            refine wpTx_eff (by rfl) (fun K hK => ?_)
            go_simp
            refine HPD.out.mono ?_
            rintro e wq ⟨E, rfl, h⟩
            refine ⟨_, rfl, hK _ _ (by simp [lateOK]) ?_⟩
            clear hK K
            have HH := Lib.hid h
            clear h HPD
            refine wpTx_nil ?_
            go_wp2_with fail
            go_roundw
            case rel => exact ⟨j + 1, _, by go_num, by omega, HH.out⟩
            case measure => simp [intOf]; omega
          by_cases hk7 : kind = 7
          · subst hk7
            have HP : Hid (Calls Try.prog 9 #[.pointer (some ⟨p, 0, none⟩), .int .i64 m] wr fun e w' => ∃ E : Int, e = .returned (.int .i64 E) ∧ Lies W.heap.size W w' (sepT (framesT p 2 [bc pl lo st, k.jump m]) (sepT (valsT (bc pl lo st).all (.slice Aw nw cw)) empT))) := Lib.hid ((jump_all m HH.out).mono fun e w' h => ⟨_, h.1, h.2⟩)
            clear HH HV
            go_wp2_with fail
            refine HP.out.mono ?_
            rintro e wq ⟨E, rfl, h⟩
            have HH := Lib.hid h
            clear h HP
            go_wp2_with fail
            go_roundw
            case rel => exact ⟨j + 1, _, by go_num, by omega, HH.out⟩
            case measure => simp [intOf]; omega
          go_wp2_with fail
          go_roundw
          case rel => exact ⟨j + 1, k, by go_num, by omega, HH.out⟩
          case measure => simp [intOf]; omega
        · have hlt' : ¬ (j : Int) < (nx : Int) := by omega
          have HP : Hid (Calls Try.prog 16 #[.pointer (some ⟨p, 0, none⟩)] wr fun e w' => e = .returned (.int .i64 0) ∧ Lies W.heap.size W w' (sepT (framesT p 2 [bc pl lo st]) (sepT (valsT (bc pl lo st).all (.slice Aw nw cw)) empT))) := Lib.hid (return_all HH.out)
          clear HH
          go_wp2_with fail
          refine HP.out.mono ?_
          rintro e w12 ⟨rfl, h12⟩
          have hbo : ∀ v ∈ (bc pl lo st).all, v.ok := by
            intro v hv
            rcases List.mem_append.1 hv with hv | hv
            · exact vis_ok v hv
            · exact vis_ok v hv
          have HP2 : Hid (Calls Try.prog 30 #[.pointer (some ⟨p, 0, none⟩)] w12 fun e w' => ∃ A n c, e = .returned (.slice A n c) ∧ Lies W.heap.size W w' (sepT (valsT (bc pl lo st).all (.slice A n c)) (sepT (framesT p 2 [bc pl lo st]) (sepT (valsT (bc pl lo st).all (.slice Aw nw cw)) empT)))) := Lib.hid (by
            refine (values_any h12).mono ?_
            rintro e w' ⟨y, rfl, h⟩
            have e1 : [bc pl lo st].flatMap Cal.all = (bc pl lo st).all := by simp
            rw [e1] at h
            obtain ⟨A, c, la, hy, _, _⟩ := vals_arg h hbo
            subst hy
            exact ⟨A, _, c, rfl, h⟩)
          clear HP h12
          go_wp2_with fail
          refine HP2.out.mono ?_
          rintro e w13 ⟨A13, n13, c13, rfl, h13⟩
          have HP : Hid (Calls Try.prog 23 #[.slice A13 n13 c13, .slice Aw nw cw] w13 fun e w' => e = .returned (.bool true) ∧ Lies W.heap.size W w' (sepT (framesT p 2 [bc pl lo st]) empT)) := Lib.hid ((sameVs_all (h13.turn (a' := sepT (valsT (bc pl lo st).all (.slice A13 n13 c13)) (sepT (valsT (bc pl lo st).all (.slice Aw nw cw)) (sepT (framesT p 2 [bc pl lo st]) empT))) (by ac_rfl)) hbo hbo (by
            show (lo.map vi ++ st.map vi).length ≤ 10000000
            rw [List.length_append, List.length_map, List.length_map]
            have := HE.out
            omega)).mono fun e w' h => ⟨by rw [h.1, decide_eq_true rfl], h.2.drop.drop⟩)
          clear HP2 h13
          go_wp2_with fail
          refine HP.out.mono ?_
          rintro e w14 ⟨rfl, h14⟩
          have HP2 : Hid (Calls Try.prog 15 #[.pointer (some ⟨p, 0, none⟩), .int .i64 3, .int .i64 pl] w14 fun e w' => e = .returned (.bool true) ∧ Lies W.heap.size W w' (sepT (framesT p 2 [bc pl lo st]) empT)) := Lib.hid ((at_all 3 pl h14).mono fun e w' h => ⟨by rw [h.1]; show Ending.returned (.bool ((3 : Int) == 3 && pl == pl)) = _; simp, h.2⟩)
          clear HP h14
          go_wp2_with fail
          refine HP2.out.mono ?_
          rintro e w15 ⟨rfl, h15⟩
          have HP : Hid (Calls Try.prog 24 #[.pointer (some ⟨p, 0, none⟩)] w15 fun e w' => e = .returned (.int .i64 i) ∧ Lies W.heap.size W w' (sepT (framesT p 2 [bc pl lo st]) empT)) := Lib.hid ((height_all h15).mono fun e w' h => ⟨by rw [h.1]; show Ending.returned (.int .i64 (((st.map vi).length : Nat) : Int)) = _; rw [List.length_map, ← HE.out.2.1], h.2⟩)
          clear HP2 h15
          go_wp2_with fail
          refine HP.out.mono ?_
          rintro e w16 ⟨rfl, h16⟩
          have HP2 : Hid (Calls Try.prog 31 #[.pointer (some ⟨p, 0, none⟩)] w16 fun e w' => e = .returned (.int .i64 1) ∧ Lies W.heap.size W w' (sepT (framesT p 2 [bc pl lo st]) empT)) := Lib.hid (calls_any h16)
          clear HP h16
          go_wp2_with fail
          refine HP2.out.mono ?_
          rintro e w17 ⟨rfl, h17⟩
          have HF := Lib.hid h17
          clear HP2 h17
          go_wp2_with fail
          go_ret
          exact ⟨rfl, HF.out.below⟩
end Go.Proofs.Ytiaeckljpdhagaa
