/- The law FramesStack, walked. -/
import Derived.Test.YtiaeckljpdhagaaFrPick
import Derived.Test.YtiaeckljpdhagaaFrSeven
namespace Go.Proofs.Ytiaeckljpdhagaa
open Go.RowKit
set_option linter.unusedVariables false
set_option linter.unusedSimpArgs false
attribute [local go_sem] Oper.semAt_some run_store_func run_store_nilFunc
theorem slice_from (A : Option Addr) (i c j : Nat) (h1 : (j : Int) ≤ (i : Int)) (w : World) : (Instr.sliceAt 43 (.slice A i c) (some (.int .i64 (j : Int))) none none).run Try.prog w = .ok (.slice (if c = j then A else A.map (·.add (j * 1))) (i - j) (c - j)) w := by
  have h0 : (0 : Int) ≤ (j : Int) := by omega
  have u := Try.underlying43
  go_simp
/-- The one call of these frames. -/
def sc (st : List Int) : Cal := ⟨0, 0, [], st.map vi⟩
theorem sc_push (st : List Int) (x : Int) (h : st.length < 5000) : pushE (sc st) = 0 ∧ (sc st).push (vi x) = sc (st ++ [x]) := by
  have h1 : ¬ 5000 ≤ (st.map vi).length := by rw [List.length_map]; omega
  refine ⟨if_neg h1, ?_⟩
  unfold Cal.push
  rw [if_neg (show ¬ 5000 ≤ (sc st).stack.length from h1)]
  simp [sc]
theorem sc_big (st : List Int) (n : Int) (h : (st.length : Int) < n) : (sc st).takeE n = 15 ∧ (sc st).take n = sc st ∧ (sc st).taken n = [] := by
  have h1 : (sc st).takeE n = 15 := by unfold Cal.takeE; rw [if_neg (by omega), if_pos (by simp [sc]; omega)]
  exact ⟨h1, by simp [Cal.take, h1], by simp [Cal.taken, h1]⟩
theorem sc_take (st : List Int) (n : Nat) (h : n ≤ st.length) : (sc st).takeE n = 0 ∧ (sc st).take n = sc (st.take (st.length - n)) ∧ (sc st).taken n = (st.drop (st.length - n)).map vi := by
  have h1 : (sc st).takeE n = 0 := by unfold Cal.takeE; rw [if_neg (by omega), if_neg (by simp [sc]; omega)]
  refine ⟨h1, ?_, ?_⟩
  · unfold Cal.take
    rw [if_pos h1]
    simp [sc, List.map_take]
  · unfold Cal.taken
    rw [if_pos h1]
    simp [sc, List.map_drop]
section
variable {N : Nat} {w0 W : World} {R : Thing} {p : Nat}
theorem push_sc (st : List Int) (x : Int) (y : Value) (hlen : st.length < 5000) (H : Lies N w0 W (sepT (framesT p 1 [sc st]) R)) (hv : VIs W (vi x) y) :
    Calls Try.prog 21 #[.pointer (some ⟨p, 0, none⟩), y] W fun e w' => e = .returned (.int .i64 0) ∧ Lies N w0 w' (sepT (framesT p 1 [sc (st ++ [x])]) R) := by
  obtain ⟨h1, h2⟩ := sc_push st x hlen
  refine (push_all (vi x) y H hv).mono ?_
  rintro e w' ⟨rfl, h⟩
  have h3 : Lies N w0 w' (sepT (framesT p 1 [(sc st).push (vi x)]) R) := h
  rw [h2] at h3
  exact ⟨congrArg (fun z => Ending.returned (.int .i64 z)) h1, h3⟩
theorem take_sc_big (st : List Int) (n : Int) (h : (st.length : Int) < n) (H : Lies N w0 W (sepT (framesT p 1 [sc st]) R)) :
    Calls Try.prog 22 #[.pointer (some ⟨p, 0, none⟩), .int .i64 n] W fun e w' => ∃ A n c, e = .returned (.tuple #[.slice A n c, .int .i64 15]) ∧ Lies N w0 w' (sepT (framesT p 1 [sc st]) R) := by
  obtain ⟨h1, h2, h3⟩ := sc_big st n h
  refine (take_all n H).mono ?_
  rintro e w' ⟨y, rfl, h⟩
  obtain ⟨A, c, la, rfl, _, _⟩ := vals_arg h (by intro v hv; have h4 : v ∈ (sc st).taken n := hv; rw [h3] at h4; cases h4)
  have h5 : Lies N w0 w' (sepT (framesT p 1 [(sc st).take n]) R) := h.drop
  rw [h2] at h5
  exact ⟨A, _, c, congrArg (fun z => Ending.returned (.tuple #[_, .int .i64 z])) h1, h5⟩
theorem take_sc (st : List Int) (n : Nat) (h : n ≤ st.length) (H : Lies N w0 W (sepT (framesT p 1 [sc st]) R)) :
    Calls Try.prog 22 #[.pointer (some ⟨p, 0, none⟩), .int .i64 n] W fun e w' => ∃ A m c, e = .returned (.tuple #[.slice A m c, .int .i64 0]) ∧ Lies N w0 w' (sepT (valsT ((st.drop (st.length - n)).map vi) (.slice A m c)) (sepT (framesT p 1 [sc (st.take (st.length - n))]) R)) := by
  obtain ⟨h1, h2, h3⟩ := sc_take st n h
  refine (take_all n H).mono ?_
  rintro e w' ⟨y, rfl, h⟩
  have h5 : Lies N w0 w' (sepT (valsT ((sc st).taken n) y) (sepT (framesT p 1 [(sc st).take n]) R)) := h
  rw [h2, h3] at h5
  obtain ⟨A, c, la, rfl, _, _⟩ := vals_arg h5 vis_ok
  exact ⟨A, _, c, congrArg (fun z => Ending.returned (.tuple #[_, .int .i64 z])) h1, h5⟩
theorem pops_sc (st : List Int) (x : Int) (H : Lies N w0 W (sepT (framesT p 1 [sc (st ++ [x])]) R)) :
    Calls Try.prog 17 #[.pointer (some ⟨p, 0, none⟩), .int .i64 x] W fun e w' => e = .returned (.bool true) ∧ Lies N w0 w' (sepT (framesT p 1 [sc st]) R) := by
  obtain ⟨h1, h2, h3⟩ := sc_take (st ++ [x]) 1 (by simp)
  refine (pops_all x H).mono ?_
  rintro e w' ⟨rfl, h⟩
  have h5 : Lies N w0 w' (sepT (framesT p 1 [(sc (st ++ [x])).take 1]) R) := h
  have h2' : (sc (st ++ [x])).take 1 = sc st := by rw [show (1 : Int) = ((1 : Nat) : Int) from rfl, h2]; simp
  have h3' : (sc (st ++ [x])).popV = vi x := by
    show ((sc (st ++ [x])).taken ((1 : Nat) : Int)).headD Val.zero = vi x
    rw [h3]; simp
  rw [h2'] at h5
  refine ⟨?_, h5⟩
  show Ending.returned (.bool ((sc (st ++ [x])).takeE ((1 : Nat) : Int) == 0 && decide ((sc (st ++ [x])).popV = vi x))) = _
  rw [h1, h3', decide_eq_true rfl]
  rfl
theorem height_sc (st : List Int) (H : Lies N w0 W (sepT (framesT p 1 [sc st]) R)) :
    Calls Try.prog 24 #[.pointer (some ⟨p, 0, none⟩)] W fun e w' => e = .returned (.int .i64 st.length) ∧ Lies N w0 w' (sepT (framesT p 1 [sc st]) R) := by
  refine (height_all H).mono ?_
  rintro e w' ⟨rfl, h⟩
  refine ⟨?_, h⟩
  show Ending.returned (.int .i64 (((sc st).stack.length : Nat) : Int)) = _
  simp [sc]
end
set_option maxRecDepth 100000 in
set_option maxHeartbeats 6400000 in
theorem stack_row (A : Option Addr) (c : Nat) (xs : List Int) (n : Int) (W : World) (hx : Reads W W.heap.size 1 A xs.length (xs.map (Value.int .i64))) (hcap : xs.length ≤ c) (hn1 : -9223372036854775808 ≤ n) (hn2 : n ≤ 9223372036854775807) (hbig : xs.length ≤ 140737488351232) :
    Calls Try.prog 4 #[.slice A xs.length c, .int .i64 n] W fun e w' => e = .returned (.bool true) ∧ Below W.heap.size W w' := by
  have HX := Lib.hid hx
  have HNR := Lib.hid (And.intro hn1 hn2)
  obtain ⟨len, hlen⟩ : ∃ len, len = xs.length := ⟨_, rfl⟩
  rw [← hlen] at hcap hbig ⊢
  have HL := Lib.hid hlen
  clear hx hlen hn1 hn2
  go_enter Try.func4, Try.ntmps4
  go_wp2_with fail
  refine (known_in (Lies.nil W)).mono ?_
  rintro e w1 ⟨rfl, h1⟩
  go_wp2_with fail
  refine (new_good 1 (by decide) (by decide) h1).mono ?_
  rintro e w2 ⟨p, rfl, h2⟩
  have HP : Hid (Calls Try.prog 13 #[.pointer (some ⟨p, 0, none⟩), .int .i64 0, .slice none 0 0] w2 fun e w' => e = .returned (.int .i64 0) ∧ Lies W.heap.size W w' (sepT (framesT p 1 [sc []]) empT)) := Lib.hid (call_nil (fr := []) 0 h2)
  clear h1 h2
  go_wp2_with fail
  refine HP.out.mono ?_
  rintro e w3 ⟨rfl, h3⟩
  have HH := Lib.hid h3
  clear h3 HP
  by_cases h100 : 100 < len
  · have h100' : (100 : Int) < (len : Int) := by omega
    go_wp2_with fail
    go_ret
    exact ⟨rfl, HH.out.below⟩
  have h100' : ¬ (100 : Int) < (len : Int) := by omega
  have hwl : IntKind.i64.wrap ((len : Int) + 1) = (len : Int) + 1 := IntWalk.i64_in _ (by omega)
  have HPK := Lib.hid (fun w => pick_any n ((len : Int) + 1) w HNR.out.1 HNR.out.2 (by omega) (by omega))
  go_wp2_with fail
  refine (HPK.out _).mono ?_
  rintro e w' ⟨r, rfl, ⟨hr1, hr2⟩, rfl⟩
  obtain ⟨k, rfl⟩ : ∃ k : Nat, r = k := ⟨r.toNat, by omega⟩
  have hk : k ≤ len := by omega
  clear HPK hr1 hr2 HNR
  go_wp2_with fail
  go_loopw [8] (fun ix wr => ∃ i : Nat, ix = .int .i64 i ∧ i ≤ len ∧ Lies W.heap.size W wr (sepT (framesT p 1 [sc (xs.take i)]) empT)) (fun ix _ => len - (intOf ix).toNat)
  case atStart => exact ⟨0, rfl, Nat.zero_le _, by simpa using HH.out⟩
  case round =>
    obtain ⟨i, rfl, hi, hh⟩ := hrel
    clear HH
    have HH := Lib.hid hh
    clear hh
    by_cases hlt : i < len
    · have hlt' : (i : Int) < (len : Int) := by omega
      have hlx : i < xs.length := by have := HL.out; omega
      obtain ⟨b, off, rfl, hbl, hc⟩ := reads_addr HX.out (by omega) (by decide)
      have hci : wr.cell? ⟨b, off + i, none⟩ = some (.int .i64 xs[i]) := (HH.out.below.cell (by exact hbl)).trans (hc i (.int .i64 xs[i]) (by simp [hlx]))
      generalize hxi : xs[i] = x at *
      have HXi := Lib.hid hxi
      clear hc hxi hbl
      go_wp2_with fail
      refine (of_all (R := sepT (framesT p 1 [sc (xs.take i)]) empT) ([x] : List Int) _ _ (HH.out.alloc _) (ints_new _ _ ([x] : List Int) _ rfl) (by simp)).mono ?_
      rintro e w5 ⟨y5, rfl, h5⟩
      obtain ⟨b2, off2, n', A', c', hy, ⟨e0, e1, e2, e3, e4⟩, hv⟩ := vi_at h5 0 (by simp)
      subst hy
      simp only [Nat.zero_mul, Nat.add_zero, List.getElem_cons_zero, List.length_cons, List.length_nil, Nat.zero_add] at e0 e1 e2 e3 e4 hv ⊢
      have HP : Hid (Calls Try.prog 21 #[.pointer (some ⟨p, 0, none⟩), .agg #[.int .i64 1, .int .i64 x, .int .u64 0, .string ⟨#[]⟩, .slice A' 0 c']] w5 fun e w' => e = .returned (.int .i64 0) ∧ Lies W.heap.size W w' (sepT (framesT p 1 [sc (xs.take (i + 1))]) empT)) := Lib.hid (by
        rw [List.take_succ_eq_append_getElem hlx, HXi.out]
        exact push_sc (xs.take i) x _ (by rw [List.length_take]; omega) h5.drop hv)
      clear HH hv h5
      go_wp2_with fail
      refine HP.out.mono ?_
      rintro e w6 ⟨rfl, h6⟩
      have HH := Lib.hid h6
      clear HP h6
      go_wp2_with fail
      go_roundw
      case rel => exact ⟨i + 1, by go_num, by omega, HH.out⟩
      case measure => simp [intOf]; omega
    · have hlt' : ¬ (i : Int) < (len : Int) := by omega
      obtain rfl : i = len := by omega
      have hst : xs.take i = xs := List.take_of_length_le (by have := HL.out; omega)
      rw [hst] at HH
      have HP := Lib.hid (take_sc_big xs ((i : Int) + 1) (by have := HL.out; omega) HH.out)
      clear HH hst hlt
      go_wp2_with fail
      refine HP.out.mono ?_
      rintro e w5 ⟨A5, n5, c5, rfl, h5⟩
      have HP2 := Lib.hid (take_sc xs k (by have := HL.out; omega) h5)
      clear HP h5
      go_wp2_with fail
      refine HP2.out.mono ?_
      rintro e w6 ⟨A6, n6, c6, rfl, h6⟩
      rw [← HL.out] at h6
      have HH := Lib.hid h6
      clear HP2 h6
      -- the rest of the list, as of is asked it
      have hwk : IntKind.i64.wrap ((i : Int) - (k : Int)) = ((i - k : Nat) : Int) := by rw [show (i : Int) - k = ((i - k : Nat) : Int) by omega]; exact IntWalk.i64_in _ (by omega)
      have hlt1 : ((i - k : Nat) : Int) ≤ (i : Int) := by omega
      have hik : i - (i - k) = k := by omega
      have HR : Hid (Reads w6 w6.heap.size 1 (if c = i - k then A else A.map (·.add ((i - k) * 1))) k ((xs.drop (i - k)).map (Value.int .i64))) := by
        refine Lib.hid ?_
        have h := (HX.out.cut (k := i - k) (cap := c) (by have := HL.out; omega) (by have := HL.out; omega))
        have h2 : Reads w6 W.heap.size 1 (if c = i - k then A else A.map (·.add ((i - k) * 1))) (xs.length - (i - k)) ((xs.map (Value.int .i64)).drop ((i - k) * 1)) := h.keep fun q hq => HH.out.below.cell hq
        rw [← HL.out, hik, Nat.mul_one, ← List.map_drop] at h2
        rw [Nat.mul_one]
        exact h2.more (HH.out.below.size)
      have HS : Hid (∀ A2 c2, Reads w6 w6.heap.size 1 A2 k ((xs.drop (i - k)).map (Value.int .i64)) → Calls Try.prog 11 #[.slice A2 k c2] w6 fun e w' => ∃ A n c, e = .returned (.slice A n c) ∧ Lies W.heap.size W w' (sepT (valsT ((xs.drop (i - k)).map vi) (.slice A6 n6 c6)) (sepT (valsT ((xs.drop (i - k)).map vi) (.slice A n c)) (sepT (framesT p 1 [sc (xs.take (i - k))]) empT)))) := by
        refine Lib.hid fun A2 c2 hr => ?_
        have hkl : (xs.drop (i - k)).length = k := by rw [List.length_drop, ← HL.out]; omega
        have h := of_all (xs.drop (i - k)) A2 c2 HH.out (by rw [hkl]; exact hr) (by rw [hkl]; omega)
        rw [hkl] at h
        refine h.mono ?_
        rintro e w' ⟨y, rfl, h⟩
        obtain ⟨A, c, la, rfl, _, _⟩ := vals_arg h vis_ok
        exact ⟨A, _, c, rfl, h.turn (by ac_rfl)⟩
      have HO : Hid (∃ A2 c2, (∀ w, (Instr.sliceAt 43 (.slice A i c) (some (.int .i64 ((i - k : Nat) : Int))) none none).run Try.prog w = .ok (.slice A2 k c2) w) ∧ Reads w6 w6.heap.size 1 A2 k ((xs.drop (i - k)).map (Value.int .i64))) := by
        refine Lib.hid ⟨_, c - (i - k), fun w => ?_, HR.out⟩
        have h := slice_from A i c (i - k) hlt1 w
        rw [hik] at h
        exact h
      obtain ⟨A2, c2, hsl, hrd⟩ := HO.out
      have HQ := Lib.hid (HS.out A2 c2 hrd)
      clear HR HH HO HS hrd
      obtain ⟨m, hm⟩ : ∃ m, m = i - k := ⟨_, rfl⟩
      rw [← hm] at hwk hsl HQ hlt1
      have HM := Lib.hid hm
      have hmi : m ≤ i := by omega
      clear hm hik
      go_wp2_with fail
      refine HQ.out.mono ?_
      rintro e w7 ⟨A7, n7, c7, rfl, h7⟩
      have HP : Hid (Calls Try.prog 23 #[.slice A6 n6 c6, .slice A7 n7 c7] w7 fun e w' => e = .returned (.bool true) ∧ Lies W.heap.size W w' (sepT (framesT p 1 [sc (xs.take m)]) empT)) := Lib.hid ((sameVs_all h7 vis_ok vis_ok (by rw [List.length_map, List.length_drop]; have := HL.out; omega)).mono fun e w' h => ⟨by rw [h.1, decide_eq_true rfl], h.2.drop.drop⟩)
      clear HQ h7
      go_wp2_with fail
      refine HP.out.mono ?_
      rintro e w8 ⟨rfl, h8⟩
      have HP2 : Hid (Calls Try.prog 24 #[.pointer (some ⟨p, 0, none⟩)] w8 fun e w' => e = .returned (.int .i64 (m : Int)) ∧ Lies W.heap.size W w' (sepT (framesT p 1 [sc (xs.take m)]) empT)) := Lib.hid (by
        have h := height_sc (xs.take m) h8
        rw [List.length_take, ← HL.out, Nat.min_eq_left hmi] at h
        exact h)
      clear HP h8
      go_wp2_with fail
      refine HP2.out.mono ?_
      rintro e w9 ⟨rfl, h9⟩
      have HH := Lib.hid h9
      clear HP2 h9
      have hwm : IntKind.i64.wrap ((m : Int) - 1) = (m : Int) - 1 := IntWalk.i64_in _ (by omega)
      go_wp2_with fail
      go_loopw [13] (fun ix wr => ∃ j : Nat, ix = .int .i64 ((j : Int) - 1) ∧ j ≤ m ∧ Lies W.heap.size W wr (sepT (framesT p 1 [sc (xs.take j)]) empT)) (fun ix _ => (intOf ix + 1).toNat)
      case atStart => exact ⟨m, rfl, Nat.le_refl _, HH.out⟩
      case round =>
        obtain ⟨j, rfl, hj, hh⟩ := hrel
        clear HH hwm hsl hwk
        have HH := Lib.hid hh
        clear hh
        by_cases hpos : 0 < j
        · obtain ⟨j', rfl⟩ : ∃ j', j = j' + 1 := ⟨j - 1, by omega⟩
          have hlx : j' < xs.length := by have := HL.out; omega
          obtain ⟨b, off, rfl, hbl, hc⟩ := reads_addr HX.out (by omega) (by decide)
          have hci : wr.cell? ⟨b, off + j', none⟩ = some (.int .i64 xs[j']) := (HH.out.below.cell (by exact hbl)).trans (hc j' (.int .i64 xs[j']) (by simp [hlx]))
          have HP : Hid (Calls Try.prog 17 #[.pointer (some ⟨p, 0, none⟩), .int .i64 xs[j']] wr fun e w' => e = .returned (.bool true) ∧ Lies W.heap.size W w' (sepT (framesT p 1 [sc (xs.take j')]) empT)) := Lib.hid (by
            have h := HH.out
            rw [List.take_succ_eq_append_getElem hlx] at h
            exact pops_sc (xs.take j') xs[j'] h)
          generalize xs[j'] = x at *
          have hji : ((j' + 1 : Nat) : Int) - 1 = (j' : Int) := by omega
          have hj0 : (0 : Int) ≤ (j' : Int) := by omega
          have hjl : (j' : Int) < (i : Int) := by omega
          rw [hji]
          clear hc hbl HH
          go_wp2_with fail
          refine HP.out.mono ?_
          rintro e w10 ⟨rfl, h10⟩
          have HH := Lib.hid h10
          clear HP h10
          have hwj : IntKind.i64.wrap ((j' : Int) - 1) = (j' : Int) - 1 := IntWalk.i64_in _ (by omega)
          go_wp2_with fail
          go_roundw
          case rel => exact ⟨j', rfl, by omega, HH.out⟩
          case measure => simp [intOf]
        · obtain rfl : j = 0 := by omega
          have hneg : ¬ (0 : Int) ≤ ((0 : Nat) : Int) - 1 := by omega
          have h0 := HH.out
          rw [List.take_zero] at h0
          have HP : Hid (Calls Try.prog 14 #[.pointer (some ⟨p, 0, none⟩)] wr fun e w' => ∃ A c, e = .returned (.tuple #[.agg #[.int .i64 0, .int .i64 0, .int .u64 0, .string ⟨#[]⟩, .slice A 0 c], .int .i64 15]) ∧ Lies W.heap.size W w' (sepT (framesT p 1 [sc []]) empT)) := Lib.hid (by
            refine (pop_all h0).mono ?_
            rintro e w' ⟨x, rfl, h⟩
            obtain ⟨A, c, hx, h2⟩ := val_out h
            exact ⟨A, c, by rw [hx]; rfl, h2.drop⟩)
          clear HH h0
          go_wp2_with fail
          refine HP.out.mono ?_
          rintro e w10 ⟨A10, c10, rfl, h10⟩
          have HP2 : Hid (∀ o, Calls Try.prog 24 #[.pointer (some ⟨p, 0, none⟩)] (w10.alloc o) fun e w' => e = .returned (.int .i64 0) ∧ Lies W.heap.size W w' (sepT (framesT p 1 [sc []]) empT)) := Lib.hid fun o => height_sc [] (h10.alloc o)
          clear HP h10
          go_wp2_with fail
          refine (HP2.out _).mono ?_
          rintro e w11 ⟨rfl, h11⟩
          have HH := Lib.hid h11
          clear HP2 h11
          go_wp2_with fail
          go_ret
          exact ⟨rfl, HH.out.below⟩
end Go.Proofs.Ytiaeckljpdhagaa
