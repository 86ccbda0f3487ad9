/- OctetOne, walked. -/
import Derived.Test.YtcapdmicekialaaOcOneP
import Derived.Test.YtcapdmicekialaaOcKnown
namespace Go.Proofs.Ytcapdmicekialaa
open Go.RowKit
attribute [local go_sem] Oper.semAt_some run_store_func run_store_nilFunc
theorem pick_3 (n : Int) (w : World) : Calls Try.prog 34 #[.int .i64 n, .int .i64 3] w fun e w' => ∃ p : Nat, p < 3 ∧ e = .returned (.int .i64 p) ∧ w = w' := by
  have hb : -3 < n.tmod 3 ∧ n.tmod 3 < 3 := ⟨by have := Int.lt_tmod_of_pos n (show (0 : Int) < 3 by decide); omega, Int.tmod_lt_of_pos n (by decide)⟩
  by_cases h : n.tmod 3 < 0
  · obtain ⟨p, hp⟩ : ∃ p : Nat, n.tmod 3 + 3 = p := ⟨(n.tmod 3 + 3).toNat, by omega⟩
    have hh : decide (n.tmod 3 < 0) = true := decide_eq_true h
    have HP := Lib.hid hp
    go_enter Try.func34, Try.ntmps34
    go_wp2_with fail
    go_ret
    exact ⟨p, by have := HP.out; omega, by rw [← HP.out]; rfl, rfl⟩
  · obtain ⟨p, hp⟩ : ∃ p : Nat, n.tmod 3 = p := ⟨(n.tmod 3).toNat, by omega⟩
    have hh : decide (n.tmod 3 < 0) = false := decide_eq_false h
    have HP := Lib.hid hp
    go_enter Try.func34, Try.ntmps34
    go_wp2_with fail
    go_ret
    exact ⟨p, by have := HP.out; omega, by rw [← HP.out]; rfl, rfl⟩
theorem reads_take {w : World} {B : Nat} {A : Option Addr} {bs : List UInt8} {k : Nat} (h : Reads w B 1 A bs.length (bytesV bs)) (hk : k ≤ bs.length) : Reads w B 1 A (bs.take k).length (bytesV (bs.take k)) := by
  refine ⟨by rw [bytesV_len, Nat.mul_one], fun hn => ?_⟩
  rw [List.length_take] at hn
  obtain ⟨ad, h1, h2, h3⟩ := h.2 (by omega)
  refine ⟨ad, h1, h2, fun j u hu => h3 j u ?_⟩
  unfold bytesV at hu ⊢
  rw [List.getElem?_map, List.getElem?_take] at hu
  rw [List.getElem?_map]
  split at hu
  · exact hu
  · cases hu
theorem rWord_len (bs : List UInt8) (s : RS) (m : Int) : (rWord bs s m).1.length ≤ bs.length := by
  unfold rWord
  split
  · exact Nat.zero_le _
  · split
    · exact Nat.zero_le _
    · split
      · exact Nat.zero_le _
      · split
        · exact Nat.zero_le _
        · rw [List.length_take, List.length_drop]; omega
set_option maxRecDepth 100000 in
theorem one_long (A : Option Addr) (c : Nat) (bs : List UInt8) (k : Int) (w : World) (hl : (60 : Int) < (bs.length : Int)) : Calls Try.prog 7 #[.slice A bs.length c, .int .i64 k] w (RetBw (.bool true) w) := by
  go_enter Try.func7, Try.ntmps7
  go_wp2_with fail
  refine (known_yes w).mono ?_
  rintro e w1 ⟨rfl, hb⟩
  go_wp2_with fail
  go_ret
  exact ⟨rfl, hb⟩
set_option maxRecDepth 100000 in
set_option maxHeartbeats 6400000 in
theorem one_short (A : Option Addr) (c : Nat) (bs : List UInt8) (k : Int) (w : World) (hx : Reads w w.heap.size 1 A bs.length (bytesV bs)) (hcap : (bs.length : Int) ≤ (c : Int)) (hl : ¬ (60 : Int) < (bs.length : Int)) (hA : A = none → bs.length = 0) :
    Calls Try.prog 7 #[.slice A bs.length c, .int .i64 k] w (RetBw (.bool true) w) := by
  have HX := Lib.hid hx
  have HA := Lib.hid hA
  clear hx hA
  go_enter Try.func7, Try.ntmps7
  go_wp2_with fail
  refine (known_yes w).mono ?_
  rintro e w1 ⟨rfl, hb⟩
  have H := Lib.hid ((Hold.nil w).quiet (only_below hb))
  have HX1 := Lib.hid ((HX.out.below hb).more hb.size)
  clear hb
  go_wp2_with fail
  refine (H.out.dnew HX1.out (by omega)).mono ?_
  clear H
  rintro e w2 ⟨q, rfl, h⟩
  have H := Lib.hid h
  clear h
  go_wp2_with fail
  refine (H.out.wnew 200 (by decide) (by decide)).mono ?_
  clear H
  rintro e w3 ⟨p, rfl, h⟩
  have H := Lib.hid h
  clear h
  go_wp2_with fail
  refine (pick_3 k _).mono ?_
  rintro e w' ⟨kk, hkk, rfl, rfl⟩
  rcases (show kk = 0 ∨ kk = 1 ∨ kk = 2 by omega) with rfl | rfl | rfl
  · clear hkk
    go_wp2_with fail
    refine (H.out.dnum 0 rfl).mono ?_
    clear H
    rintro e wx ⟨rfl, h⟩
    have H := Lib.hid h
    clear h
    go_wp2_with fail
    refine (H.out.wnum 1 rfl _ (by omega) (by have := rNum_lt bs (0, 0, 0); omega)).mono ?_
    clear H
    rintro e wx ⟨rfl, h⟩
    have H := Lib.hid h
    clear h
    have HO := Lib.hid (one_num bs)
    generalize (rNum bs (0, 0, 0)).2 = SS at *
    rcases HO.out with ⟨e1, e2⟩ | ⟨e1, e2, e3, e4⟩
    · have hr := H.out.drest 0 rfl
      rw [if_pos e1] at hr
      have he := H.out.dend 0 rfl
      have hE : rEnd bs SS = (SS.2.1, 0) := by unfold rEnd; rw [if_pos e1, ← e2]
      clear HO
      obtain ⟨s0, s1, s2⟩ := SS
      simp only at e1 e2 hr he hE
      rw [hE] at he
      have HR := Lib.hid (fun (W : World) (l : List Thing) (K : Hold w.heap.size w W l) (hi : l[0]? = some (rdT q bs (s0, s1, s2))) => show Calls Try.prog _ _ W _ from by have := K.drest 0 hi; rw [if_pos e1] at this; exact this)
      have HR1 := Lib.hid hr
      have hne : (s1 != 0) = true := by simpa using e1
      have HE := Lib.hid (fun (W : World) (l : List Thing) (K : Hold w.heap.size w W l) (hi : l[0]? = some (rdT q bs (s0, s1, s2))) => show Calls Try.prog _ _ W _ from by have := K.dend 0 hi; rw [hE] at this; exact this)
      clear hr he hE e2
      have hz : (-9223372036854775808 : Int) ≤ (bs.length : Int) - 0 ∧ (bs.length : Int) - 0 ≤ 9223372036854775807 := by omega
      go_wp2_with fail
      refine HR1.out.mono ?_
      clear HR1 H
      rintro e wy ⟨rfl, h⟩
      have H := Lib.hid h
      clear h
      go_wp2_with fail
      refine (HE.out _ _ H.out rfl).mono ?_
      clear H
      rintro e wz ⟨rfl, h⟩
      have H := Lib.hid h
      clear h
      by_cases h4 : s1 = 4
      · subst h4
        go_wp2_with fail
        refine (HR.out _ _ (H.out.newBlk 47 #[.int .i64 4, .int .i64 0]) rfl).mono ?_
        clear H
        rintro e wv ⟨rfl, h⟩
        have H := Lib.hid h
        clear h
        have hf1 := (Hold.blk H.out 2 rfl).cell 1
        simp at hf1
        go_wp2_with fail
        go_ret
        exact ⟨rfl, H.out.below⟩
      · have h4' : (s1 != 4) = true := by simpa using h4
        clear h4
        go_wp2_with fail
        refine (HR.out _ _ (H.out.newBlk 47 #[.int .i64 s1, .int .i64 0]) rfl).mono ?_
        clear H
        rintro e wv ⟨rfl, h⟩
        have H := Lib.hid h
        clear h
        have hf1 := (Hold.blk H.out 2 rfl).cell 1
        simp at hf1
        go_wp2_with fail
        go_ret
        exact ⟨rfl, H.out.below⟩
    · obtain ⟨s0, s1, s2⟩ := SS
      simp only at e1 e2 e3 e4
      subst e1
      have hr := H.out.drest 0 rfl
      rw [if_neg (show ¬ (0 : Int) ≠ 0 by decide)] at hr
      simp only at hr
      obtain ⟨m, hm⟩ : ∃ m : Nat, (bs.length : Int) - (s0 : Int) = m := ⟨bs.length - s0, by omega⟩
      rw [hm] at hr
      have HR1 := Lib.hid hr
      have hsub : (bs.length : Int) - (m : Int) = (s0 : Int) := by omega
      have HM := Lib.hid hm
      clear hr HO hm
      have h1s : (1 : Int) ≤ (s0 : Int) := by omega
      have hsl : (s0 : Int) ≤ (bs.length : Int) := by omega
      have hsc : (s0 : Int) ≤ (c : Int) := by omega
      obtain ⟨ad, rfl⟩ : ∃ ad, A = some ad := by
        cases hAA : A with
        | none => have := HA.out hAA; omega
        | some ad => exact ⟨ad, rfl⟩
      go_wp2_with fail
      refine HR1.out.mono ?_
      clear HR1 H
      rintro e wy ⟨rfl, h⟩
      have H := Lib.hid h
      clear h
      have HEE := Lib.hid (fun (W : World) (l : List Thing) (K : Hold w.heap.size w W l) (hi : l[0]? = some (rdT q bs (s0, 0, s2))) => K.dend 0 hi)
      have HH := Lib.hid (fun (W : World) (l : List Thing) (K : Hold w.heap.size w W l) (hi : l[1]? = some (wrT p 200 (wrNum 200 [] 0 (rNum bs (0, 0, 0)).1))) => show Calls Try.prog 35 #[.pointer (some ⟨p, 0, none⟩), .slice (some ad) s0 c] W fun x W' => x = .returned (.bool true) ∧ Hold w.heap.size w W' l from by
        have hrd : Reads W W.heap.size 1 (some ad) (bs.take s0).length (bytesV (bs.take s0)) := reads_take ((HX.out.below K.below).more K.size) e3
        have := K.has 1 hi (c := c) hrd
        rw [e4, List.length_take, Nat.min_eq_left e3] at this
        rw [show (decide ((bs.take s0, (0 : Int)).2 = 0) && decide ((bs.take s0, (0 : Int)).1 = bs.take s0)) = true from by simp] at this
        exact this)
      by_cases hlt : s0 < bs.length
      · have hE : rEnd bs (s0, 0, s2) = (4, (s0 : Int)) := by unfold rEnd; rw [if_neg (show ¬ (0 : Int) ≠ 0 by decide), if_pos hlt]
        have he := HEE.out _ _ H.out rfl
        rw [hE] at he
        have HE := Lib.hid he
        have hs0 : ((s0 : Int) == 0) = false := by rw [beq_eq_false_iff_ne]; omega
        clear he hE HEE e4
        go_wp2_with fail
        refine HE.out.mono ?_
        clear H HE
        rintro e wz ⟨rfl, h⟩
        have H := Lib.hid h
        clear h
        go_wp2_with fail
        refine (HH.out _ _ (H.out.newBlk 47 #[.int .i64 4, .int .i64 s0]) rfl).mono ?_
        clear H
        rintro e wv ⟨rfl, h⟩
        have H := Lib.hid h
        clear h
        go_wp2_with fail
        go_ret
        exact ⟨rfl, H.out.below⟩
      · have hE : rEnd bs (s0, 0, s2) = (0, 0) := by unfold rEnd; rw [if_neg (show ¬ (0 : Int) ≠ 0 by decide), if_neg hlt]
        have he := HEE.out _ _ H.out rfl
        rw [hE] at he
        have HE := Lib.hid he
        clear he hE HEE e4
        go_wp2_with fail
        refine HE.out.mono ?_
        clear H HE
        rintro e wz ⟨rfl, h⟩
        have H := Lib.hid h
        clear h
        go_wp2_with fail
        refine (HH.out _ _ (H.out.newBlk 47 #[.int .i64 0, .int .i64 0]) rfl).mono ?_
        clear H
        rintro e wv ⟨rfl, h⟩
        have H := Lib.hid h
        clear h
        go_wp2_with fail
        go_ret
        exact ⟨rfl, H.out.below⟩
  · clear hkk
    have hzz := (zz_unzz (rNum bs (0, 0, 0)).1 (rNum_lt bs (0, 0, 0))).2
    have hz1 : -9223372036854775808 ≤ (rWhole bs (0, 0, 0)).1 := by unfold rWhole; simp only; omega
    have hz2 : (rWhole bs (0, 0, 0)).1 ≤ 9223372036854775807 := by unfold rWhole; simp only; omega
    clear hzz
    go_wp2_with fail
    refine (H.out.dwhole 0 rfl).mono ?_
    clear H
    rintro e wx ⟨rfl, h⟩
    have H := Lib.hid h
    clear h
    go_wp2_with fail
    refine (H.out.wwhole 1 rfl _ hz1 hz2).mono ?_
    clear H
    rintro e wx ⟨rfl, h⟩
    have H := Lib.hid h
    clear h
    clear hz1 hz2
    have HO := Lib.hid (one_whole bs)
    generalize (rWhole bs (0, 0, 0)).2 = SS at *
    rcases HO.out with ⟨e1, e2⟩ | ⟨e1, e2, e3, e4⟩
    · have hr := H.out.drest 0 rfl
      rw [if_pos e1] at hr
      have he := H.out.dend 0 rfl
      have hE : rEnd bs SS = (SS.2.1, 0) := by unfold rEnd; rw [if_pos e1, ← e2]
      clear HO
      obtain ⟨s0, s1, s2⟩ := SS
      simp only at e1 e2 hr he hE
      rw [hE] at he
      have HR := Lib.hid (fun (W : World) (l : List Thing) (K : Hold w.heap.size w W l) (hi : l[0]? = some (rdT q bs (s0, s1, s2))) => show Calls Try.prog _ _ W _ from by have := K.drest 0 hi; rw [if_pos e1] at this; exact this)
      have HR1 := Lib.hid hr
      have hne : (s1 != 0) = true := by simpa using e1
      have HE := Lib.hid (fun (W : World) (l : List Thing) (K : Hold w.heap.size w W l) (hi : l[0]? = some (rdT q bs (s0, s1, s2))) => show Calls Try.prog _ _ W _ from by have := K.dend 0 hi; rw [hE] at this; exact this)
      clear hr he hE e2
      have hz : (-9223372036854775808 : Int) ≤ (bs.length : Int) - 0 ∧ (bs.length : Int) - 0 ≤ 9223372036854775807 := by omega
      go_wp2_with fail
      refine HR1.out.mono ?_
      clear HR1 H
      rintro e wy ⟨rfl, h⟩
      have H := Lib.hid h
      clear h
      go_wp2_with fail
      refine (HE.out _ _ H.out rfl).mono ?_
      clear H
      rintro e wz ⟨rfl, h⟩
      have H := Lib.hid h
      clear h
      by_cases h4 : s1 = 4
      · subst h4
        go_wp2_with fail
        refine (HR.out _ _ (H.out.newBlk 47 #[.int .i64 4, .int .i64 0]) rfl).mono ?_
        clear H
        rintro e wv ⟨rfl, h⟩
        have H := Lib.hid h
        clear h
        have hf1 := (Hold.blk H.out 2 rfl).cell 1
        simp at hf1
        go_wp2_with fail
        go_ret
        exact ⟨rfl, H.out.below⟩
      · have h4' : (s1 != 4) = true := by simpa using h4
        clear h4
        go_wp2_with fail
        refine (HR.out _ _ (H.out.newBlk 47 #[.int .i64 s1, .int .i64 0]) rfl).mono ?_
        clear H
        rintro e wv ⟨rfl, h⟩
        have H := Lib.hid h
        clear h
        have hf1 := (Hold.blk H.out 2 rfl).cell 1
        simp at hf1
        go_wp2_with fail
        go_ret
        exact ⟨rfl, H.out.below⟩
    · obtain ⟨s0, s1, s2⟩ := SS
      simp only at e1 e2 e3 e4
      subst e1
      have hr := H.out.drest 0 rfl
      rw [if_neg (show ¬ (0 : Int) ≠ 0 by decide)] at hr
      simp only at hr
      obtain ⟨m, hm⟩ : ∃ m : Nat, (bs.length : Int) - (s0 : Int) = m := ⟨bs.length - s0, by omega⟩
      rw [hm] at hr
      have HR1 := Lib.hid hr
      have hsub : (bs.length : Int) - (m : Int) = (s0 : Int) := by omega
      have HM := Lib.hid hm
      clear hr HO hm
      have h1s : (1 : Int) ≤ (s0 : Int) := by omega
      have hsl : (s0 : Int) ≤ (bs.length : Int) := by omega
      have hsc : (s0 : Int) ≤ (c : Int) := by omega
      obtain ⟨ad, rfl⟩ : ∃ ad, A = some ad := by
        cases hAA : A with
        | none => have := HA.out hAA; omega
        | some ad => exact ⟨ad, rfl⟩
      go_wp2_with fail
      refine HR1.out.mono ?_
      clear HR1 H
      rintro e wy ⟨rfl, h⟩
      have H := Lib.hid h
      clear h
      have HEE := Lib.hid (fun (W : World) (l : List Thing) (K : Hold w.heap.size w W l) (hi : l[0]? = some (rdT q bs (s0, 0, s2))) => K.dend 0 hi)
      have HH := Lib.hid (fun (W : World) (l : List Thing) (K : Hold w.heap.size w W l) (hi : l[1]? = some (wrT p 200 (wrWhole 200 [] 0 (rWhole bs (0, 0, 0)).1))) => show Calls Try.prog 35 #[.pointer (some ⟨p, 0, none⟩), .slice (some ad) s0 c] W fun x W' => x = .returned (.bool true) ∧ Hold w.heap.size w W' l from by
        have hrd : Reads W W.heap.size 1 (some ad) (bs.take s0).length (bytesV (bs.take s0)) := reads_take ((HX.out.below K.below).more K.size) e3
        have := K.has 1 hi (c := c) hrd
        rw [e4, List.length_take, Nat.min_eq_left e3] at this
        rw [show (decide ((bs.take s0, (0 : Int)).2 = 0) && decide ((bs.take s0, (0 : Int)).1 = bs.take s0)) = true from by simp] at this
        exact this)
      by_cases hlt : s0 < bs.length
      · have hE : rEnd bs (s0, 0, s2) = (4, (s0 : Int)) := by unfold rEnd; rw [if_neg (show ¬ (0 : Int) ≠ 0 by decide), if_pos hlt]
        have he := HEE.out _ _ H.out rfl
        rw [hE] at he
        have HE := Lib.hid he
        have hs0 : ((s0 : Int) == 0) = false := by rw [beq_eq_false_iff_ne]; omega
        clear he hE HEE e4
        go_wp2_with fail
        refine HE.out.mono ?_
        clear H HE
        rintro e wz ⟨rfl, h⟩
        have H := Lib.hid h
        clear h
        go_wp2_with fail
        refine (HH.out _ _ (H.out.newBlk 47 #[.int .i64 4, .int .i64 s0]) rfl).mono ?_
        clear H
        rintro e wv ⟨rfl, h⟩
        have H := Lib.hid h
        clear h
        go_wp2_with fail
        go_ret
        exact ⟨rfl, H.out.below⟩
      · have hE : rEnd bs (s0, 0, s2) = (0, 0) := by unfold rEnd; rw [if_neg (show ¬ (0 : Int) ≠ 0 by decide), if_neg hlt]
        have he := HEE.out _ _ H.out rfl
        rw [hE] at he
        have HE := Lib.hid he
        clear he hE HEE e4
        go_wp2_with fail
        refine HE.out.mono ?_
        clear H HE
        rintro e wz ⟨rfl, h⟩
        have H := Lib.hid h
        clear h
        go_wp2_with fail
        refine (HH.out _ _ (H.out.newBlk 47 #[.int .i64 0, .int .i64 0]) rfl).mono ?_
        clear H
        rintro e wv ⟨rfl, h⟩
        have H := Lib.hid h
        clear h
        go_wp2_with fail
        go_ret
        exact ⟨rfl, H.out.below⟩
  · clear hkk
    have hz1 : (strB (rWord bs (0, 0, 0) 60).1).size ≤ 140737488351232 := by
      show (rWord bs (0, 0, 0) 60).1.toArray.size ≤ _
      rw [List.size_toArray]
      have := rWord_len bs (0, 0, 0) 60
      omega
    go_wp2_with fail
    refine (H.out.dword 0 rfl 60).mono ?_
    clear H
    rintro e wx ⟨rfl, h⟩
    have H := Lib.hid h
    clear h
    go_wp2_with fail
    refine (H.out.wword 1 rfl _ hz1).mono ?_
    clear H
    rintro e wx ⟨rfl, h⟩
    have H := Lib.hid h
    clear h
    clear hz1
    have HO := Lib.hid (one_word bs)
    generalize (rWord bs (0, 0, 0) 60).2 = SS at *
    rcases HO.out with ⟨e1, e2⟩ | ⟨e1, e2, e3, e4⟩
    · have hr := H.out.drest 0 rfl
      rw [if_pos e1] at hr
      have he := H.out.dend 0 rfl
      have hE : rEnd bs SS = (SS.2.1, 0) := by unfold rEnd; rw [if_pos e1, ← e2]
      clear HO
      obtain ⟨s0, s1, s2⟩ := SS
      simp only at e1 e2 hr he hE
      rw [hE] at he
      have HR := Lib.hid (fun (W : World) (l : List Thing) (K : Hold w.heap.size w W l) (hi : l[0]? = some (rdT q bs (s0, s1, s2))) => show Calls Try.prog _ _ W _ from by have := K.drest 0 hi; rw [if_pos e1] at this; exact this)
      have HR1 := Lib.hid hr
      have hne : (s1 != 0) = true := by simpa using e1
      have HE := Lib.hid (fun (W : World) (l : List Thing) (K : Hold w.heap.size w W l) (hi : l[0]? = some (rdT q bs (s0, s1, s2))) => show Calls Try.prog _ _ W _ from by have := K.dend 0 hi; rw [hE] at this; exact this)
      clear hr he hE e2
      have hz : (-9223372036854775808 : Int) ≤ (bs.length : Int) - 0 ∧ (bs.length : Int) - 0 ≤ 9223372036854775807 := by omega
      go_wp2_with fail
      refine HR1.out.mono ?_
      clear HR1 H
      rintro e wy ⟨rfl, h⟩
      have H := Lib.hid h
      clear h
      go_wp2_with fail
      refine (HE.out _ _ H.out rfl).mono ?_
      clear H
      rintro e wz ⟨rfl, h⟩
      have H := Lib.hid h
      clear h
      by_cases h4 : s1 = 4
      · subst h4
        go_wp2_with fail
        refine (HR.out _ _ (H.out.newBlk 47 #[.int .i64 4, .int .i64 0]) rfl).mono ?_
        clear H
        rintro e wv ⟨rfl, h⟩
        have H := Lib.hid h
        clear h
        have hf1 := (Hold.blk H.out 2 rfl).cell 1
        simp at hf1
        go_wp2_with fail
        go_ret
        exact ⟨rfl, H.out.below⟩
      · have h4' : (s1 != 4) = true := by simpa using h4
        clear h4
        go_wp2_with fail
        refine (HR.out _ _ (H.out.newBlk 47 #[.int .i64 s1, .int .i64 0]) rfl).mono ?_
        clear H
        rintro e wv ⟨rfl, h⟩
        have H := Lib.hid h
        clear h
        have hf1 := (Hold.blk H.out 2 rfl).cell 1
        simp at hf1
        go_wp2_with fail
        go_ret
        exact ⟨rfl, H.out.below⟩
    · obtain ⟨s0, s1, s2⟩ := SS
      simp only at e1 e2 e3 e4
      subst e1
      have hr := H.out.drest 0 rfl
      rw [if_neg (show ¬ (0 : Int) ≠ 0 by decide)] at hr
      simp only at hr
      obtain ⟨m, hm⟩ : ∃ m : Nat, (bs.length : Int) - (s0 : Int) = m := ⟨bs.length - s0, by omega⟩
      rw [hm] at hr
      have HR1 := Lib.hid hr
      have hsub : (bs.length : Int) - (m : Int) = (s0 : Int) := by omega
      have HM := Lib.hid hm
      clear hr HO hm
      have h1s : (1 : Int) ≤ (s0 : Int) := by omega
      have hsl : (s0 : Int) ≤ (bs.length : Int) := by omega
      have hsc : (s0 : Int) ≤ (c : Int) := by omega
      obtain ⟨ad, rfl⟩ : ∃ ad, A = some ad := by
        cases hAA : A with
        | none => have := HA.out hAA; omega
        | some ad => exact ⟨ad, rfl⟩
      go_wp2_with fail
      refine HR1.out.mono ?_
      clear HR1 H
      rintro e wy ⟨rfl, h⟩
      have H := Lib.hid h
      clear h
      have HEE := Lib.hid (fun (W : World) (l : List Thing) (K : Hold w.heap.size w W l) (hi : l[0]? = some (rdT q bs (s0, 0, s2))) => K.dend 0 hi)
      have HH := Lib.hid (fun (W : World) (l : List Thing) (K : Hold w.heap.size w W l) (hi : l[1]? = some (wrT p 200 (wrWord 200 [] 0 (strB (rWord bs (0, 0, 0) 60).1)))) => show Calls Try.prog 35 #[.pointer (some ⟨p, 0, none⟩), .slice (some ad) s0 c] W fun x W' => x = .returned (.bool true) ∧ Hold w.heap.size w W' l from by
        have hrd : Reads W W.heap.size 1 (some ad) (bs.take s0).length (bytesV (bs.take s0)) := reads_take ((HX.out.below K.below).more K.size) e3
        have := K.has 1 hi (c := c) hrd
        rw [e4, List.length_take, Nat.min_eq_left e3] at this
        rw [show (decide ((bs.take s0, (0 : Int)).2 = 0) && decide ((bs.take s0, (0 : Int)).1 = bs.take s0)) = true from by simp] at this
        exact this)
      by_cases hlt : s0 < bs.length
      · have hE : rEnd bs (s0, 0, s2) = (4, (s0 : Int)) := by unfold rEnd; rw [if_neg (show ¬ (0 : Int) ≠ 0 by decide), if_pos hlt]
        have he := HEE.out _ _ H.out rfl
        rw [hE] at he
        have HE := Lib.hid he
        have hs0 : ((s0 : Int) == 0) = false := by rw [beq_eq_false_iff_ne]; omega
        clear he hE HEE e4
        go_wp2_with fail
        refine HE.out.mono ?_
        clear H HE
        rintro e wz ⟨rfl, h⟩
        have H := Lib.hid h
        clear h
        go_wp2_with fail
        refine (HH.out _ _ (H.out.newBlk 47 #[.int .i64 4, .int .i64 s0]) rfl).mono ?_
        clear H
        rintro e wv ⟨rfl, h⟩
        have H := Lib.hid h
        clear h
        go_wp2_with fail
        go_ret
        exact ⟨rfl, H.out.below⟩
      · have hE : rEnd bs (s0, 0, s2) = (0, 0) := by unfold rEnd; rw [if_neg (show ¬ (0 : Int) ≠ 0 by decide), if_neg hlt]
        have he := HEE.out _ _ H.out rfl
        rw [hE] at he
        have HE := Lib.hid he
        clear he hE HEE e4
        go_wp2_with fail
        refine HE.out.mono ?_
        clear H HE
        rintro e wz ⟨rfl, h⟩
        have H := Lib.hid h
        clear h
        go_wp2_with fail
        refine (HH.out _ _ (H.out.newBlk 47 #[.int .i64 0, .int .i64 0]) rfl).mono ?_
        clear H
        rintro e wv ⟨rfl, h⟩
        have H := Lib.hid h
        clear h
        go_wp2_with fail
        go_ret
        exact ⟨rfl, H.out.below⟩
theorem one_walk (A : Option Addr) (c : Nat) (bs : List UInt8) (k : Int) (w : World) (hx : Reads w w.heap.size 1 A bs.length (bytesV bs)) (hcap : bs.length ≤ c) :
    Calls Try.prog 7 #[.slice A bs.length c, .int .i64 k] w (RetBw (.bool true) w) := by
  by_cases hl : (60 : Int) < (bs.length : Int)
  · exact one_long A c bs k w hl
  · exact one_short A c bs k w hx (by omega) hl (fun hA => by
      subst hA
      rcases Nat.eq_zero_or_pos bs.length with h | h
      · exact h
      · obtain ⟨ad, h, _⟩ := hx.2 h; cases h)
end Go.Proofs.Ytcapdmicekialaa
