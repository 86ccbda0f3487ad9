/- The law's helpers: ends, has; awake. -/
import Derived.Test.YtcapdmicekialaaOcThings
namespace Go.Proofs.Ytcapdmicekialaa
open Go.RowKit
attribute [local go_sem] Oper.semAt_some run_store_func run_store_nilFunc
section
variable {N : Nat} {w0 W : World} {l : List Thing}
theorem Hold.ends (H : Hold N w0 W l) (i : Nat) {p : Nat} {bs : List UInt8} {s : RS} (hi : l[i]? = some (rdT p bs s)) (e a : Int) :
    Calls Try.prog 31 #[.pointer (some ⟨p, 0, none⟩), .int .i64 e, .int .i64 a] W fun x W' => x = .returned (.bool (decide ((rEnd bs s).1 = e) && decide ((rEnd bs s).2 = a))) ∧ Hold N w0 W' l := by
  have HE := Lib.hid (H.dend i hi)
  generalize rEnd bs s = r at *
  clear H
  go_enter Try.func31, Try.ntmps31
  go_wp2_with fail
  refine HE.out.mono ?_
  rintro e w1 ⟨rfl, H1⟩
  have HH := Lib.hid H1
  clear H1
  go_wp2_with fail
  all_goals
    go_ret
    exact ⟨by simp [*], HH.out⟩
theorem Hold.has (H : Hold N w0 W l) (i : Nat) {p : Nat} {most : Int} {r : List UInt8 × Int} (hi : l[i]? = some (wrT p most r)) {A : Option Addr} {c : Nat} {bs : List UInt8} (hx : Reads W W.heap.size 1 A bs.length (bytesV bs)) :
    Calls Try.prog 35 #[.pointer (some ⟨p, 0, none⟩), .slice A bs.length c] W fun x W' => x = .returned (.bool (decide (r.2 = 0) && decide (r.1 = bs))) ∧ Hold N w0 W' l := by
  have HB := Lib.hid (H.wbytes i hi)
  by_cases h0 : r.2 = 0
  · have HR : Hid ((decide (r.2 = 0) && decide (r.1 = bs)) = decide (r.1 = bs)) := by rw [decide_eq_true h0]; exact rfl
    rw [h0, if_pos rfl] at HB
    clear H
    go_enter Try.func35, Try.ntmps35
    go_wp2_with fail
    refine HB.out.mono ?_
    rintro e w1 ⟨A', c', rfl, H1, hb1⟩
    have HS := Lib.hid (same_any A' A c' c r.1 bs w1 (H1.reads l.length List.getElem?_concat_length) (hx.below hb1))
    have HH := Lib.hid (H1.take l.length)
    rw [List.take_left' rfl] at HH
    clear H1 hb1
    go_wp2_with fail
    refine HS.out.mono ?_
    rintro e w2 ⟨rfl, rfl⟩
    go_wp2_with fail
    go_ret
    exact ⟨by rw [HR.out]; rfl, HH.out⟩
  · have HR : Hid ((decide (r.2 = 0) && decide (r.1 = bs)) = false) := by rw [decide_eq_false h0]; exact rfl
    rw [if_neg h0] at HB
    have h0' : (r.2 == 0) = false := by simpa using h0
    clear H
    go_enter Try.func35, Try.ntmps35
    go_wp2_with fail
    refine HB.out.mono ?_
    rintro e w1 ⟨A', c', rfl, H1, hb1⟩
    have HH := Lib.hid (H1.take l.length)
    rw [List.take_left' rfl] at HH
    clear H1 hb1
    go_wp2_with fail
    go_ret
    exact ⟨by rw [HR.out]; rfl, HH.out⟩
end
theorem grp_small (n : Nat) (h : n < 128) : grp n = [UInt8.ofNat n] := grp_lt h
theorem grp_300 : grp 300 = [172, 2] := by rw [grp_ge (by decide), grp_lt (by decide)]; rfl
theorem wn_300 : wrNum 9 [] 0 300 = ([172, 2], 0) := by unfold wrNum; rw [show (300 : Int).toNat = 300 from rfl, grp_300]; decide
theorem ww_m1 : wrWhole 9 [172, 2] 0 (-1) = ([172, 2, 1], 0) := by unfold wrWhole; rw [show zz (-1) = 1 from by decide, grp_small 1 (by decide)]; decide
def abS : ByteArray := ⟨#[97, 98]⟩
theorem ws_ab : wrWord 9 [172, 2, 1] 0 abS = ([172, 2, 1, 2, 97, 98], 0) := by unfold wrWord; rw [show abS.size = 2 from rfl, grp_small 2 (by decide)]; decide
theorem rn_300 : rNum [172, 2, 1, 2, 97, 98] (0, 0, 0) = (300, (2, 0, 0)) := by decide
theorem rw_m1 : rWhole [172, 2, 1, 2, 97, 98] (2, 0, 0) = (-1, (3, 0, 0)) := by decide
theorem rs_ab : rWord [172, 2, 1, 2, 97, 98] (3, 0, 0) 2 = ([97, 98], (6, 0, 0)) := by decide
def RetBw (v : Value) (w : World) (e : Ending) (w' : World) : Prop := e = .returned v ∧ Below w.heap.size w w'
set_option maxRecDepth 100000 in
set_option maxHeartbeats 1600000 in
theorem awake_yes (w : World) : Calls Try.prog 14 #[] w (RetBw (.bool true) w) := by
  have H := Lib.hid (Hold.nil w)
  go_enter Try.func14, Try.ntmps14
  go_wp2_with fail
  refine (H.out.wnew 9 (by decide) (by decide)).mono ?_
  clear H
  rintro e w1 ⟨p, rfl, h⟩
  have H := Lib.hid h
  clear h
  go_wp2_with fail
  refine ((H.out.alloc _).dnew (A := some ⟨w1.heap.size, 0, none⟩) (c := 6) (bs := [172, 2, 1, 2, 97, 98]) (reads_new w1 [172, 2, 1, 2, 97, 98]) (by decide)).mono ?_
  clear H
  rintro e w2 ⟨q, rfl, h⟩
  have H := Lib.hid h
  clear h
  go_wp2_with fail
  have hc := H.out.wnum 0 rfl 300 (by decide) (by decide)
  rw [wn_300] at hc
  refine hc.mono ?_
  clear hc H
  rintro e w3 ⟨rfl, h⟩
  have H := Lib.hid h
  clear h
  go_wp2_with fail
  have hc := H.out.wwhole 0 rfl (-1) (by decide) (by decide)
  rw [ww_m1] at hc
  refine hc.mono ?_
  clear hc H
  rintro e w4 ⟨rfl, h⟩
  have H := Lib.hid h
  clear h
  go_wp2_with fail
  have hc := H.out.wword 0 rfl abS (by decide)
  rw [ws_ab] at hc
  refine hc.mono ?_
  clear hc H
  rintro e w5 ⟨rfl, h⟩
  have H := Lib.hid h
  clear h
  go_wp2_with fail
  have hc := (H.out.alloc _).has 0 rfl (A := some ⟨w5.heap.size, 0, none⟩) (c := 6) (bs := [172, 2, 1, 2, 97, 98]) (reads_new w5 [172, 2, 1, 2, 97, 98])
  rw [show (decide ((0 : Int) = 0) && decide (([172, 2, 1, 2, 97, 98] : List UInt8) = [172, 2, 1, 2, 97, 98])) = true from by decide] at hc
  refine hc.mono ?_
  clear hc H
  rintro e w6 ⟨rfl, h⟩
  have H := Lib.hid h
  clear h
  go_wp2_with fail
  have hc := H.out.dnum 1 rfl
  rw [rn_300] at hc
  refine hc.mono ?_
  clear hc H
  rintro e w7 ⟨rfl, h⟩
  have H := Lib.hid h
  clear h
  go_wp2_with fail
  have hc := H.out.dwhole 1 rfl
  rw [rw_m1] at hc
  refine hc.mono ?_
  clear hc H
  rintro e w8 ⟨rfl, h⟩
  have H := Lib.hid h
  clear h
  go_wp2_with fail
  have hc := H.out.dword 1 rfl 2
  rw [rs_ab, show strB (([97, 98], (6, 0, 0)) : List UInt8 × RS).1 = ⟨#[97, 98]⟩ from rfl] at hc
  refine hc.mono ?_
  clear hc H
  rintro e w9 ⟨rfl, h⟩
  have H := Lib.hid h
  clear h
  go_wp2_with fail
  have hc := H.out.ends 1 rfl 0 0
  rw [show (decide ((rEnd [172, 2, 1, 2, 97, 98] (6, 0, 0)).1 = 0) && decide ((rEnd [172, 2, 1, 2, 97, 98] (6, 0, 0)).2 = 0)) = true from by decide] at hc
  refine hc.mono ?_
  clear hc H
  rintro e w10 ⟨rfl, h⟩
  have H := Lib.hid h
  clear h
  go_wp2_with fail
  go_ret
  exact ⟨rfl, H.out.below⟩
end Go.Proofs.Ytcapdmicekialaa
