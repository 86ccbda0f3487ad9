/- OctetKnown, walked. -/
import Derived.Test.YtcapdmicekialaaOcAwake
namespace Go.Proofs.Ytcapdmicekialaa
open Go.RowKit
attribute [local go_sem] Oper.semAt_some run_store_func run_store_nilFunc
theorem wn_neg : wrNum 9 [] 0 (-1) = ([], 3) := by unfold wrNum; decide
theorem wn_bad : wrNum 9 [] 3 1 = ([], 3) := by unfold wrNum wr1; decide
theorem strB_nil : strB [] = ⟨#[]⟩ := rfl
theorem strB_ab : strB [97, 98] = ⟨#[97, 98]⟩ := rfl
set_option maxRecDepth 100000 in
set_option maxHeartbeats 3200000 in
theorem known_yes (w : World) : Calls Try.prog 5 #[] w (RetBw (.bool true) w) := by
  have H := Lib.hid (Hold.nil w)
  go_enter Try.func5, Try.ntmps5
  go_wp2_with fail
  have hc := H.out.wnew 9 (by decide) (by decide)
  refine hc.mono ?_
  clear hc H
  rintro e w1 ⟨p, rfl, h⟩
  have H := Lib.hid h
  clear h
  go_wp2_with fail
  have hc := H.out.wnum 0 rfl (-1) (by decide) (by decide)
  rw [wn_neg] at hc
  refine hc.mono ?_
  clear hc H
  rintro e w2 ⟨rfl, h⟩
  have H := Lib.hid h
  clear h
  go_wp2_with fail
  have hc := H.out.wnum 0 rfl 1 (by decide) (by decide)
  rw [wn_bad] at hc
  refine hc.mono ?_
  clear hc H
  rintro e w3 ⟨rfl, h⟩
  have H := Lib.hid h
  clear h
  go_wp2_with fail
  have hc := H.out.wbytes 0 rfl
  rw [show (if (3 : Int) = 0 then ([] : List UInt8) else []) = [] from rfl] at hc
  refine hc.mono ?_
  clear hc H
  rintro e w4 ⟨A, c, rfl, h, _⟩
  have H := Lib.hid h
  clear h
  go_wp2_with fail
  have hc := (H.out.alloc _).dnew (A := some ⟨w4.heap.size, 0, none⟩) (c := 2) (bs := [128, 0]) (reads_new w4 [128, 0]) (by decide)
  refine hc.mono ?_
  clear hc H
  rintro e w5 ⟨p5, rfl, h⟩
  have H := Lib.hid h
  clear h
  go_wp2_with fail
  have hc := (H.out.alloc _).dnew (A := some ⟨w5.heap.size, 0, none⟩) (c := 2) (bs := [2, 97]) (reads_new w5 [2, 97]) (by decide)
  refine hc.mono ?_
  clear hc H
  rintro e w6 ⟨p6, rfl, h⟩
  have H := Lib.hid h
  clear h
  go_wp2_with fail
  have hc := (H.out.alloc _).dnew (A := some ⟨w6.heap.size, 0, none⟩) (c := 3) (bs := [2, 97, 98]) (reads_new w6 [2, 97, 98]) (by decide)
  refine hc.mono ?_
  clear hc H
  rintro e w7 ⟨p7, rfl, h⟩
  have H := Lib.hid h
  clear h
  go_wp2_with fail
  have hc := H.out.dnew (A := none) (c := 0) (bs := []) (N := _) Reads.none_ (by decide)
  refine hc.mono ?_
  clear hc H
  rintro e w8 ⟨q, rfl, h⟩
  have H := Lib.hid h
  clear h
  go_wp2_with fail
  have hc := H.out.dnum 2 rfl
  rw [show rNum [128, 0] (0, 0, 0) = (0, (0, 5, 0)) from by decide] at hc
  refine hc.mono ?_
  clear hc H
  rintro e w9 ⟨rfl, h⟩
  have H := Lib.hid h
  clear h
  go_wp2_with fail
  have hc := H.out.dword 3 rfl 5
  rw [show rWord [2, 97] (0, 0, 0) 5 = ([], (0, 13, 0)) from by decide] at hc
  rw [strB_nil] at hc
  refine hc.mono ?_
  clear hc H
  rintro e w10 ⟨rfl, h⟩
  have H := Lib.hid h
  clear h
  go_wp2_with fail
  have hc := H.out.dword 4 rfl 1
  rw [show rWord [2, 97, 98] (0, 0, 0) 1 = ([], (0, 4, 0)) from by decide] at hc
  rw [strB_nil] at hc
  refine hc.mono ?_
  clear hc H
  rintro e w11 ⟨rfl, h⟩
  have H := Lib.hid h
  clear h
  go_wp2_with fail
  have hc := H.out.drest 5 rfl
  rw [show (if ((0, 0, 0) : RS).2.1 ≠ 0 then (0 : Int) else (([] : List UInt8).length : Int) - ((0, 0, 0) : RS).1) = 0 from by decide] at hc
  refine hc.mono ?_
  clear hc H
  rintro e w12 ⟨rfl, h⟩
  have H := Lib.hid h
  clear h
  go_wp2_with fail
  have hc := (H.out.alloc _).dnew (A := some ⟨w12.heap.size, 0, none⟩) (c := 6) (bs := [172, 2, 1, 2, 97, 98]) (reads_new w12 [172, 2, 1, 2, 97, 98]) (by decide)
  refine hc.mono ?_
  clear hc H
  rintro e w13 ⟨p13, rfl, h⟩
  have H := Lib.hid h
  clear h
  go_wp2_with fail
  have hc := H.out.dnum 6 rfl
  rw [rn_300] at hc
  refine hc.mono ?_
  clear hc H
  rintro e w14 ⟨rfl, h⟩
  have H := Lib.hid h
  clear h
  go_wp2_with fail
  have hc := H.out.dwhole 6 rfl
  rw [rw_m1] at hc
  refine hc.mono ?_
  clear hc H
  rintro e w15 ⟨rfl, h⟩
  have H := Lib.hid h
  clear h
  go_wp2_with fail
  have hc := H.out.dword 6 rfl 2
  rw [rs_ab] at hc
  rw [strB_ab] at hc
  refine hc.mono ?_
  clear hc H
  rintro e w16 ⟨rfl, h⟩
  have H := Lib.hid h
  clear h
  go_wp2_with fail
  have hc := H.out.dnum 6 rfl
  rw [show rNum [172, 2, 1, 2, 97, 98] (6, 0, 0) = (0, (6, 13, 6)) from by decide] at hc
  refine hc.mono ?_
  clear hc H
  rintro e w17 ⟨rfl, h⟩
  have H := Lib.hid h
  clear h
  go_wp2_with fail
  have hc := H.out.ends 6 rfl 13 6
  rw [show (decide ((rEnd [172, 2, 1, 2, 97, 98] (6, 13, 6)).1 = 13) && decide ((rEnd [172, 2, 1, 2, 97, 98] (6, 13, 6)).2 = 6)) = true from by decide] at hc
  refine hc.mono ?_
  clear hc H
  rintro e w18 ⟨rfl, h⟩
  have H := Lib.hid h
  clear h
  go_wp2_with fail
  refine (awake_yes w18).mono ?_
  rintro e w19 ⟨rfl, hb⟩
  have h := H.out.quiet (only_below hb)
  clear hb H
  have H := Lib.hid h
  clear h
  go_wp2_with fail
  have hc := H.out.ends 2 rfl 5 0
  rw [show (decide ((rEnd [128, 0] (0, 5, 0)).1 = 5) && decide ((rEnd [128, 0] (0, 5, 0)).2 = 0)) = true from by decide] at hc
  refine hc.mono ?_
  clear hc H
  rintro e w20 ⟨rfl, h⟩
  have H := Lib.hid h
  clear h
  go_wp2_with fail
  have hc := H.out.ends 3 rfl 13 0
  rw [show (decide ((rEnd [2, 97] (0, 13, 0)).1 = 13) && decide ((rEnd [2, 97] (0, 13, 0)).2 = 0)) = true from by decide] at hc
  refine hc.mono ?_
  clear hc H
  rintro e w21 ⟨rfl, h⟩
  have H := Lib.hid h
  clear h
  go_wp2_with fail
  have hc := H.out.ends 4 rfl 4 0
  rw [show (decide ((rEnd [2, 97, 98] (0, 4, 0)).1 = 4) && decide ((rEnd [2, 97, 98] (0, 4, 0)).2 = 0)) = true from by decide] at hc
  refine hc.mono ?_
  clear hc H
  rintro e w22 ⟨rfl, h⟩
  have H := Lib.hid h
  clear h
  go_wp2_with fail
  have hc := H.out.ends 5 rfl 0 0
  rw [show (decide ((rEnd [] (0, 0, 0)).1 = 0) && decide ((rEnd [] (0, 0, 0)).2 = 0)) = true from by decide] at hc
  refine hc.mono ?_
  clear hc H
  rintro e w23 ⟨rfl, h⟩
  have H := Lib.hid h
  clear h
  go_wp2_with fail
  go_ret
  exact ⟨rfl, H.out.below⟩
end Go.Proofs.Ytcapdmicekialaa
