/- Merged by merge.py: FrScr1, FrScr2, FrScr3, FrScript. -/
import Derived.Test.YtiaeckljpdhagaaFrRefAll
import Derived.Test.YtiaeckljpdhagaaFrNone
import Derived.Test.YtiaeckljpdhagaaFrOpenW
import Derived.Test.YtiaeckljpdhagaaFrApart
/- An act on both: Return, Jump, nothing, Pop, Take, Local. -/
namespace Go.Proofs.Ytiaeckljpdhagaa
open Go.RowKit
set_option linter.unusedVariables false
set_option linter.unusedSimpArgs false
attribute [local go_sem] Oper.semAt_some run_store_func run_store_nilFunc
/-- Both have come to the same frames. -/
def Both (N : Nat) (w0 : World) (R : Thing) (p q : Nat) (most : Int) (e : Ending) (w' : World) : Prop := e = .returned (.bool true) ∧ ∃ fr, Lies N w0 w' (sepT (framesT p most fr) (sepT (refT q most fr) R))
section
variable {N : Nat} {w0 W : World} {R : Thing} {p q : Nat} {most : Int} {fr : List Cal} (m tag num bits : Int) (s : ByteArray) (ch ls : Value)
set_option maxRecDepth 100000 in
theorem acted_1 (H : Lies N w0 W (sepT (framesT p most fr) (sepT (refT q most fr) R))) : Calls Try.prog 27 #[.pointer (some ⟨p, 0, none⟩), .pointer (some ⟨q, 0, none⟩), .agg #[.int .i64 1, .int .i64 m, .int .i64 tag, .int .i64 num, .int .u64 bits, .string s, ch, ls]] W (Both N w0 R p q most) := by
  have HT := Lib.hid (return_all (H.alloc (.cells #[.int .i64 1, .int .i64 m, .int .i64 tag, .int .i64 num, .int .u64 bits, .string s, ch, ls] 58)))
  clear H
  go_enter Try.func27, Try.ntmps27
  go_wp2_with fail
  refine HT.out.mono ?_
  rintro e w1 ⟨rfl, h⟩
  have HU := Lib.hid (rreturn_all (h.turn (a' := sepT (refT q most fr) (sepT (framesT p most fr.dropLast) R)) (by ac_rfl)))
  clear h HT
  generalize ftop fr 17 (fun _ => (0 : Int)) = E at *
  go_wp2_with fail
  refine HU.out.mono ?_
  rintro e w2 ⟨rfl, h⟩
  have HF := Lib.hid h
  clear h HU
  go_wp2_with fail
  go_ret
  exact ⟨rfl, _, HF.out.turn (by ac_rfl)⟩
set_option maxRecDepth 100000 in
theorem acted_8 (k : Int) (h0 : ¬ k = 0) (h1 : ¬ k = 1) (h2 : ¬ k = 2) (h3 : ¬ k = 3) (h4 : ¬ k = 4) (h5 : ¬ k = 5) (h6 : ¬ k = 6) (h7 : ¬ k = 7) (H : Lies N w0 W (sepT (framesT p most fr) (sepT (refT q most fr) R))) : Calls Try.prog 27 #[.pointer (some ⟨p, 0, none⟩), .pointer (some ⟨q, 0, none⟩), .agg #[.int .i64 k, .int .i64 m, .int .i64 tag, .int .i64 num, .int .u64 bits, .string s, ch, ls]] W (Both N w0 R p q most) := by
  have HF := Lib.hid (H.alloc (.cells #[.int .i64 k, .int .i64 m, .int .i64 tag, .int .i64 num, .int .u64 bits, .string s, ch, ls] 58))
  clear H
  go_enter Try.func27, Try.ntmps27
  go_wp2
  go_ret
  exact ⟨rfl, _, HF.out⟩
def loA7 (i : Nat) : Nat := [0, 0, 0, 0, 0, 0, 0, 1, 2, 2].getD i 0
def upA7 (i : Nat) : Nat := [0, 0, 0, 1, 1, 1, 1, 2, 2, 2].getD i 0
set_option maxRecDepth 100000 in
theorem acted_7 (H : Lies N w0 W (sepT (framesT p most fr) (sepT (refT q most fr) R))) : Calls Try.prog 27 #[.pointer (some ⟨p, 0, none⟩), .pointer (some ⟨q, 0, none⟩), .agg #[.int .i64 7, .int .i64 m, .int .i64 tag, .int .i64 num, .int .u64 bits, .string s, ch, ls]] W (Both N w0 R p q most) := by
  have h0 := H.newBlk 58 #[.int .i64 7, .int .i64 m, .int .i64 tag, .int .i64 num, .int .u64 bits, .string s, ch, ls]
  have HT := Lib.hid (fun n => jump_all m ((h0.turn (a' := sepT (framesT p most fr) (sepT (blkT W.heap.size 58 #[.int .i64 7, .int .i64 m, .int .i64 tag, .int .i64 num, .int .u64 bits, .string s, ch, ls]) (sepT (refT q most fr) R))) (by ac_rfl)).drewN n))
  clear H h0
  go_enter Try.func27, Try.ntmps27
  go_wp2_with fail
  refine wp_region_text [3, 7] loA7 upA7 (by kernel_rfl) (by kernel_rfl) (by kernel_rfl) (by kernel_rfl) (by kernel_rfl) ?_
  repeat (refine wpTx_now (by rfl) (by rfl) (by rfl) (fun K hK => ?_); go_simp; refine hK _ ?_; clear hK K)
  refine wpTx_eff (by rfl) (fun K hK => ?_)
  go_simp
  refine (HT.out 1).mono ?_
  rintro e w1 ⟨rfl, h⟩
  have h1 := h.turn (a' := sepT (blkT W.heap.size 58 #[.int .i64 7, .int .i64 m, .int .i64 tag, .int .i64 num, .int .u64 bits, .string s, ch, ls]) (sepT (framesT p most (fup fr (·.jump m))) (sepT (refT q most fr) R))) (by ac_rfl)
  have b1 := h1.blk.1.cell 1
  simp at b1
  have HU := Lib.hid (rjump_all m (h1.turn (a' := sepT (refT q most fr) (sepT (blkT W.heap.size 58 #[.int .i64 7, .int .i64 m, .int .i64 tag, .int .i64 num, .int .u64 bits, .string s, ch, ls]) (sepT (framesT p most (fup fr (·.jump m))) R))) (by ac_rfl)))
  refine ⟨_, rfl, hK _ _ (by simp [lateOK]) ?_⟩
  clear hK K h h1 HT
  generalize ftop fr 17 (fun _ => jumpE m) = E at *
  repeat (refine wpTx_ws [_] (by rfl) (by rfl) (by rfl) (fun K hK => ?_); go_simp; refine hK _ ?_; clear hK K)
  refine wpTx_eff (by rfl) (fun K hK => ?_)
  go_simp
  refine HU.out.mono ?_
  rintro e w2 ⟨rfl, h⟩
  have HF := Lib.hid ((h.turn (a' := sepT (blkT W.heap.size 58 #[.int .i64 7, .int .i64 m, .int .i64 tag, .int .i64 num, .int .u64 bits, .string s, ch, ls]) (sepT (framesT p most (fup fr (·.jump m))) (sepT (refT q most (fup fr (·.jump m))) R))) (by ac_rfl)).drop)
  refine ⟨_, rfl, hK _ _ (by simp [lateOK]) ?_⟩
  clear hK K h HU
  repeat (refine wpTx_now (by rfl) (by rfl) (by rfl) (fun K hK => ?_); go_simp; refine hK _ ?_; clear hK K)
  refine wpTx_nil ?_
  go_wp2_with fail
  go_ret
  exact ⟨rfl, _, HF.out⟩
theorem ftop_ok {fr : List Cal} {f : Cal → Val} (hfr : ∀ k ∈ fr, k.ok) (hf : ∀ k, k.ok → (f k).ok) : (ftop fr Val.zero f).ok := by
  rcases fr_cases fr with rfl | ⟨g, k, rfl⟩
  · rw [ftop_nil]; show (0 : Nat) ≤ 1000000; omega
  · rw [ftop_snoc]; exact hf _ (hfr k (by simp))
theorem taken_ok {k : Cal} {n : Int} (h : k.ok) : ∀ v ∈ k.taken n, v.ok := by
  intro v hv
  unfold Cal.taken at hv
  by_cases hE : k.takeE n = 0
  · rw [if_pos hE] at hv
    exact h.2.2.2 v (List.mem_of_mem_drop hv)
  · rw [if_neg hE] at hv; cases hv
theorem popV_ok {k : Cal} (h : k.ok) : k.popV.ok := by
  unfold Cal.popV
  have := taken_ok (n := 1) h
  cases hc : k.taken 1 with
  | nil => exact zero_ok
  | cons v l => rw [hc] at this; exact this v (List.mem_cons_self ..)
theorem localV_ok {k : Cal} (i : Int) (h : k.ok) : (k.localV i).ok := by
  unfold Cal.localV
  by_cases hb : k.badAt i = true
  · rw [if_pos hb]; exact zero_ok
  · rw [if_neg hb, List.getD_eq_getElem?_getD]
    cases hc : k.locals[i.toNat]? with
    | none => exact zero_ok
    | some v => exact h.2.2.1 v (List.mem_of_getElem? hc)
set_option maxRecDepth 100000 in
set_option maxHeartbeats 1600000 in
theorem acted_3 (H : Lies N w0 W (sepT (framesT p most fr) (sepT (refT q most fr) R))) : Calls Try.prog 27 #[.pointer (some ⟨p, 0, none⟩), .pointer (some ⟨q, 0, none⟩), .agg #[.int .i64 3, .int .i64 m, .int .i64 tag, .int .i64 num, .int .u64 bits, .string s, ch, ls]] W (Both N w0 R p q most) := by
  have hvk := ftop_ok (fr := fr) (f := Cal.popV) (frames_ok H) fun k hk => popV_ok hk
  have HT := Lib.hid (pop_all (H.alloc (.cells #[.int .i64 3, .int .i64 m, .int .i64 tag, .int .i64 num, .int .u64 bits, .string s, ch, ls] 58)))
  clear H
  generalize hpv : ftop fr Val.zero Cal.popV = pv at *
  generalize hE2 : ftop fr 17 (·.takeE 1) = E at *
  have HK := Lib.hid hvk
  clear hvk
  go_enter Try.func27, Try.ntmps27
  go_wp2_with fail
  refine HT.out.mono ?_
  rintro e w1 ⟨x, rfl, h⟩
  obtain ⟨A1, k1, rfl, h1⟩ := val_out h
  clear h
  obtain ⟨tg, nn, bb, st, ly⟩ := pv
  have h2 := (h1.newBlk 30 #[.int .i64 tg, .int .i64 nn, .int .u64 bb, .string st, .slice A1 ly.length k1])
  have HU := Lib.hid (rpop_all (h2.turn (a' := sepT (refT q most fr) (sepT (blkT w1.heap.size 30 #[.int .i64 tg, .int .i64 nn, .int .u64 bb, .string st, .slice A1 ly.length k1]) (sepT (chainT ⟨tg, nn, bb, st, ly⟩ (.slice A1 ly.length k1)) (sepT (framesT p most (fup fr (·.take 1))) R)))) (by ac_rfl)))
  simp only [hpv, hE2] at HU
  clear h1 h2 HT
  simp only [Val.go] at *
  go_wp2_with fail
  refine HU.out.mono ?_
  rintro e w2 ⟨x2, rfl, h⟩
  obtain ⟨A2, k2, rfl, h1⟩ := val_out h
  clear h HU
  simp only [Val.go]
  simp only at h1
  have h2 := h1.alloc (.cells #[.int .i64 tg, .int .i64 nn, .int .u64 bb, .string st, .slice A2 ly.length k2] 30)
  have h3 := h2.turn (a' := sepT (blkT w1.heap.size 30 #[.int .i64 tg, .int .i64 nn, .int .u64 bb, .string st, .slice A1 ly.length k1]) (sepT (chainT ⟨tg, nn, bb, st, ly⟩ (.slice A1 ly.length k1)) (sepT (chainT ⟨tg, nn, bb, st, ly⟩ (.slice A2 ly.length k2)) (sepT (framesT p most (fup fr (·.take 1))) (sepT (refT q most (fup fr (·.take 1))) R))))) (by ac_rfl)
  have bl := h3.blk.1
  have b0 := bl.cell 0
  have b1 := bl.cell 1
  have b2 := bl.cell 2
  have b3 := bl.cell 3
  have b4 := bl.cell 4
  simp at b0 b1 b2 b3 b4
  have HS := Lib.hid (sameV_any ⟨tg, nn, bb, st, ly⟩ ⟨tg, nn, bb, st, ly⟩ _ _ _ (val_is (val_in h3.drop) HK.out) (val_is (val_in (h3.drop.turn (a' := sepT (chainT ⟨tg, nn, bb, st, ly⟩ (.slice A2 ly.length k2)) (sepT (chainT ⟨tg, nn, bb, st, ly⟩ (.slice A1 ly.length k1)) (sepT (framesT p most (fup fr (·.take 1))) (sepT (refT q most (fup fr (·.take 1))) R)))) (by ac_rfl))) HK.out))
  have HF := Lib.hid h3
  clear h1 h2 h3 bl
  simp only [Val.go, decide_true] at HS
  go_wp2_with fail
  refine HS.out.mono ?_
  rintro e w3 ⟨rfl, hb⟩
  have HZ := Lib.hid ((HF.out.calm hb).drop.drop.drop)
  clear hb HS HF b0 b1 b2 b3 b4
  go_wp2_with fail
  go_ret
  exact ⟨rfl, _, HZ.out⟩
set_option maxRecDepth 100000 in
set_option maxHeartbeats 1600000 in
theorem acted_5 (H : Lies N w0 W (sepT (framesT p most fr) (sepT (refT q most fr) R))) : Calls Try.prog 27 #[.pointer (some ⟨p, 0, none⟩), .pointer (some ⟨q, 0, none⟩), .agg #[.int .i64 5, .int .i64 m, .int .i64 tag, .int .i64 num, .int .u64 bits, .string s, ch, ls]] W (Both N w0 R p q most) := by
  have hvk := ftop_ok (fr := fr) (f := (·.localV m)) (frames_ok H) fun k hk => localV_ok m hk
  have h0 := H.newBlk 58 #[.int .i64 5, .int .i64 m, .int .i64 tag, .int .i64 num, .int .u64 bits, .string s, ch, ls]
  have HT := Lib.hid (local_all m (h0.turn (a' := sepT (framesT p most fr) (sepT (blkT W.heap.size 58 #[.int .i64 5, .int .i64 m, .int .i64 tag, .int .i64 num, .int .u64 bits, .string s, ch, ls]) (sepT (refT q most fr) R))) (by ac_rfl)))
  clear H h0
  generalize hpv : ftop fr Val.zero (·.localV m) = pv at *
  generalize hE2 : ftop fr 17 (·.localE m) = E at *
  have HK := Lib.hid hvk
  clear hvk
  go_enter Try.func27, Try.ntmps27
  go_wp2_with fail
  refine HT.out.mono ?_
  rintro e w1 ⟨x, rfl, h⟩
  obtain ⟨A1, k1, rfl, h1⟩ := val_out h
  clear h
  obtain ⟨tg, nn, bb, st, ly⟩ := pv
  have h2 := (h1.newBlk 30 #[.int .i64 tg, .int .i64 nn, .int .u64 bb, .string st, .slice A1 ly.length k1]).turn (a' := sepT (blkT W.heap.size 58 #[.int .i64 5, .int .i64 m, .int .i64 tag, .int .i64 num, .int .u64 bits, .string s, ch, ls]) (sepT (refT q most fr) (sepT (blkT w1.heap.size 30 #[.int .i64 tg, .int .i64 nn, .int .u64 bb, .string st, .slice A1 ly.length k1]) (sepT (chainT ⟨tg, nn, bb, st, ly⟩ (.slice A1 ly.length k1)) (sepT (framesT p most fr) R))))) (by ac_rfl)
  have c1 := h2.blk.1.cell 1
  simp at c1
  have HU := Lib.hid (rlocal_all m h2.drop)
  simp only [hpv, hE2] at HU
  clear h1 h2 HT
  simp only [Val.go] at *
  go_wp2_with fail
  refine HU.out.mono ?_
  rintro e w2 ⟨x2, rfl, h⟩
  obtain ⟨A2, k2, rfl, h1⟩ := val_out h
  clear h HU
  simp only [Val.go]
  simp only at h1
  have h2 := h1.alloc (.cells #[.int .i64 tg, .int .i64 nn, .int .u64 bb, .string st, .slice A2 ly.length k2] 30)
  have h3 := h2.turn (a' := sepT (blkT w1.heap.size 30 #[.int .i64 tg, .int .i64 nn, .int .u64 bb, .string st, .slice A1 ly.length k1]) (sepT (chainT ⟨tg, nn, bb, st, ly⟩ (.slice A1 ly.length k1)) (sepT (chainT ⟨tg, nn, bb, st, ly⟩ (.slice A2 ly.length k2)) (sepT (framesT p most fr) (sepT (refT q most fr) R))))) (by ac_rfl)
  have bl := h3.blk.1
  have b0 := bl.cell 0
  have b1 := bl.cell 1
  have b2 := bl.cell 2
  have b3 := bl.cell 3
  have b4 := bl.cell 4
  simp at b0 b1 b2 b3 b4
  have HS := Lib.hid (sameV_any ⟨tg, nn, bb, st, ly⟩ ⟨tg, nn, bb, st, ly⟩ _ _ _ (val_is (val_in h3.drop) HK.out) (val_is (val_in (h3.drop.turn (a' := sepT (chainT ⟨tg, nn, bb, st, ly⟩ (.slice A2 ly.length k2)) (sepT (chainT ⟨tg, nn, bb, st, ly⟩ (.slice A1 ly.length k1)) (sepT (framesT p most fr) (sepT (refT q most fr) R)))) (by ac_rfl))) HK.out))
  have HF := Lib.hid h3
  clear h1 h2 h3 bl
  simp only [Val.go, decide_true] at HS
  go_wp2_with fail
  refine HS.out.mono ?_
  rintro e w3 ⟨rfl, hb⟩
  have h4 := HF.out.calm hb
  have d4 := h4.blk.1.cell 4
  simp at d4
  have hly : ly.length ≤ 1000000 := HK.out
  have HO := Lib.hid (over_any A1 ly.length k1 (layV ly) (h4.drop.turn (a' := sepT (rowT 104 3 (.slice A1 ly.length k1) ly.length (layV ly)) (sepT (chainT ⟨tg, nn, bb, st, ly⟩ (.slice A2 ly.length k2)) (sepT (framesT p most fr) (sepT (refT q most fr) R)))) (by unfold chainT; ac_rfl)) (by omega))
  clear hb HS HF b0 b1 b2 b3 b4 h4 hly
  go_wp2_with fail
  refine HO.out.mono ?_
  rintro e w4 ⟨rfl, ys, h⟩
  have HZ := Lib.hid h.drop.drop
  clear h HO d4
  go_wp2_with fail
  go_ret
  exact ⟨rfl, _, HZ.out⟩
set_option maxRecDepth 100000 in
set_option maxHeartbeats 1600000 in
theorem acted_4 (H : Lies N w0 W (sepT (framesT p most fr) (sepT (refT q most fr) R))) : Calls Try.prog 27 #[.pointer (some ⟨p, 0, none⟩), .pointer (some ⟨q, 0, none⟩), .agg #[.int .i64 4, .int .i64 m, .int .i64 tag, .int .i64 num, .int .u64 bits, .string s, ch, ls]] W (Both N w0 R p q most) := by
  have hok := frames_ok H
  have hvk : (∀ v ∈ ftop fr [] (·.taken m), v.ok) ∧ (ftop fr [] (·.taken m)).length ≤ 10000000 := by
    rcases fr_cases fr with rfl | ⟨g, k, rfl⟩
    · rw [ftop_nil]; exact ⟨fun v hv => (by cases hv), Nat.zero_le _⟩
    · rw [ftop_snoc]
      refine ⟨taken_ok (hok k (by simp)), ?_⟩
      have h5 := (hok k (by simp)).2.1
      unfold Cal.taken
      by_cases hE : k.takeE m = 0
      · rw [if_pos hE, List.length_drop]; omega
      · rw [if_neg hE]; exact Nat.zero_le _
  have h0 := H.newBlk 58 #[.int .i64 4, .int .i64 m, .int .i64 tag, .int .i64 num, .int .u64 bits, .string s, ch, ls]
  have HT := Lib.hid (take_all m (h0.turn (a' := sepT (framesT p most fr) (sepT (blkT W.heap.size 58 #[.int .i64 4, .int .i64 m, .int .i64 tag, .int .i64 num, .int .u64 bits, .string s, ch, ls]) (sepT (refT q most fr) R))) (by ac_rfl)))
  clear H h0 hok
  generalize hpv : ftop fr [] (·.taken m) = pv at *
  generalize hE2 : ftop fr 17 (·.takeE m) = E at *
  have HK := Lib.hid hvk
  clear hvk
  go_enter Try.func27, Try.ntmps27
  go_wp2_with fail
  refine HT.out.mono ?_
  rintro e w1 ⟨x, rfl, h⟩
  have h2 := h.turn (a' := sepT (blkT W.heap.size 58 #[.int .i64 4, .int .i64 m, .int .i64 tag, .int .i64 num, .int .u64 bits, .string s, ch, ls]) (sepT (refT q most fr) (sepT (valsT pv x) (sepT (framesT p most (fup fr (·.take m))) R)))) (by ac_rfl)
  have c1 := h2.blk.1.cell 1
  simp at c1
  have HU := Lib.hid (rtake_all m h2.drop)
  simp only [hpv, hE2] at HU
  clear h h2 HT
  go_wp2_with fail
  refine HU.out.mono ?_
  rintro e w2 ⟨x2, rfl, h⟩
  have HS := Lib.hid (sameVs_all (h.turn (a' := sepT (valsT pv x) (sepT (valsT pv x2) (sepT (framesT p most (fup fr (·.take m))) (sepT (refT q most (fup fr (·.take m))) R)))) (by ac_rfl)) HK.out.1 HK.out.1 HK.out.2)
  simp only [decide_true] at HS
  clear h HU
  go_wp2_with fail
  refine HS.out.mono ?_
  rintro e w3 ⟨rfl, h⟩
  have HZ := Lib.hid h.drop.drop
  clear h HS
  go_wp2_with fail
  go_ret
  exact ⟨rfl, _, HZ.out⟩
end
end Go.Proofs.Ytiaeckljpdhagaa
/- An act on both: Push, Set. Printed by gen_scr2.py. -/
namespace Go.Proofs.Ytiaeckljpdhagaa
open Go.RowKit
set_option linter.unusedVariables false
set_option linter.unusedSimpArgs false
attribute [local go_sem] Oper.semAt_some run_store_func run_store_nilFunc
section
variable {N : Nat} {w0 W : World} {R : Thing} {p q : Nat} {most : Int} {fr : List Cal} (m tag num bits : Int) (s : ByteArray) (lay : List (Bool × ByteArray × Int)) (A0 : Option Addr) (c0 : Nat) (ls : Value)
def loA2 (i : Nat) : Nat := [0, 0, 0, 0, 0, 0, 1, 2, 2].getD i 0
def upA2 (i : Nat) : Nat := [0, 0, 1, 1, 1, 1, 2, 2, 2].getD i 0
set_option maxRecDepth 100000 in
set_option maxHeartbeats 1600000 in
theorem acted_2 (H : Lies N w0 W (sepT (framesT p most fr) (sepT (refT q most fr) R))) (hv : (∀ W', Below N w0 W' → VIs W' ⟨tag, num, bits, s, lay⟩ (.agg #[.int .i64 tag, .int .i64 num, .int .u64 bits, .string s, .slice A0 lay.length c0])) ∧ (⟨tag, num, bits, s, lay⟩ : Val).ok) : Calls Try.prog 27 #[.pointer (some ⟨p, 0, none⟩), .pointer (some ⟨q, 0, none⟩), .agg #[.int .i64 2, .int .i64 m, .int .i64 tag, .int .i64 num, .int .u64 bits, .string s, .slice A0 lay.length c0, ls]] W (Both N w0 R p q most) := by
  have HV := Lib.hid hv
  have h0 := H.newBlk 58 #[.int .i64 2, .int .i64 m, .int .i64 tag, .int .i64 num, .int .u64 bits, .string s, .slice A0 lay.length c0, ls]
  have HC := Lib.hid (copyV_any _ _ _ (hv.1 _ h0.below))
  have HH := Lib.hid h0
  clear H h0 hv
  go_enter Try.func27, Try.ntmps27
  go_wp2_with fail
  refine HC.out.mono ?_
  rintro e w1 ⟨ch, rfl, hown, hbe⟩
  obtain ⟨A3, k3, rfl, _⟩ := own_form hown
  have h1 := (HH.out.newRow hown hbe).newBlk 30 #[.int .i64 tag, .int .i64 num, .int .u64 bits, .string s, .slice A3 lay.length k3]
  have h2 := h1.turn (a' := sepT (framesT p most fr) (sepT (blkT w1.heap.size 30 #[.int .i64 tag, .int .i64 num, .int .u64 bits, .string s, .slice A3 lay.length k3]) (sepT (chainT ⟨tag, num, bits, s, lay⟩ (.slice A3 lay.length k3)) (sepT (blkT W.heap.size 58 #[.int .i64 2, .int .i64 m, .int .i64 tag, .int .i64 num, .int .u64 bits, .string s, .slice A0 lay.length c0, ls]) (sepT (refT q most fr) R))))) (by unfold chainT; ac_rfl)
  have h2' := h2.turn (a' := sepT (chainT ⟨tag, num, bits, s, lay⟩ (.slice A3 lay.length k3)) (sepT (framesT p most fr) (sepT (blkT w1.heap.size 30 #[.int .i64 tag, .int .i64 num, .int .u64 bits, .string s, .slice A3 lay.length k3]) (sepT (blkT W.heap.size 58 #[.int .i64 2, .int .i64 m, .int .i64 tag, .int .i64 num, .int .u64 bits, .string s, .slice A0 lay.length c0, ls]) (sepT (refT q most fr) R))))) (by ac_rfl)
  have HT := Lib.hid (fun n => push_all ⟨tag, num, bits, s, lay⟩ _ (h2.drewN n) (val_is (val_in (h2'.drewN n)) HV.out.2))
  have al := (h2.turn (a' := sepT (blkT W.heap.size 58 #[.int .i64 2, .int .i64 m, .int .i64 tag, .int .i64 num, .int .u64 bits, .string s, .slice A0 lay.length c0, ls]) (sepT (framesT p most fr) (sepT (blkT w1.heap.size 30 #[.int .i64 tag, .int .i64 num, .int .u64 bits, .string s, .slice A3 lay.length k3]) (sepT (chainT ⟨tag, num, bits, s, lay⟩ (.slice A3 lay.length k3)) (sepT (refT q most fr) R))))) (by ac_rfl)).blk.1
  have a1 := al.cell 1
  have a2 := al.cell 2
  have a3 := al.cell 3
  have a4 := al.cell 4
  have a5 := al.cell 5
  have a6 := al.cell 6
  simp at a1 a2 a3 a4 a5 a6
  clear hown hbe h1 h2 h2' HC HH al
  simp only [Val.go] at *
  go_wp2_with fail
  refine wp_region_text [2, 6] loA2 upA2 (by kernel_rfl) (by kernel_rfl) (by kernel_rfl) (by kernel_rfl) (by kernel_rfl) ?_
  repeat (refine wpTx_now (by rfl) (by rfl) (by rfl) (fun K hK => ?_); go_simp; refine hK _ ?_; clear hK K)
  refine wpTx_eff (by rfl) (fun K hK => ?_)
  go_simp
  refine (HT.out 1).mono ?_
  rintro e w2 ⟨rfl, h⟩
  have h1 := h.turn (a' := sepT (blkT W.heap.size 58 #[.int .i64 2, .int .i64 m, .int .i64 tag, .int .i64 num, .int .u64 bits, .string s, .slice A0 lay.length c0, ls]) (sepT (refT q most fr) (sepT (blkT w1.heap.size 30 #[.int .i64 tag, .int .i64 num, .int .u64 bits, .string s, .slice A3 lay.length k3]) (sepT (chainT ⟨tag, num, bits, s, lay⟩ (.slice A3 lay.length k3)) (sepT (framesT p most (fup fr (·.push ⟨tag, num, bits, s, lay⟩))) R))))) (by ac_rfl)
  have bl := h1.blk.1
  have b1 := bl.cell 1
  have b2 := bl.cell 2
  have b3 := bl.cell 3
  have b4 := bl.cell 4
  have b5 := bl.cell 5
  have b6 := bl.cell 6
  simp at b1 b2 b3 b4 b5 b6
  have HU := Lib.hid (rpush_all ⟨tag, num, bits, s, lay⟩ _ (h1.turn (a' := sepT (refT q most fr) (sepT (blkT W.heap.size 58 #[.int .i64 2, .int .i64 m, .int .i64 tag, .int .i64 num, .int .u64 bits, .string s, .slice A0 lay.length c0, ls]) (sepT (blkT w1.heap.size 30 #[.int .i64 tag, .int .i64 num, .int .u64 bits, .string s, .slice A3 lay.length k3]) (sepT (chainT ⟨tag, num, bits, s, lay⟩ (.slice A3 lay.length k3)) (sepT (framesT p most (fup fr (·.push ⟨tag, num, bits, s, lay⟩))) R))))) (by ac_rfl)) (HV.out.1 _ h1.below))
  refine ⟨_, rfl, hK _ _ (by simp [lateOK]) ?_⟩
  clear hK K h h1 bl HT
  generalize ftop fr 17 pushE = E at *
  repeat (refine wpTx_ws [_] (by rfl) (by rfl) (by rfl) (fun K hK => ?_); go_simp; refine hK _ ?_; clear hK K)
  refine wpTx_eff (by rfl) (fun K hK => ?_)
  go_simp
  refine HU.out.mono ?_
  rintro e w3 ⟨rfl, h⟩
  have h3 := h.turn (a' := sepT (blkT w1.heap.size 30 #[.int .i64 tag, .int .i64 num, .int .u64 bits, .string s, .slice A3 lay.length k3]) (sepT (chainT ⟨tag, num, bits, s, lay⟩ (.slice A3 lay.length k3)) (sepT (blkT W.heap.size 58 #[.int .i64 2, .int .i64 m, .int .i64 tag, .int .i64 num, .int .u64 bits, .string s, .slice A0 lay.length c0, ls]) (sepT (framesT p most (fup fr (·.push ⟨tag, num, bits, s, lay⟩))) (sepT (refT q most (fup fr (·.push ⟨tag, num, bits, s, lay⟩))) R))))) (by ac_rfl)
  have d4 := h3.blk.1.cell 4
  simp at d4
  have hly : lay.length ≤ 1000000 := HV.out.2
  have HO := Lib.hid (over_any A3 lay.length k3 (layV lay) (h3.drop.turn (a' := sepT (rowT 104 3 (.slice A3 lay.length k3) lay.length (layV lay)) (sepT (blkT W.heap.size 58 #[.int .i64 2, .int .i64 m, .int .i64 tag, .int .i64 num, .int .u64 bits, .string s, .slice A0 lay.length c0, ls]) (sepT (framesT p most (fup fr (·.push ⟨tag, num, bits, s, lay⟩))) (sepT (refT q most (fup fr (·.push ⟨tag, num, bits, s, lay⟩))) R)))) (by unfold chainT; ac_rfl)) (by omega))
  refine ⟨_, rfl, hK _ _ (by simp [lateOK]) ?_⟩
  clear hK K h h3 hly HU a1 a2 a3 a4 a5 a6 b1 b2 b3 b4 b5 b6
  repeat (refine wpTx_now (by rfl) (by rfl) (by rfl) (fun K hK => ?_); go_simp; refine hK _ ?_; clear hK K)
  refine wpTx_nil ?_
  go_wp2_with fail
  refine HO.out.mono ?_
  rintro e w4 ⟨rfl, ys, h⟩
  have HZ := Lib.hid h.drop.drop
  clear h HO d4
  go_wp2_with fail
  go_ret
  exact ⟨rfl, _, HZ.out⟩
def loA6 (i : Nat) : Nat := [0, 0, 0, 0, 0, 0, 0, 0, 0, 0, 1, 2, 2].getD i 0
def upA6 (i : Nat) : Nat := [0, 0, 0, 0, 1, 1, 1, 1, 1, 1, 2, 2, 2].getD i 0
set_option maxRecDepth 100000 in
set_option maxHeartbeats 1600000 in
theorem acted_6 (H : Lies N w0 W (sepT (framesT p most fr) (sepT (refT q most fr) R))) (hv : (∀ W', Below N w0 W' → VIs W' ⟨tag, num, bits, s, lay⟩ (.agg #[.int .i64 tag, .int .i64 num, .int .u64 bits, .string s, .slice A0 lay.length c0])) ∧ (⟨tag, num, bits, s, lay⟩ : Val).ok) : Calls Try.prog 27 #[.pointer (some ⟨p, 0, none⟩), .pointer (some ⟨q, 0, none⟩), .agg #[.int .i64 6, .int .i64 m, .int .i64 tag, .int .i64 num, .int .u64 bits, .string s, .slice A0 lay.length c0, ls]] W (Both N w0 R p q most) := by
  have HV := Lib.hid hv
  have h0 := H.newBlk 58 #[.int .i64 6, .int .i64 m, .int .i64 tag, .int .i64 num, .int .u64 bits, .string s, .slice A0 lay.length c0, ls]
  have HC := Lib.hid (copyV_any _ _ _ (hv.1 _ h0.below))
  have HH := Lib.hid h0
  clear H h0 hv
  go_enter Try.func27, Try.ntmps27
  go_wp2_with fail
  refine HC.out.mono ?_
  rintro e w1 ⟨ch, rfl, hown, hbe⟩
  obtain ⟨A3, k3, rfl, _⟩ := own_form hown
  have h1 := (HH.out.newRow hown hbe).newBlk 30 #[.int .i64 tag, .int .i64 num, .int .u64 bits, .string s, .slice A3 lay.length k3]
  have h2 := h1.turn (a' := sepT (framesT p most fr) (sepT (blkT w1.heap.size 30 #[.int .i64 tag, .int .i64 num, .int .u64 bits, .string s, .slice A3 lay.length k3]) (sepT (chainT ⟨tag, num, bits, s, lay⟩ (.slice A3 lay.length k3)) (sepT (blkT W.heap.size 58 #[.int .i64 6, .int .i64 m, .int .i64 tag, .int .i64 num, .int .u64 bits, .string s, .slice A0 lay.length c0, ls]) (sepT (refT q most fr) R))))) (by unfold chainT; ac_rfl)
  have h2' := h2.turn (a' := sepT (chainT ⟨tag, num, bits, s, lay⟩ (.slice A3 lay.length k3)) (sepT (framesT p most fr) (sepT (blkT w1.heap.size 30 #[.int .i64 tag, .int .i64 num, .int .u64 bits, .string s, .slice A3 lay.length k3]) (sepT (blkT W.heap.size 58 #[.int .i64 6, .int .i64 m, .int .i64 tag, .int .i64 num, .int .u64 bits, .string s, .slice A0 lay.length c0, ls]) (sepT (refT q most fr) R))))) (by ac_rfl)
  have HT := Lib.hid (fun n => set_all m ⟨tag, num, bits, s, lay⟩ _ (h2.drewN n) (val_is (val_in (h2'.drewN n)) HV.out.2))
  have al := (h2.turn (a' := sepT (blkT W.heap.size 58 #[.int .i64 6, .int .i64 m, .int .i64 tag, .int .i64 num, .int .u64 bits, .string s, .slice A0 lay.length c0, ls]) (sepT (framesT p most fr) (sepT (blkT w1.heap.size 30 #[.int .i64 tag, .int .i64 num, .int .u64 bits, .string s, .slice A3 lay.length k3]) (sepT (chainT ⟨tag, num, bits, s, lay⟩ (.slice A3 lay.length k3)) (sepT (refT q most fr) R))))) (by ac_rfl)).blk.1
  have a1 := al.cell 1
  have a2 := al.cell 2
  have a3 := al.cell 3
  have a4 := al.cell 4
  have a5 := al.cell 5
  have a6 := al.cell 6
  simp at a1 a2 a3 a4 a5 a6
  clear hown hbe h1 h2 h2' HC HH al
  simp only [Val.go] at *
  go_wp2_with fail
  refine wp_region_text [4, 10] loA6 upA6 (by kernel_rfl) (by kernel_rfl) (by kernel_rfl) (by kernel_rfl) (by kernel_rfl) ?_
  repeat (refine wpTx_now (by rfl) (by rfl) (by rfl) (fun K hK => ?_); go_simp; refine hK _ ?_; clear hK K)
  refine wpTx_eff (by rfl) (fun K hK => ?_)
  go_simp
  refine (HT.out 1).mono ?_
  rintro e w2 ⟨rfl, h⟩
  have h1 := h.turn (a' := sepT (blkT W.heap.size 58 #[.int .i64 6, .int .i64 m, .int .i64 tag, .int .i64 num, .int .u64 bits, .string s, .slice A0 lay.length c0, ls]) (sepT (refT q most fr) (sepT (blkT w1.heap.size 30 #[.int .i64 tag, .int .i64 num, .int .u64 bits, .string s, .slice A3 lay.length k3]) (sepT (chainT ⟨tag, num, bits, s, lay⟩ (.slice A3 lay.length k3)) (sepT (framesT p most (fup fr (·.set m ⟨tag, num, bits, s, lay⟩))) R))))) (by ac_rfl)
  have bl := h1.blk.1
  have b1 := bl.cell 1
  have b2 := bl.cell 2
  have b3 := bl.cell 3
  have b4 := bl.cell 4
  have b5 := bl.cell 5
  have b6 := bl.cell 6
  simp at b1 b2 b3 b4 b5 b6
  have HU := Lib.hid (rset_all m ⟨tag, num, bits, s, lay⟩ _ (h1.turn (a' := sepT (refT q most fr) (sepT (blkT W.heap.size 58 #[.int .i64 6, .int .i64 m, .int .i64 tag, .int .i64 num, .int .u64 bits, .string s, .slice A0 lay.length c0, ls]) (sepT (blkT w1.heap.size 30 #[.int .i64 tag, .int .i64 num, .int .u64 bits, .string s, .slice A3 lay.length k3]) (sepT (chainT ⟨tag, num, bits, s, lay⟩ (.slice A3 lay.length k3)) (sepT (framesT p most (fup fr (·.set m ⟨tag, num, bits, s, lay⟩))) R))))) (by ac_rfl)) (fun W' hb => HV.out.1 W' hb))
  refine ⟨_, rfl, hK _ _ (by simp [lateOK]) ?_⟩
  clear hK K h h1 bl HT
  generalize ftop fr 17 (·.localE m) = E at *
  repeat (refine wpTx_ws [_] (by rfl) (by rfl) (by rfl) (fun K hK => ?_); go_simp; refine hK _ ?_; clear hK K)
  refine wpTx_eff (by rfl) (fun K hK => ?_)
  go_simp
  refine HU.out.mono ?_
  rintro e w3 ⟨rfl, h⟩
  have h3 := h.turn (a' := sepT (blkT w1.heap.size 30 #[.int .i64 tag, .int .i64 num, .int .u64 bits, .string s, .slice A3 lay.length k3]) (sepT (chainT ⟨tag, num, bits, s, lay⟩ (.slice A3 lay.length k3)) (sepT (blkT W.heap.size 58 #[.int .i64 6, .int .i64 m, .int .i64 tag, .int .i64 num, .int .u64 bits, .string s, .slice A0 lay.length c0, ls]) (sepT (framesT p most (fup fr (·.set m ⟨tag, num, bits, s, lay⟩))) (sepT (refT q most (fup fr (·.set m ⟨tag, num, bits, s, lay⟩))) R))))) (by ac_rfl)
  have d4 := h3.blk.1.cell 4
  simp at d4
  have hly : lay.length ≤ 1000000 := HV.out.2
  have HO := Lib.hid (over_any A3 lay.length k3 (layV lay) (h3.drop.turn (a' := sepT (rowT 104 3 (.slice A3 lay.length k3) lay.length (layV lay)) (sepT (blkT W.heap.size 58 #[.int .i64 6, .int .i64 m, .int .i64 tag, .int .i64 num, .int .u64 bits, .string s, .slice A0 lay.length c0, ls]) (sepT (framesT p most (fup fr (·.set m ⟨tag, num, bits, s, lay⟩))) (sepT (refT q most (fup fr (·.set m ⟨tag, num, bits, s, lay⟩))) R)))) (by unfold chainT; ac_rfl)) (by omega))
  refine ⟨_, rfl, hK _ _ (by simp [lateOK]) ?_⟩
  clear hK K h h3 hly HU a1 a2 a3 a4 a5 a6 b1 b2 b3 b4 b5 b6
  repeat (refine wpTx_now (by rfl) (by rfl) (by rfl) (fun K hK => ?_); go_simp; refine hK _ ?_; clear hK K)
  refine wpTx_nil ?_
  go_wp2_with fail
  refine HO.out.mono ?_
  rintro e w4 ⟨rfl, ys, h⟩
  have HZ := Lib.hid h.drop.drop
  clear h HO d4
  go_wp2_with fail
  go_ret
  exact ⟨rfl, _, HZ.out⟩
end
end Go.Proofs.Ytiaeckljpdhagaa
/- An act on both: Call. Printed by gen_scr3.py. -/
namespace Go.Proofs.Ytiaeckljpdhagaa
open Go.RowKit
set_option linter.unusedVariables false
set_option linter.unusedSimpArgs false
attribute [local go_sem] Oper.semAt_some run_store_func run_store_nilFunc
/-- The cells of values of which those from i on have their chains still. -/
def Stay (la : List AV) (i : Nat) (xs : List Value) : Prop := xs.length = la.length * 5 ∧ ∀ j (h : j < la.length), i ≤ j → xs[j * 5 + 4]? = some la[j].2
theorem Stay.new (la : List AV) : Stay la 0 (avV la) := ⟨avV_len la, fun j h _ => (avV_at la j h 4 (by decide)).trans rfl⟩
theorem Stay.more {la : List AV} {i : Nat} {xs : List Value} (h : Stay la i xs) : Stay la (i + 1) xs := ⟨h.1, fun j hj hi => h.2 j hj (by omega)⟩
theorem Stay.set {la : List AV} {i : Nat} {xs : List Value} (h : Stay la i xs) (m : Nat) (u : Value) (hm : m < i * 5) : Stay la i (xs.set m u) :=
  ⟨by rw [List.length_set]; exact h.1, fun j hj hi => by rw [List.getElem?_set_ne (by omega)]; exact h.2 j hj hi⟩
theorem InCh.two {W : World} {z : AV} (h : InCh W z) (hf : AV.Fits z) : InCh2 W z := by
  obtain ⟨A, c, e, hr, _⟩ := h
  exact ⟨A, c, e, hr, hf⟩
theorem InCh.chis {W : World} {z : AV} (h : InCh W z) (hk : z.1.ok) : ChIs W z.1 z.2 := by
  obtain ⟨A, c, e, hr, _⟩ := h
  exact ⟨A, c, e, hr, hk⟩
section
variable {N : Nat} {w0 W : World} {R : Thing} {p q : Nat} {most : Int} {fr : List Cal} (m tag num bits : Int) (s : ByteArray) (ch : Value) (l : List AV) (A0 : Option Addr) (c0 : Nat)
theorem over_at {la : List AV} {i n c : Nat} {A : Option Addr} {xs : List Value} (hn : n = la.length) (hi : i < n) (hk : Stay la i xs) (hf : ∀ y ∈ la, y.1.lay.length ≤ 1000000000000000) (H : Lies N w0 W (sepT (rowT 30 5 (.slice A n c) n xs) (sepT (chainsT (la.drop i)) R))) :
    ∃ g A2 k c2, A = some ⟨g, 0, none⟩ ∧ W.cell? ⟨g, i * 5 + 4, none⟩ = some (.slice A2 k c2) ∧ Calls Try.prog 34 #[.slice A2 k c2] W fun e w' => e = .returned (.tuple #[]) ∧ Lies N w0 w' (sepT (rowT 30 5 (.slice A n c) n xs) (sepT (chainsT (la.drop (i + 1))) R)) := by
  subst hn
  have hrow := H.row
  obtain ⟨g, cap, hA, _⟩ := hrow.form (by omega)
  obtain rfl : A = some ⟨g, 0, none⟩ := by injection hA
  have h1 := H.turn (a' := sepT (rowT 104 3 la[i].2 la[i].1.lay.length (layV la[i].1.lay)) (sepT (rowT 30 5 (.slice (some ⟨g, 0, none⟩) la.length c) la.length xs) (sepT (chainsT (la.drop (i + 1))) R))) (by
    rw [List.drop_eq_getElem_cons hi, chainsT]; unfold chainT; ac_rfl)
  obtain ⟨A2, c2, h2, _⟩ := own_form h1.row
  have hc := hk.2 i hi (Nat.le_refl _)
  have hle := hf _ (List.getElem_mem hi)
  rw [h2] at hc h1
  refine ⟨g, A2, _, c2, rfl, (hrow.cellAt _ (by omega)).trans hc, (over_any A2 _ c2 _ h1 hle).mono ?_⟩
  rintro e w' ⟨rfl, ys, h⟩
  exact ⟨rfl, h.drop⟩
def loacted_0b (i : Nat) : Nat := [0, 0, 0, 0, 0, 0, 0, 0, 0, 0, 1, 2, 2, 2, 2, 2, 2, 2, 2, 2, 2, 2, 2, 2, 2].getD i 0
def upacted_0b (i : Nat) : Nat := [0, 0, 0, 0, 1, 1, 1, 1, 1, 1, 2, 2, 2, 2, 2, 2, 2, 2, 2, 2, 2, 2, 2, 2, 2].getD i 0
set_option maxRecDepth 100000 in
set_option maxHeartbeats 3200000 in
theorem acted_0b (H : Lies N w0 W (sepT (framesT p most fr) (sepT (refT q most fr) R))) (hin : ∀ W', Below N w0 W' → Reads W' W'.heap.size 5 A0 l.length (avV l) ∧ ∀ y ∈ l, InCh W' y) (hfit : l.length * 64 ≤ 140737488351232 ∧ ∀ y ∈ l, AV.Fits y) (hbr : 200 < l.length) :
    Calls Try.prog 27 #[.pointer (some ⟨p, 0, none⟩), .pointer (some ⟨q, 0, none⟩), .agg #[.int .i64 0, .int .i64 m, .int .i64 tag, .int .i64 num, .int .u64 bits, .string s, ch, .slice A0 l.length c0]] W (Both N w0 R p q most) := by
  have HI := Lib.hid hin
  have h0 := H.newBlk 58 #[.int .i64 0, .int .i64 m, .int .i64 tag, .int .i64 num, .int .u64 bits, .string s, ch, .slice A0 l.length c0]
  have HC := Lib.hid (copyVs_big l A0 c0 h0 (hin _ h0.below).1 (fun y hy => ((hin _ h0.below).2 y hy).two (hfit.2 y hy)) hfit.1)
  have HBr := Lib.hid hbr
  have hfit2 := hfit.2
  have hl64 := hfit.1
  have HFit := Lib.hid hfit2
  obtain ⟨n, hn⟩ : ∃ n, n = l.length := ⟨_, rfl⟩
  have HN := Lib.hid hn
  rw [← hn] at HC hl64 ⊢
  have hb1 : (10 : Int) < (n : Int) := by omega
  clear H h0 hin hfit hfit2 hbr hn
  go_enter Try.func27, Try.ntmps27
  go_wp2_with fail
  refine HC.out.mono ?_
  rintro e w1 ⟨y, rfl, h, hbe⟩
  obtain ⟨la, hla, h'⟩ := vals_out h
  clear h
  have hln : la.length = n := by have := congrArg List.length hla; rw [HN.out]; simpa using this
  have h2 := h'.turn (a' := sepT (rowT 30 5 y la.length (avV la)) (sepT (chainsT la) (sepT (blkT W.heap.size 58 #[.int .i64 0, .int .i64 m, .int .i64 tag, .int .i64 num, .int .u64 bits, .string s, ch, .slice A0 n c0]) (sepT (framesT p most fr) (sepT (refT q most fr) R))))) (by unfold rowsT; ac_rfl)
  obtain ⟨A4, k4, rfl, _⟩ := own_form h2.row
  have HLN := Lib.hid hln
  have HLA := Lib.hid hla
  have h3 := h'.turn (a' := sepT (framesT p most fr) (sepT (rowsT (.slice A4 la.length k4) la) (sepT (blkT W.heap.size 58 #[.int .i64 0, .int .i64 m, .int .i64 tag, .int .i64 num, .int .u64 bits, .string s, ch, .slice A0 n c0]) (sepT (refT q most fr) R)))) (by ac_rfl)
  have h4 := h3.turn (a' := sepT (rowsT (.slice A4 la.length k4) la) (sepT (framesT p most fr) (sepT (blkT W.heap.size 58 #[.int .i64 0, .int .i64 m, .int .i64 tag, .int .i64 num, .int .u64 bits, .string s, ch, .slice A0 n c0]) (sepT (refT q most fr) R)))) (by ac_rfl)
  have HT := Lib.hid (fun j => call_all m la A4 k4 (h3.drewN j) (fun h => absurd h (by rw [hln, HN.out]; have := HBr.out; omega)) (fun h => absurd h (by rw [hln, HN.out]; have := HBr.out; omega)))
  have hal := (h4.turn (a' := sepT (blkT W.heap.size 58 #[.int .i64 0, .int .i64 m, .int .i64 tag, .int .i64 num, .int .u64 bits, .string s, ch, .slice A0 n c0]) (sepT (rowsT (.slice A4 la.length k4) la) (sepT (framesT p most fr) (sepT (refT q most fr) R)))) (by ac_rfl)).blk.1
  have a1 := hal.cell 1
  have a7 := hal.cell 7
  simp at a1 a7
  rw [hln, hla] at HT
  rw [hln]
  clear h' h2 h3 h4 hal hla hln HC 
  generalize hcE : callE most fr (l.map (·.1)) = E at *
  generalize hfE : fcall most fr m (l.map (·.1)) = fr2 at *
  go_wp2_with fail
  refine wp_region_text [4, 10] loacted_0b upacted_0b (by kernel_rfl) (by kernel_rfl) (by kernel_rfl) (by kernel_rfl) (by kernel_rfl) ?_
  repeat (refine wpTx_now (by rfl) (by rfl) (by rfl) (fun K hK => ?_); go_simp; refine hK _ ?_; clear hK K)
  refine wpTx_eff (by rfl) (fun K hK => ?_)
  go_simp
  refine (HT.out 1).mono ?_
  rintro e w2 ⟨rfl, h⟩
  have hb2 := (h.turn (a' := sepT (blkT W.heap.size 58 #[.int .i64 0, .int .i64 m, .int .i64 tag, .int .i64 num, .int .u64 bits, .string s, ch, .slice A0 n c0]) (sepT (framesT p most fr2) (sepT (rowsT (.slice A4 n k4) la) (sepT (refT q most fr) R)))) (by ac_rfl)).blk.1
  have b1 := hb2.cell 1
  have b7 := hb2.cell 7
  simp at b1 b7
  have h1 := h.turn (a' := sepT (refT q most fr) (sepT (rowsT (.slice A4 n k4) la) (sepT (blkT W.heap.size 58 #[.int .i64 0, .int .i64 m, .int .i64 tag, .int .i64 num, .int .u64 bits, .string s, ch, .slice A0 n c0]) (sepT (framesT p most fr2) R)))) (by ac_rfl)
  have hI := HI.out _ h1.below
  have HU := Lib.hid (rcall_all m l A0 c0 h1 (fun h => absurd h (by have := HBr.out; omega)) (fun h => absurd h (by have := HBr.out; omega)))
  rw [hcE, hfE, ← HN.out] at HU
  refine ⟨_, rfl, hK _ _ (by simp [lateOK]) ?_⟩
  clear hK K h h1 hb2 hI HT hcE hfE
  repeat (refine wpTx_ws [_] (by rfl) (by rfl) (by rfl) (fun K hK => ?_); go_simp; refine hK _ ?_; clear hK K)
  refine wpTx_eff (by rfl) (fun K hK => ?_)
  go_simp
  refine HU.out.mono ?_
  rintro e w3 ⟨rfl, h⟩
  have hb2 := (h.turn (a' := sepT (blkT W.heap.size 58 #[.int .i64 0, .int .i64 m, .int .i64 tag, .int .i64 num, .int .u64 bits, .string s, ch, .slice A0 n c0]) (sepT (framesT p most fr2) (sepT (rowsT (.slice A4 n k4) la) (sepT (refT q most fr2) R)))) (by ac_rfl)).blk.1
  have d7 := hb2.cell 7
  simp at d7
  have h1 := h.turn (a' := sepT (rowsT (.slice A4 n k4) la) (sepT (framesT p most fr2) (sepT (refT q most fr2) (sepT (blkT W.heap.size 58 #[.int .i64 0, .int .i64 m, .int .i64 tag, .int .i64 num, .int .u64 bits, .string s, ch, .slice A0 n c0]) R)))) (by ac_rfl)
  have H1 := Lib.hid h1
  refine ⟨_, rfl, hK _ _ (by simp [lateOK]) ?_⟩
  clear hK K h h1 hb2 HU 
  repeat (refine wpTx_now (by rfl) (by rfl) (by rfl) (fun K hK => ?_); go_simp; refine hK _ ?_; clear hK K)
  refine wpTx_nil ?_
  clear a1 a7 b1 b7 d7
  go_wp2_with fail
  go_loopw [9] (fun ix wr => ∃ (i : Nat) (xs : List Value), ix = .int .i64 i ∧ i ≤ n ∧ Stay la i xs ∧ Lies N w0 wr (sepT (rowT 30 5 (.slice A4 n k4) n xs) (sepT (chainsT (la.drop i)) (sepT (framesT p most fr2) (sepT (refT q most fr2) (sepT (blkT W.heap.size 58 #[.int .i64 0, .int .i64 m, .int .i64 tag, .int .i64 num, .int .u64 bits, .string s, ch, .slice A0 n c0]) R)))))) (fun ix _ => n - (intOf ix).toNat)
  case atStart => exact ⟨0, avV la, rfl, Nat.zero_le _, Stay.new la, by
    have h := H1.out.turn (a' := sepT (rowT 30 5 (.slice A4 n k4) la.length (avV la)) (sepT (chainsT la) (sepT (framesT p most fr2) (sepT (refT q most fr2) (sepT (blkT W.heap.size 58 #[.int .i64 0, .int .i64 m, .int .i64 tag, .int .i64 num, .int .u64 bits, .string s, ch, .slice A0 n c0]) R))))) (by unfold rowsT; ac_rfl)
    rw [HLN.out] at h
    exact h⟩
  case round =>
    obtain ⟨i, xs, rfl, hi, hk, hh⟩ := hrel
    have HK := Lib.hid hk
    have HB := Lib.hid hh
    clear hk hh H1
    by_cases hlt : i < n
    · have hlt' : (i : Int) < (n : Int) := by omega
      obtain ⟨g, A2, k2, c2, rfl, e4, hO⟩ := over_at HLN.out.symm hlt HK.out (fun y hy => by
        have h5 : y.1 ∈ l.map (·.1) := by rw [← HLA.out]; exact List.mem_map.2 ⟨y, hy, rfl⟩
        obtain ⟨z, hz, e⟩ := List.mem_map.1 h5
        have := HFit.out z hz
        unfold AV.Fits at this
        rw [e] at this
        omega) HB.out
      have HO := Lib.hid hO
      clear hO
      go_wp2_with fail
      refine HO.out.mono ?_
      rintro e w5 ⟨rfl, h⟩
      have hrow := h.row
      have hlen := hrow.1
      have k1 : (w5.cell? ⟨g, i * 5 + 1, none⟩).isSome = true := by rw [hrow.cellAt _ (by omega)]; simp [hlen]; omega
      obtain ⟨x1, k1⟩ := Option.isSome_iff_exists.1 k1
      have f1 := hrow.frozenAt (i * 5 + 1)
      have HH := Lib.hid h
      clear h hrow hlen HO e4
      go_wp2_with fail
      go_roundw
      case rel => exact ⟨i + 1, _, by go_num, by omega, HK.out.more.set (i * 5 + 1) (.int .i64 (-77)) (by omega), HH.out.store (i * 5 + 1) (.int .i64 (-77))⟩
      case measure => simp [intOf]; omega
    · have hlt' : ¬ (i : Int) < (n : Int) := by omega
      have HZ := Lib.hid ((HB.out.drop.drop.turn (a' := sepT (blkT W.heap.size 58 #[.int .i64 0, .int .i64 m, .int .i64 tag, .int .i64 num, .int .u64 bits, .string s, ch, .slice A0 n c0]) (sepT (framesT p most fr2) (sepT (refT q most fr2) R))) (by ac_rfl)).drop)
      clear HB HK
      go_wp2_with fail
      go_ret
      exact ⟨rfl, _, HZ.out⟩
def loacted_0a (i : Nat) : Nat := [0, 0, 0, 0, 0, 0, 0, 0, 0, 0, 1, 2, 2, 2, 2, 2, 2, 2, 2, 2, 2, 2, 3, 3, 3].getD i 0
def upacted_0a (i : Nat) : Nat := [0, 0, 0, 0, 1, 1, 1, 1, 1, 1, 2, 2, 2, 2, 2, 2, 2, 2, 2, 2, 2, 3, 3, 3, 3].getD i 0
set_option maxRecDepth 100000 in
set_option maxHeartbeats 3200000 in
theorem acted_0a (H : Lies N w0 W (sepT (framesT p most fr) (sepT (refT q most fr) R))) (hin : ∀ W', Below N w0 W' → Reads W' W'.heap.size 5 A0 l.length (avV l) ∧ ∀ y ∈ l, InCh W' y) (hfit : l.length * 64 ≤ 140737488351232 ∧ ∀ y ∈ l, AV.Fits y) (hbr : l.length ≤ 10 ∧ ∀ y ∈ l, y.1.ok) :
    Calls Try.prog 27 #[.pointer (some ⟨p, 0, none⟩), .pointer (some ⟨q, 0, none⟩), .agg #[.int .i64 0, .int .i64 m, .int .i64 tag, .int .i64 num, .int .u64 bits, .string s, ch, .slice A0 l.length c0]] W (Both N w0 R p q most) := by
  have HI := Lib.hid hin
  have h0 := H.newBlk 58 #[.int .i64 0, .int .i64 m, .int .i64 tag, .int .i64 num, .int .u64 bits, .string s, ch, .slice A0 l.length c0]
  have HC := Lib.hid (copyVs_big l A0 c0 h0 (hin _ h0.below).1 (fun y hy => ((hin _ h0.below).2 y hy).two (hfit.2 y hy)) hfit.1)
  have HBr := Lib.hid hbr
  have hfit2 := hfit.2
  have hl64 := hfit.1
  have HFit := Lib.hid hfit2
  obtain ⟨n, hn⟩ : ∃ n, n = l.length := ⟨_, rfl⟩
  have HN := Lib.hid hn
  rw [← hn] at HC hl64 ⊢
  have hb1 : ¬ (10 : Int) < (n : Int) := by omega
  clear H h0 hin hfit hfit2 hbr hn
  go_enter Try.func27, Try.ntmps27
  go_wp2_with fail
  refine HC.out.mono ?_
  rintro e w1 ⟨y, rfl, h, hbe⟩
  obtain ⟨la, hla, h'⟩ := vals_out h
  clear h
  have hln : la.length = n := by have := congrArg List.length hla; rw [HN.out]; simpa using this
  have h2 := h'.turn (a' := sepT (rowT 30 5 y la.length (avV la)) (sepT (chainsT la) (sepT (blkT W.heap.size 58 #[.int .i64 0, .int .i64 m, .int .i64 tag, .int .i64 num, .int .u64 bits, .string s, ch, .slice A0 n c0]) (sepT (framesT p most fr) (sepT (refT q most fr) R))))) (by unfold rowsT; ac_rfl)
  obtain ⟨A4, k4, rfl, _⟩ := own_form h2.row
  have HLN := Lib.hid hln
  have HLA := Lib.hid hla
  have h3 := h'.turn (a' := sepT (framesT p most fr) (sepT (rowsT (.slice A4 la.length k4) la) (sepT (blkT W.heap.size 58 #[.int .i64 0, .int .i64 m, .int .i64 tag, .int .i64 num, .int .u64 bits, .string s, ch, .slice A0 n c0]) (sepT (refT q most fr) R)))) (by ac_rfl)
  have h4 := h3.turn (a' := sepT (rowsT (.slice A4 la.length k4) la) (sepT (framesT p most fr) (sepT (blkT W.heap.size 58 #[.int .i64 0, .int .i64 m, .int .i64 tag, .int .i64 num, .int .u64 bits, .string s, ch, .slice A0 n c0]) (sepT (refT q most fr) R)))) (by ac_rfl)
  have hok : ∀ y ∈ la, y.1.ok := fun y hy => by
    have h5 : y.1 ∈ l.map (·.1) := by rw [← hla]; exact List.mem_map.2 ⟨y, hy, rfl⟩
    obtain ⟨z, hz, e⟩ := List.mem_map.1 h5
    rw [← e]; exact HBr.out.2 z hz
  have HT := Lib.hid (fun j => call_all m la A4 k4 (h3.drewN j) (fun _ => by
    obtain ⟨A', c', he, _, h6⟩ := rows_arg (h4.drewN j) hok
    obtain rfl : A4 = A' := by injection he
    exact h6) (fun _ => hok))
  have HOk := Lib.hid hok
  have hal := (h4.turn (a' := sepT (blkT W.heap.size 58 #[.int .i64 0, .int .i64 m, .int .i64 tag, .int .i64 num, .int .u64 bits, .string s, ch, .slice A0 n c0]) (sepT (rowsT (.slice A4 la.length k4) la) (sepT (framesT p most fr) (sepT (refT q most fr) R)))) (by ac_rfl)).blk.1
  have a1 := hal.cell 1
  have a7 := hal.cell 7
  simp at a1 a7
  rw [hln, hla] at HT
  rw [hln]
  clear h' h2 h3 h4 hal hla hln HC hok
  generalize hcE : callE most fr (l.map (·.1)) = E at *
  generalize hfE : fcall most fr m (l.map (·.1)) = fr2 at *
  go_wp2_with fail
  refine wp_region_text [4, 10, 21] loacted_0a upacted_0a (by kernel_rfl) (by kernel_rfl) (by kernel_rfl) (by kernel_rfl) (by kernel_rfl) ?_
  repeat (refine wpTx_now (by rfl) (by rfl) (by rfl) (fun K hK => ?_); go_simp; refine hK _ ?_; clear hK K)
  refine wpTx_eff (by rfl) (fun K hK => ?_)
  go_simp
  refine (HT.out 1).mono ?_
  rintro e w2 ⟨rfl, h⟩
  have hb2 := (h.turn (a' := sepT (blkT W.heap.size 58 #[.int .i64 0, .int .i64 m, .int .i64 tag, .int .i64 num, .int .u64 bits, .string s, ch, .slice A0 n c0]) (sepT (framesT p most fr2) (sepT (rowsT (.slice A4 n k4) la) (sepT (refT q most fr) R)))) (by ac_rfl)).blk.1
  have b1 := hb2.cell 1
  have b7 := hb2.cell 7
  simp at b1 b7
  have h1 := h.turn (a' := sepT (refT q most fr) (sepT (rowsT (.slice A4 n k4) la) (sepT (blkT W.heap.size 58 #[.int .i64 0, .int .i64 m, .int .i64 tag, .int .i64 num, .int .u64 bits, .string s, ch, .slice A0 n c0]) (sepT (framesT p most fr2) R)))) (by ac_rfl)
  have hI := HI.out _ h1.below
  have HU := Lib.hid (rcall_all m l A0 c0 h1 (fun _ => ⟨hI.1, (fun h0 => by obtain ⟨b, off, e, _⟩ := reads_addr hI.1 h0 (by decide); exact ⟨b, off, e⟩), fun z hz => (hI.2 z hz).chis (HBr.out.2 z hz)⟩) (fun _ => HBr.out.2))
  rw [hcE, hfE, ← HN.out] at HU
  refine ⟨_, rfl, hK _ _ (by simp [lateOK]) ?_⟩
  clear hK K h h1 hb2 hI HT hcE hfE
  repeat (refine wpTx_ws [_] (by rfl) (by rfl) (by rfl) (fun K hK => ?_); go_simp; refine hK _ ?_; clear hK K)
  refine wpTx_eff (by rfl) (fun K hK => ?_)
  go_simp
  refine HU.out.mono ?_
  rintro e w3 ⟨rfl, h⟩
  have hb2 := (h.turn (a' := sepT (blkT W.heap.size 58 #[.int .i64 0, .int .i64 m, .int .i64 tag, .int .i64 num, .int .u64 bits, .string s, ch, .slice A0 n c0]) (sepT (framesT p most fr2) (sepT (rowsT (.slice A4 n k4) la) (sepT (refT q most fr2) R)))) (by ac_rfl)).blk.1
  have d7 := hb2.cell 7
  simp at d7
  have h1 := h.turn (a' := sepT (rowsT (.slice A4 n k4) la) (sepT (framesT p most fr2) (sepT (refT q most fr2) (sepT (blkT W.heap.size 58 #[.int .i64 0, .int .i64 m, .int .i64 tag, .int .i64 num, .int .u64 bits, .string s, ch, .slice A0 n c0]) R)))) (by ac_rfl)
  have hS : Calls Try.prog 23 #[.slice A4 la.length k4, .slice A0 l.length c0] w3 fun e w' => e = .returned (.bool (decide (la.map (·.1) = l.map (·.1)))) ∧ Below w3.heap.size w3 w' := by
    obtain ⟨A', c', he, _, h6⟩ := rows_arg h1 HOk.out
    obtain rfl : A4 = A' := by injection he
    have hI := HI.out _ h1.below
    exact sameVs_any la l A4 A0 k4 c0 w3 h6 ⟨hI.1, (fun h0 => by obtain ⟨b, off, e, _⟩ := reads_addr hI.1 h0 (by decide); exact ⟨b, off, e⟩), fun z hz => (hI.2 z hz).chis (HBr.out.2 z hz)⟩ (by have := HBr.out.1; have := HN.out; have := HLN.out; omega)
  rw [HLA.out, HLN.out, ← HN.out, decide_eq_true rfl] at hS
  have HS := Lib.hid hS
  have H1 := Lib.hid h1
  refine ⟨_, rfl, hK _ _ (by simp [lateOK]) ?_⟩
  clear hK K h h1 hb2 HU hS
  repeat (refine wpTx_now (by rfl) (by rfl) (by rfl) (fun K hK => ?_); go_simp; refine hK _ ?_; clear hK K)
  refine wpTx_eff (by rfl) (fun K hK => ?_)
  go_simp
  refine HS.out.mono ?_
  rintro e w4 ⟨rfl, hb⟩
  have H2 := Lib.hid (H1.out.calm hb)
  refine ⟨_, rfl, hK _ _ (by simp [lateOK]) ?_⟩
  clear hK K H1 hb HS
  have H1 := H2
  clear H2
  repeat (refine wpTx_now (by rfl) (by rfl) (by rfl) (fun K hK => ?_); go_simp; refine hK _ ?_; clear hK K)
  refine wpTx_nil ?_
  clear a1 a7 b1 b7 d7
  go_wp2_with fail
  go_loopw [9] (fun ix wr => ∃ (i : Nat) (xs : List Value), ix = .int .i64 i ∧ i ≤ n ∧ Stay la i xs ∧ Lies N w0 wr (sepT (rowT 30 5 (.slice A4 n k4) n xs) (sepT (chainsT (la.drop i)) (sepT (framesT p most fr2) (sepT (refT q most fr2) (sepT (blkT W.heap.size 58 #[.int .i64 0, .int .i64 m, .int .i64 tag, .int .i64 num, .int .u64 bits, .string s, ch, .slice A0 n c0]) R)))))) (fun ix _ => n - (intOf ix).toNat)
  case atStart => exact ⟨0, avV la, rfl, Nat.zero_le _, Stay.new la, by
    have h := H1.out.turn (a' := sepT (rowT 30 5 (.slice A4 n k4) la.length (avV la)) (sepT (chainsT la) (sepT (framesT p most fr2) (sepT (refT q most fr2) (sepT (blkT W.heap.size 58 #[.int .i64 0, .int .i64 m, .int .i64 tag, .int .i64 num, .int .u64 bits, .string s, ch, .slice A0 n c0]) R))))) (by unfold rowsT; ac_rfl)
    rw [HLN.out] at h
    exact h⟩
  case round =>
    obtain ⟨i, xs, rfl, hi, hk, hh⟩ := hrel
    have HK := Lib.hid hk
    have HB := Lib.hid hh
    clear hk hh H1
    by_cases hlt : i < n
    · have hlt' : (i : Int) < (n : Int) := by omega
      obtain ⟨g, A2, k2, c2, rfl, e4, hO⟩ := over_at HLN.out.symm hlt HK.out (fun y hy => by
        have h5 : y.1 ∈ l.map (·.1) := by rw [← HLA.out]; exact List.mem_map.2 ⟨y, hy, rfl⟩
        obtain ⟨z, hz, e⟩ := List.mem_map.1 h5
        have := HFit.out z hz
        unfold AV.Fits at this
        rw [e] at this
        omega) HB.out
      have HO := Lib.hid hO
      clear hO
      go_wp2_with fail
      refine HO.out.mono ?_
      rintro e w5 ⟨rfl, h⟩
      have hrow := h.row
      have hlen := hrow.1
      have k1 : (w5.cell? ⟨g, i * 5 + 1, none⟩).isSome = true := by rw [hrow.cellAt _ (by omega)]; simp [hlen]; omega
      obtain ⟨x1, k1⟩ := Option.isSome_iff_exists.1 k1
      have f1 := hrow.frozenAt (i * 5 + 1)
      have HH := Lib.hid h
      clear h hrow hlen HO e4
      go_wp2_with fail
      go_roundw
      case rel => exact ⟨i + 1, _, by go_num, by omega, HK.out.more.set (i * 5 + 1) (.int .i64 (-77)) (by omega), HH.out.store (i * 5 + 1) (.int .i64 (-77))⟩
      case measure => simp [intOf]; omega
    · have hlt' : ¬ (i : Int) < (n : Int) := by omega
      have HZ := Lib.hid ((HB.out.drop.drop.turn (a' := sepT (blkT W.heap.size 58 #[.int .i64 0, .int .i64 m, .int .i64 tag, .int .i64 num, .int .u64 bits, .string s, ch, .slice A0 n c0]) (sepT (framesT p most fr2) (sepT (refT q most fr2) R))) (by ac_rfl)).drop)
      clear HB HK
      go_wp2_with fail
      go_ret
      exact ⟨rfl, _, HZ.out⟩
end
end Go.Proofs.Ytiaeckljpdhagaa
/- The law FramesScript, walked. -/
namespace Go.Proofs.Ytiaeckljpdhagaa
open Go.RowKit
set_option linter.unusedVariables false
set_option linter.unusedSimpArgs false
attribute [local go_sem] Oper.semAt_some run_store_func run_store_nilFunc
section
variable {N : Nat} {w0 W : World} {R : Thing} {p q : Nat} {most : Int} {fr : List Cal}
theorem acted_any (z : ActD) (hz : z.In w0) (hf : z.Fits) (hl : longAct z = false) (hN : N = w0.heap.size) (H : Lies N w0 W (sepT (framesT p most fr) (sepT (refT q most fr) R))) :
    Calls Try.prog 27 #[.pointer (some ⟨p, 0, none⟩), .pointer (some ⟨q, 0, none⟩), .agg z.cs.toArray] W (Both N w0 R p q most) := by
  subst hN
  obtain ⟨hk, hk2⟩ := act_ok hl
  obtain ⟨kind, m, ⟨⟨tag, num, bits, s, lay⟩, ch⟩, l, ls⟩ := z
  obtain ⟨hz1, hz2⟩ := hz
  obtain ⟨hf1, hf2, hf3⟩ := hf
  simp only at hz1 hz2 hf1 hf2 hf3 hk hk2
  have hv : ∀ W', Below w0.heap.size w0 W' → VIs W' ⟨tag, num, bits, s, lay⟩ ((⟨tag, num, bits, s, lay⟩ : Val).go ch) := fun W' hb => (hz1.below hb).vis hk
  have hin : ∀ W', Below w0.heap.size w0 W' → InVs W' l ls := fun W' hb => hz2.below hb
  obtain ⟨A2, c2, hch, _⟩ := hz1
  simp only at hch
  subst hch
  obtain ⟨A3, c3, rfl, _⟩ := hz2
  have hin2 : ∀ W', Below w0.heap.size w0 W' → Reads W' W'.heap.size 5 A3 l.length (avV l) ∧ ∀ y ∈ l, InCh W' y := fun W' hb => by
    obtain ⟨A', c', he, h1, h2, _⟩ := hin W' hb
    obtain rfl : A3 = A' := by injection he
    exact ⟨h1, h2⟩
  show Calls Try.prog 27 #[.pointer (some ⟨p, 0, none⟩), .pointer (some ⟨q, 0, none⟩), .agg #[.int .i64 kind, .int .i64 m, .int .i64 tag, .int .i64 num, .int .u64 bits, .string s, .slice A2 lay.length c2, .slice A3 l.length c3]] W _
  by_cases h0 : kind = 0
  · subst h0
    by_cases h200 : l.length ≤ 200
    · exact acted_0a m tag num bits s _ l A3 c3 H hin2 ⟨hf2, hf3⟩ (hk2 h200)
    · exact acted_0b m tag num bits s _ l A3 c3 H hin2 ⟨hf2, hf3⟩ (by omega)
  by_cases h1 : kind = 1
  · subst h1; exact acted_1 m tag num bits s _ _ H
  by_cases h2 : kind = 2
  · subst h2; exact acted_2 m tag num bits s lay A2 c2 _ H ⟨hv, hk⟩
  by_cases h3 : kind = 3
  · subst h3; exact acted_3 m tag num bits s _ _ H
  by_cases h4 : kind = 4
  · subst h4; exact acted_4 m tag num bits s _ _ H
  by_cases h5 : kind = 5
  · subst h5; exact acted_5 m tag num bits s _ _ H
  by_cases h6 : kind = 6
  · subst h6; exact acted_6 m tag num bits s lay A2 c2 _ H ⟨hv, hk⟩
  by_cases h7 : kind = 7
  · subst h7; exact acted_7 m tag num bits s _ _ H
  exact acted_8 m tag num bits s _ _ kind h0 h1 h2 h3 h4 h5 h6 h7 H
theorem all_ok (H : Lies N w0 W (sepT (framesT p most fr) R)) : (∀ v ∈ fr.flatMap Cal.all, v.ok) ∧ (fr.flatMap Cal.all).length ≤ 10000000 := by
  have hok := frames_ok H
  obtain ⟨sl, cs, hl, hm, _⟩ := frames_parts H
  have h200 : fr.length ≤ 200 := by omega
  refine ⟨fun v hv => ?_, ?_⟩
  · obtain ⟨k, hk, hv⟩ := List.mem_flatMap.1 hv
    rcases List.mem_append.1 hv with hv | hv
    · exact (hok k hk).2.2.1 v hv
    · exact (hok k hk).2.2.2 v hv
  · have h : ∀ l : List Cal, (∀ k ∈ l, k.ok) → (l.flatMap Cal.all).length ≤ l.length * 5200 := by
      intro l
      induction l with
      | nil => intro _; exact Nat.zero_le _
      | cons k l ih =>
        intro hl
        have h1 := ih fun y hy => hl y (List.mem_cons_of_mem _ hy)
        have h2 := hl k (List.mem_cons_self ..)
        have h3 : k.locals.length ≤ 200 := h2.1
        have h4 : k.stack.length ≤ 5000 := h2.2.1
        rw [List.flatMap_cons, List.length_append, List.length_cons]
        unfold Cal.all
        rw [List.length_append]
        unfold Cal.all at h1
        omega
    have := h fr hok
    omega
end
def loSc (i : Nat) : Nat := [0, 0, 0, 0, 0, 0, 0, 0, 0, 0, 0, 0, 0, 0, 0, 0, 1, 1, 1, 1, 1, 1, 2, 3, 3, 3, 3, 3, 3, 4, 5, 5].getD i 0
def upSc (i : Nat) : Nat := [0, 0, 0, 0, 0, 0, 0, 0, 0, 0, 1, 1, 1, 1, 1, 1, 1, 1, 1, 1, 2, 2, 3, 3, 3, 3, 4, 3, 4, 5, 5, 5].getD i 0
set_option maxRecDepth 100000 in
set_option maxHeartbeats 6400000 in
theorem script_row (most : Int) (D : Option Addr) (f : Nat) (xs : List ActD) (W : World) (hxs : Reads W W.heap.size 8 D xs.length (xs.flatMap ActD.cs)) (hq : ∀ z ∈ xs, z.In W) (hft : ∀ z ∈ xs, z.Fits) (hb3 : xs.length ≤ 140737488351232) :
    Calls Try.prog 5 #[.int .i64 most, .slice D xs.length f] W fun e w' => e = .returned (.bool true) ∧ Below W.heap.size W w' := by
  have HXs := Lib.hid (And.intro hxs (And.intro hq hft))
  obtain ⟨nx, hnx⟩ : ∃ x, x = xs.length := ⟨_, rfl⟩
  have HE := Lib.hid hnx
  rw [← hnx] at hb3 ⊢
  have HLg : Hid (Calls Try.prog 25 #[.slice D nx f] W fun e w' => e = .returned (.bool (longActs xs)) ∧ Below W.heap.size W w') := by
    refine Lib.hid ?_
    rw [hnx]
    exact long_any xs D f W hxs hq (by rw [← hnx]; simp only [maxLen]; omega)
  clear hxs hq hft hnx
  by_cases hlong : longActs xs = true
  · rw [hlong] at HLg
    clear hlong
    go_enter Try.func5, Try.ntmps5
    go_wp2_with fail
    refine HLg.out.mono ?_
    rintro e w1 ⟨rfl, hb⟩
    have HK := Lib.hid (awake_any ((Lies.nil W).calm hb))
    clear hb HLg
    go_wp2_with fail
    refine HK.out.mono ?_
    rintro e w2 ⟨rfl, h⟩
    have HF := Lib.hid h
    clear h HK
    go_wp2_with fail
    go_ret
    exact ⟨rfl, HF.out.below⟩
  have hlf : longActs xs = false := by simpa using hlong
  rw [hlf] at HLg
  have HOK := Lib.hid (longActs_ok hlf)
  clear hlong hlf
  by_cases hmost : most < 1 ∨ 200 < most
  · go_enter Try.func5, Try.ntmps5
    go_wp2_with fail
    refine HLg.out.mono ?_
    rintro e w1 ⟨rfl, hb⟩
    have HK := Lib.hid (awake_any ((Lies.nil W).calm hb))
    have HN1 := Lib.hid (new_bad (most := most) w1 hmost)
    have HN2 := Lib.hid (rnew_bad (most := most) w1 hmost)
    clear hb HLg
    go_wp2_with fail
    refine HN1.out.mono ?_
    rintro e w' ⟨rfl, rfl⟩
    go_wp2_with fail
    refine HN2.out.mono ?_
    rintro e w' ⟨rfl, rfl⟩
    clear HN1 HN2
    go_wp2_with fail
    go_loopw [9] (fun ix wr => ix = .int .i64 0 ∧ wr = w1) (fun _ _ => 0)
    case atStart => exact ⟨rfl, rfl⟩
    case round =>
      obtain ⟨rfl, rfl⟩ := hrel
      go_wp2_with fail
      refine HK.out.mono ?_
      rintro e w2 ⟨rfl, h⟩
      have HF := Lib.hid h
      clear h HK
      go_wp2_with fail
      go_ret
      exact ⟨rfl, HF.out.below⟩
  have hm1 : 1 ≤ most := by omega
  have hm2 : most ≤ 200 := by omega
  go_enter Try.func5, Try.ntmps5
  go_wp2_with fail
  refine HLg.out.mono ?_
  rintro e w1 ⟨rfl, hb⟩
  have HN1 := Lib.hid (new_good most hm1 hm2 ((Lies.nil W).calm hb))
  clear hb HLg
  go_wp2_with fail
  refine HN1.out.mono ?_
  rintro e w2 ⟨p, rfl, h⟩
  have HN2 := Lib.hid (rnew_good hm1 hm2 h)
  clear h HN1 hm1 hm2 hmost
  go_wp2_with fail
  refine HN2.out.mono ?_
  rintro e w3 ⟨q, rfl, h⟩
  have HH := Lib.hid (h.turn (a' := sepT (framesT p most []) (sepT (refT q most []) empT)) (by ac_rfl))
  clear h HN2
  go_wp2_with fail
  go_loopw [9] (fun ix wr => ∃ (i : Nat) (fr : List Cal), ix = .int .i64 i ∧ i ≤ nx ∧ Lies W.heap.size W wr (sepT (framesT p most fr) (sepT (refT q most fr) empT))) (fun ix _ => nx - (intOf ix).toNat)
  case atStart => exact ⟨0, [], rfl, Nat.zero_le _, HH.out⟩
  case round =>
    obtain ⟨i, fr, rfl, hi, hh⟩ := hrel
    clear HH
    have HH := Lib.hid hh
    clear hh
    by_cases hlt : i < nx
    · have hlt' : (i : Int) < (nx : Int) := by omega
      have hl1 : i < xs.length := by have := HE.out; omega
      obtain ⟨b, off, kind, m, tag, num, bits, s, lay, A2, c2, l, A3, c3, hA, he, ⟨p0, p1, p2, p3, p4, p5, p6, p7⟩, _, _⟩ := act_at rfl ((HXs.out.1.below HH.out.below).more HH.out.below.size) (fun z hz => (HXs.out.2.1 z hz).below HH.out.below) i hl1
      subst hA
      have hA := acted_any xs[i] (HXs.out.2.1 _ (List.getElem_mem hl1)) (HXs.out.2.2 _ (List.getElem_mem hl1)) (HOK.out.2 xs[i] (List.getElem_mem hl1)) rfl HH.out
      rw [he] at hA
      have HA : Hid (Calls Try.prog 27 #[.pointer (some ⟨p, 0, none⟩), .pointer (some ⟨q, 0, none⟩), .agg #[.int .i64 kind, .int .i64 m, .int .i64 tag, .int .i64 num, .int .u64 bits, .string s, .slice A2 lay.length c2, .slice A3 l.length c3]] wr (Both W.heap.size W empT p q most)) := Lib.hid hA
      clear he hA
      have p3' : wr.cell? ⟨b, off + i * 8 + 3, none⟩ = some (.int .i64 num) := p3
      have p4' : wr.cell? ⟨b, off + i * 8 + 4, none⟩ = some (.int .u64 bits) := p4
      have p5' : wr.cell? ⟨b, off + i * 8 + 5, none⟩ = some (.string s) := p5
      have p6' : wr.cell? ⟨b, off + i * 8 + 6, none⟩ = some (.slice A2 lay.length c2) := p6
      clear p3 p4 p5 p6
      go_wp2_with fail
      refine HA.out.mono ?_
      rintro e w4 ⟨rfl, fr2, h⟩
      have HW := Lib.hid (where_all h)
      clear h HA HH p0 p1 p2 p3' p4' p5' p6' p7
      go_wp2_with fail
      refine HW.out.mono ?_
      rintro e w5 ⟨rfl, h⟩
      have HV := Lib.hid (rwhere_all (h.turn (a' := sepT (refT q most fr2) (sepT (framesT p most fr2) empT)) (by ac_rfl)))
      clear h HW
      generalize ftop fr2 0 (·.number) = k1 at *
      generalize ftop fr2 0 (·.place) = k2 at *
      go_wp2_with fail
      refine HV.out.mono ?_
      rintro e w6 ⟨rfl, h⟩
      have HW := Lib.hid (values_any (h.turn (a' := sepT (framesT p most fr2) (sepT (refT q most fr2) empT)) (by ac_rfl)))
      clear h HV
      go_wp2_with fail
      refine HW.out.mono ?_
      rintro e w7 ⟨y, rfl, h⟩
      have hao := all_ok (h.turn (a' := sepT (framesT p most fr2) (sepT (refT q most fr2) (sepT (valsT (fr2.flatMap Cal.all) y) empT))) (by ac_rfl))
      have HAO := Lib.hid hao
      obtain ⟨la, hla, h1⟩ := vals_out h
      clear h HW hao
      obtain ⟨A4, k4, rfl, _⟩ := own_form (h1.turn (a' := sepT (rowT 30 5 y la.length (avV la)) (sepT (chainsT la) (sepT (framesT p most fr2) (sepT (refT q most fr2) empT)))) (by unfold rowsT; ac_rfl)).row
      have HLA := Lib.hid hla
      obtain ⟨n, hn⟩ : ∃ n, n = la.length := ⟨_, rfl⟩
      have HN := Lib.hid hn
      rw [← hn] at h1
      rw [← hn]
      obtain ⟨sl, rl, ⟨⟨hrl, hro⟩, hm⟩, h2⟩ := ref_parts (h1.turn (a' := sepT (refT q most fr2) (sepT (framesT p most fr2) (sepT (rowsT (.slice A4 n k4) la) empT))) (by ac_rfl))
      have hrn : rl.length = fr2.length := by rw [← hrl, List.length_map]
      obtain ⟨Af, cf, rfl, _⟩ := own_form h2.drop.row
      have c1 := h2.blk.1.cell 1
      simp at c1
      have HM := Lib.hid (And.intro (And.intro hrl hro) hm)
      have HC := Lib.hid (fun j => calls_any ((h2.turn (a' := sepT (framesT p most fr2) (sepT (blkT q 64 #[.int .i64 most, .slice Af rl.length cf]) (sepT (rowT 102 4 (.slice Af rl.length cf) rl.length (rl.flatMap rcs)) (sepT (rsT rl) (sepT (rowsT (.slice A4 n k4) la) empT))))) (by ac_rfl)).drewN j))
      rw [← hrn] at HC
      clear h1 h2 hla hn hrl hro hm hrn
      go_wp2_with fail
      refine wp_region_text [10, 20, 22, 28, 29] loSc upSc (by kernel_rfl) (by kernel_rfl) (by kernel_rfl) (by kernel_rfl) (by kernel_rfl) ?_
      repeat (refine wpTx_now (by rfl) (by rfl) (by rfl) (fun K hK => ?_); go_simp; refine hK _ ?_; clear hK K)
      refine wpTx_eff (by rfl) (fun K hK => ?_)
      go_simp
      refine (HC.out 1).mono ?_
      rintro e w8 ⟨rfl, h⟩
      have h1 := h.turn (a' := sepT (blkT q 64 #[.int .i64 most, .slice Af rl.length cf]) (sepT (rowT 102 4 (.slice Af rl.length cf) rl.length (rl.flatMap rcs)) (sepT (rsT rl) (sepT (framesT p most fr2) (sepT (rowsT (.slice A4 n k4) la) empT))))) (by ac_rfl)
      have d1 := h1.blk.1.cell 1
      simp at d1
      have HP := Lib.hid (height_all ((ref_whole ⟨HM.out.1, HM.out.2⟩ h1).turn (a' := sepT (framesT p most fr2) (sepT (refT q most fr2) (sepT (rowsT (.slice A4 n k4) la) empT))) (by ac_rfl)))
      refine ⟨_, rfl, hK _ _ (by simp [lateOK]) ?_⟩
      clear hK K h h1 HC
      repeat (first | (refine wpTx_now (by rfl) (by rfl) (by rfl) (fun K hK => ?_); go_simp; refine hK _ ?_; clear hK K) | (refine wpTx_ws [_] (by rfl) (by rfl) (by rfl) (fun K hK => ?_); go_simp; refine hK _ ?_; clear hK K))
      refine wpTx_eff (by rfl) (fun K hK => ?_)
      go_simp
      refine HP.out.mono ?_
      rintro e w9 ⟨rfl, h⟩
      have HQ := Lib.hid (rheight_all (h.turn (a' := sepT (refT q most fr2) (sepT (framesT p most fr2) (sepT (rowsT (.slice A4 n k4) la) empT))) (by ac_rfl)))
      generalize ftop fr2 0 (fun k => (k.stack.length : Int)) = k3 at *
      refine ⟨_, rfl, hK _ _ (by simp [lateOK]) ?_⟩
      clear hK K h HP c1 d1
      repeat (first | (refine wpTx_now (by rfl) (by rfl) (by rfl) (fun K hK => ?_); go_simp; refine hK _ ?_; clear hK K) | (refine wpTx_ws [_] (by rfl) (by rfl) (by rfl) (fun K hK => ?_); go_simp; refine hK _ ?_; clear hK K))
      refine wpTx_eff (by rfl) (fun K hK => ?_)
      go_simp
      refine HQ.out.mono ?_
      rintro e w10 ⟨rfl, h⟩
      have HV := Lib.hid (rvalues_all h)
      refine ⟨_, rfl, hK _ _ (by simp [lateOK]) ?_⟩
      clear hK K h HQ
      repeat (first | (refine wpTx_now (by rfl) (by rfl) (by rfl) (fun K hK => ?_); go_simp; refine hK _ ?_; clear hK K) | (refine wpTx_late [] (by rfl) (by rfl) (by rfl) (fun K hK => ?_); go_simp; refine hK _ _ ?_; clear hK K))
      refine wpTx_eff (by rfl) (fun K hK => ?_)
      go_simp
      refine HV.out.mono ?_
      rintro e w11 ⟨y2, rfl, h⟩
      have h1 := vals_in HLA.out (h.turn (a' := sepT (rowsT (.slice A4 n k4) la) (sepT (valsT (fr2.flatMap Cal.all) y2) (sepT (framesT p most fr2) (sepT (refT q most fr2) empT)))) (by ac_rfl))
      have HS := Lib.hid (sameVs_all h1 HAO.out.1 HAO.out.1 HAO.out.2)
      simp only [decide_true] at HS
      refine ⟨_, rfl, hK _ _ (by repeat (first | exact lateOK_nil | refine lateOK_skip (by rfl) ?_ | refine lateOK_cons (by go_simp) ?_)) ?_⟩
      clear hK K h h1 HV
      refine wpTx_eff (by rfl) (fun K hK => ?_)
      go_simp
      refine HS.out.mono ?_
      rintro e w12 ⟨rfl, h⟩
      have h1 := h.turn (a' := sepT (valsT (fr2.flatMap Cal.all) y2) (sepT (valsT (fr2.flatMap Cal.all) (.slice A4 n k4)) (sepT (framesT p most fr2) (sepT (refT q most fr2) empT)))) (by ac_rfl)
      obtain ⟨lb, hlb, h2⟩ := vals_out h1.drop
      refine ⟨_, rfl, hK _ _ (by repeat (first | exact lateOK_nil | refine lateOK_skip (by rfl) ?_ | refine lateOK_cons (by go_simp) ?_)) ?_⟩
      clear hK K h h1 HS
      repeat (refine wpTx_now (by rfl) (by rfl) (by rfl) (fun K hK => ?_); go_simp; refine hK _ ?_; clear hK K)
      refine wpTx_nil ?_
      have hlb2 : lb.length = n := by
        have e1 := congrArg List.length hlb
        have e2 := congrArg List.length HLA.out
        rw [List.length_map] at e1 e2
        rw [HN.out, e1, e2]
      have HLB := Lib.hid hlb2
      have hnb : n ≤ 10000000 := by
        have e1 := congrArg List.length hlb
        rw [List.length_map] at e1
        rw [← hlb2, e1]
        exact HAO.out.2
      have HBO : Hid (∀ z ∈ lb, z.1.lay.length ≤ 1000000000000000) := Lib.hid fun z hz => by
        have h : z.1.lay.length ≤ 1000000 := HAO.out.1 z.1 (by rw [← hlb]; exact List.mem_map.2 ⟨z, hz, rfl⟩)
        omega
      have HR := Lib.hid (by
        have h := h2.turn (a' := sepT (rowT 30 5 (.slice A4 n k4) lb.length (avV lb)) (sepT (chainsT lb) (sepT (framesT p most fr2) (sepT (refT q most fr2) empT)))) (by unfold rowsT; ac_rfl)
        rw [hlb2] at h
        exact h)
      clear h2 hlb hlb2
      obtain ⟨wo, hwo⟩ : ∃ wo, wo = wr := ⟨_, rfl⟩
      clear hwo wo
      go_wp2_with fail
      go_loopw [15] (fun jx wr2 => ∃ (j : Nat) (ys : List Value), jx = .int .i64 j ∧ j ≤ n ∧ Stay lb j ys ∧ Lies W.heap.size W wr2 (sepT (rowT 30 5 (.slice A4 n k4) n ys) (sepT (chainsT (lb.drop j)) (sepT (framesT p most fr2) (sepT (refT q most fr2) empT))))) (fun jx _ => n - (intOf jx).toNat)
      case atStart => exact ⟨0, avV lb, rfl, Nat.zero_le _, Stay.new lb, HR.out⟩
      case round =>
        obtain ⟨j, ys, rfl, hj, hk, hh⟩ := hrel
        have HK := Lib.hid hk
        have HB := Lib.hid hh
        clear hk hh HR
        by_cases hlj : j < n
        · have hlj' : (j : Int) < (n : Int) := by omega
          obtain ⟨g, A5, k5, c5, rfl, e4, hO⟩ := over_at HLB.out.symm hlj HK.out HBO.out HB.out
          have HO := Lib.hid hO
          clear hO
          go_wp2_with fail
          refine HO.out.mono ?_
          rintro e w13 ⟨rfl, h⟩
          have hrow := h.row
          have hlen := hrow.1
          have hs := fun a (ha : a < 5) => Option.isSome_iff_exists.1 (show (w13.cell? ⟨g, j * 5 + a, none⟩).isSome = true by rw [hrow.cellAt _ (by omega)]; simp [hlen]; omega)
          obtain ⟨x0, k0⟩ := hs 0 (by decide)
          obtain ⟨x1, k1⟩ := hs 1 (by decide)
          obtain ⟨x2, k2⟩ := hs 2 (by decide)
          obtain ⟨x3, k3⟩ := hs 3 (by decide)
          obtain ⟨x4, k4⟩ := hs 4 (by decide)
          rw [Nat.add_zero] at k0
          have f0 := hrow.frozenAt (j * 5)
          have f1 := hrow.frozenAt (j * 5 + 1)
          have f2 := hrow.frozenAt (j * 5 + 2)
          have f3 := hrow.frozenAt (j * 5 + 3)
          have f4 := hrow.frozenAt (j * 5 + 4)
          have HH := Lib.hid h
          clear h hrow hlen HO e4 hs
          go_wp2_with fail
          go_roundw
          case rel => exact ⟨j + 1, _, by go_num, by omega, ((((HK.out.more.set (j * 5) (.int .i64 (-7)) (by omega)).set (j * 5 + 1) (.int .i64 0) (by omega)).set (j * 5 + 2) (.int .u64 0) (by omega)).set (j * 5 + 3) (.string ⟨#[]⟩) (by omega)).set (j * 5 + 4) (.slice none 0 0) (by omega), ((((HH.out.store (j * 5) (.int .i64 (-7))).store (j * 5 + 1) (.int .i64 0)).store (j * 5 + 2) (.int .u64 0)).store (j * 5 + 3) (.string ⟨#[]⟩)).store (j * 5 + 4) (.slice none 0 0)⟩
          case measure => simp [intOf]; omega
        · have hlj' : ¬ (j : Int) < (n : Int) := by omega
          have HZ := Lib.hid HB.out.drop.drop
          clear HB HK
          go_wp2_with fail
          go_roundw
          case rel => exact ⟨i + 1, fr2, by go_num, by omega, HZ.out⟩
          case measure => simp [intOf]; omega
    · have hlt' : ¬ (i : Int) < (nx : Int) := by omega
      have HK := Lib.hid (awake_any HH.out)
      clear HH
      go_wp2_with fail
      refine HK.out.mono ?_
      rintro e w2 ⟨rfl, h⟩
      have HF := Lib.hid h
      clear h HK
      go_wp2_with fail
      go_ret
      exact ⟨rfl, HF.out.below⟩
end Go.Proofs.Ytiaeckljpdhagaa
