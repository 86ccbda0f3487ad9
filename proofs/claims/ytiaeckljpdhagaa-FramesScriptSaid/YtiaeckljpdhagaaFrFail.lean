/- Frames that are nil, that nobody made, or that have no call: what each method answers. -/
import Derived.Test.YtiaeckljpdhagaaFrElem
namespace Go.Proofs.Ytiaeckljpdhagaa
open Go.RowKit
attribute [local go_sem] Oper.semAt_some run_store_func run_store_nilFunc
inductive IsFail : Int → Option Addr → Thing → Prop
  | nil : IsFail 1 none empT
  | unmade (p n c : Nat) (A : Option Addr) : IsFail 1 (some ⟨p, 0, none⟩) (blkT p 71 #[.slice A n c, .int .i64 0])
  | empty (p c : Nat) (A : Option Addr) (most : Int) (h : (most == 0) = false) : IsFail 17 (some ⟨p, 0, none⟩) (blkT p 71 #[.slice A 0 c, .int .i64 most])
section
variable {N : Nat} {w0 W : World} {R T : Thing} {E : Int} {pp : Option Addr}
theorem topI_fail (hT : IsFail E pp T) (x f : Value) (H : Lies N w0 W (sepT T R)) : Calls Try.prog 36 #[.pointer pp, x, f] W fun e w' => e = .returned (.tuple #[x, .int .i64 E]) ∧ W = w' := by
  cases hT with
  | nil => exact topI_nil x f W
  | unmade p n c A => exact topI_unmade p x f W (H.blk.1.cell 1)
  | empty p c A most h => exact topI_empty p c A most x f W h (H.blk.1.cell 0) (H.blk.1.cell 1)
theorem topL_fail (hT : IsFail E pp T) (x f : Value) (H : Lies N w0 W (sepT T R)) : Calls Try.prog 49 #[.pointer pp, x, f] W fun e w' => e = .returned (.tuple #[x, .int .i64 E]) ∧ W = w' := by
  cases hT with
  | nil => exact topL_nil x f W
  | unmade p n c A => exact topL_unmade p x f W (H.blk.1.cell 1)
  | empty p c A most h => exact topL_empty p c A most x f W h (H.blk.1.cell 0) (H.blk.1.cell 1)
theorem topV_fail (hT : IsFail E pp T) (f : Value) (H : Lies N w0 W (sepT T R)) : Calls Try.prog 40 #[.pointer pp, .agg #[.int .i64 0, .int .i64 0, .int .u64 0, .string ⟨#[]⟩, .slice none 0 0], f] W fun e w' => e = .returned (.tuple #[.agg #[.int .i64 0, .int .i64 0, .int .u64 0, .string ⟨#[]⟩, .slice none 0 0], .int .i64 E]) ∧ Lies N w0 w' (sepT T R) := by
  cases hT with
  | nil => exact topV_nil f H
  | unmade p n c A => exact topV_unmade p n c A 0 f rfl H
  | empty p c A most h => exact topV_empty p 0 c A most f h rfl H
theorem topA_fail (hT : IsFail E pp T) (f : Value) (H : Lies N w0 W (sepT T R)) : Calls Try.prog 64 #[.pointer pp, .agg #[.int .i64 0, .int .i64 0], f] W fun e w' => e = .returned (.tuple #[.agg #[.int .i64 0, .int .i64 0], .int .i64 E]) ∧ Lies N w0 w' (sepT T R) := by
  cases hT with
  | nil => exact topA_nil f H
  | unmade p n c A => exact topA_unmade p n c A 0 f rfl H
  | empty p c A most h => exact topA_empty p 0 c A most f h rfl H
theorem return_fail (hT : IsFail E pp T)  (H : Lies N w0 W (sepT T R)) : Calls Try.prog 16 #[.pointer pp] W fun e w' => e = .returned (.int .i64 E) ∧ Lies N w0 w' (sepT T R) := by
  have H1 := (H.alloc (.cells #[.pointer pp] 22))
  have HT := fun x f => topI_fail hT x f H1
  have HT' := Lib.hid HT
  have HH := Lib.hid H1
  have hmf : ∀ fn first cap (w : World), (Instr.makeFunc fn first cap).run Try.prog w = .ok (.func fn first cap) w := fun _ _ _ _ => rfl
  clear H1 HT H hT
  go_enter Try.func16, Try.ntmps16
  go_wp2_with fail
  refine (HT'.out _ _).mono ?_
  rintro e w' ⟨rfl, rfl⟩
  go_wp2_with fail
  go_ret
  exact ⟨rfl, HH.out⟩
theorem push_fail (hT : IsFail E pp T) (v : Val) (A : Option Addr) (cv : Nat) (H : Lies N w0 W (sepT T R)) : Calls Try.prog 21 #[.pointer pp, v.go (.slice A v.lay.length cv)] W fun e w' => e = .returned (.int .i64 E) ∧ Lies N w0 w' (sepT T R) := by
  have H1 := (H.alloc (.cells #[.int .i64 v.tag, .int .i64 v.n, .int .u64 v.bits, .string v.s, .slice A v.lay.length cv] 30))
  have HT := fun x f => topI_fail hT x f H1
  have HT' := Lib.hid HT
  have HH := Lib.hid H1
  have hmf : ∀ fn first cap (w : World), (Instr.makeFunc fn first cap).run Try.prog w = .ok (.func fn first cap) w := fun _ _ _ _ => rfl
  clear H1 HT H hT
  obtain ⟨tag, n, bits, s, lay⟩ := v
  simp only [Val.go] at *
  go_enter Try.func21, Try.ntmps21
  go_wp2_with fail
  refine (HT'.out _ _).mono ?_
  rintro e w' ⟨rfl, rfl⟩
  go_wp2_with fail
  go_ret
  exact ⟨rfl, HH.out⟩
theorem set_fail (hT : IsFail E pp T) (i : Int) (v : Val) (A : Option Addr) (cv : Nat) (H : Lies N w0 W (sepT T R)) : Calls Try.prog 10 #[.pointer pp, .int .i64 i, v.go (.slice A v.lay.length cv)] W fun e w' => e = .returned (.int .i64 E) ∧ Lies N w0 w' (sepT T R) := by
  have H1 := ((H.alloc (.cells #[.int .i64 i] 3)).alloc (.cells #[.int .i64 v.tag, .int .i64 v.n, .int .u64 v.bits, .string v.s, .slice A v.lay.length cv] 30))
  have HT := fun x f => topI_fail hT x f H1
  have HT' := Lib.hid HT
  have HH := Lib.hid H1
  have hmf : ∀ fn first cap (w : World), (Instr.makeFunc fn first cap).run Try.prog w = .ok (.func fn first cap) w := fun _ _ _ _ => rfl
  clear H1 HT H hT
  obtain ⟨tag, n, bits, s, lay⟩ := v
  simp only [Val.go] at *
  go_enter Try.func10, Try.ntmps10
  go_wp2_with fail
  refine (HT'.out _ _).mono ?_
  rintro e w' ⟨rfl, rfl⟩
  go_wp2_with fail
  go_ret
  exact ⟨rfl, HH.out⟩
theorem jump_fail (hT : IsFail E pp T) (place : Int) (H : Lies N w0 W (sepT T R)) : Calls Try.prog 9 #[.pointer pp, .int .i64 place] W fun e w' => e = .returned (.int .i64 E) ∧ Lies N w0 w' (sepT T R) := by
  have H1 := (H.alloc (.cells #[.int .i64 place] 3))
  have HT := fun x f => topI_fail hT x f H1
  have HT' := Lib.hid HT
  have HH := Lib.hid H1
  have hmf : ∀ fn first cap (w : World), (Instr.makeFunc fn first cap).run Try.prog w = .ok (.func fn first cap) w := fun _ _ _ _ => rfl
  clear H1 HT H hT
  go_enter Try.func9, Try.ntmps9
  go_wp2_with fail
  refine (HT'.out _ _).mono ?_
  rintro e w' ⟨rfl, rfl⟩
  go_wp2_with fail
  go_ret
  exact ⟨rfl, HH.out⟩
theorem height_fail (hT : IsFail E pp T)  (H : Lies N w0 W (sepT T R)) : Calls Try.prog 24 #[.pointer pp] W fun e w' => e = .returned (.int .i64 0) ∧ Lies N w0 w' (sepT T R) := by
  have H1 := H
  have HT := fun x f => topI_fail hT x f H1
  have HT' := Lib.hid HT
  have HH := Lib.hid H1
  have hmf : ∀ fn first cap (w : World), (Instr.makeFunc fn first cap).run Try.prog w = .ok (.func fn first cap) w := fun _ _ _ _ => rfl
  clear H1 HT H hT
  go_enter Try.func24, Try.ntmps24
  go_wp2_with fail
  refine (HT'.out _ _).mono ?_
  rintro e w' ⟨rfl, rfl⟩
  go_wp2_with fail
  go_ret
  exact ⟨rfl, HH.out⟩
theorem take_fail (hT : IsFail E pp T) (n : Int) (H : Lies N w0 W (sepT T R)) : Calls Try.prog 22 #[.pointer pp, .int .i64 n] W fun e w' => e = .returned (.tuple #[.slice none 0 0, .int .i64 E]) ∧ Lies N w0 w' (sepT T R) := by
  have H1 := H.alloc (.cells #[.int .i64 n] 3)
  have HT' := Lib.hid (fun x f => topL_fail hT x f H1)
  have HH := Lib.hid H1
  have hmf : ∀ fn first cap (w : World), (Instr.makeFunc fn first cap).run Try.prog w = .ok (.func fn first cap) w := fun _ _ _ _ => rfl
  clear H1 H hT
  go_enter Try.func22, Try.ntmps22
  go_wp2_with fail
  refine (HT'.out _ _).mono ?_
  rintro e w' ⟨rfl, rfl⟩
  go_wp2_with fail
  go_ret2
  exact ⟨rfl, HH.out⟩
theorem fail_num (hT : IsFail E pp T) : E = 1 ∨ E = 17 := by cases hT <;> simp
set_option maxRecDepth 100000 in
theorem pop_fail (hT : IsFail E pp T) (H : Lies N w0 W (sepT T R)) : Calls Try.prog 14 #[.pointer pp] W fun e w' => e = .returned (.tuple #[.agg #[.int .i64 0, .int .i64 0, .int .u64 0, .string ⟨#[]⟩, .slice none 0 0], .int .i64 E]) ∧ Lies N w0 w' (sepT T R) := by
  have H1 := (H.newBlk 30 #[.int .i64 0, .int .i64 0, .int .u64 0, .string ⟨#[]⟩, .slice none 0 0]).turn (a' := sepT T (sepT (blkT W.heap.size 30 #[.int .i64 0, .int .i64 0, .int .u64 0, .string ⟨#[]⟩, .slice none 0 0]) R)) (by ac_rfl)
  have HT := Lib.hid (take_fail hT 1 H1)
  have hE : (E != 0) = true := by rcases fail_num hT with h | h <;> subst h <;> rfl
  have hE2 : ¬ E = 0 := by rcases fail_num hT with h | h <;> subst h <;> decide
  clear H1 H hT
  go_enter Try.func14, Try.ntmps14
  go_wp2_with fail
  refine HT.out.mono ?_
  rintro e w1 ⟨rfl, h⟩
  have h2 := h.turn (a' := sepT (blkT W.heap.size 30 #[.int .i64 0, .int .i64 0, .int .u64 0, .string ⟨#[]⟩, .slice none 0 0]) (sepT T R)) (by ac_rfl)
  have b1 := h2.blk.1
  have f1 := b1.frozen
  have y0 := b1.cell 0
  have y1 := b1.cell 1
  have y2 := b1.cell 2
  have y3 := b1.cell 3
  have y4 := b1.cell 4
  simp at y0 y1 y2 y3 y4
  have HN := Lib.hid h2
  clear h h2 b1 HT
  go_wp2_with fail
  have HF := ((((HN.out.setBlk 0 (.int .i64 0)).setBlk 1 (.int .i64 0)).setBlk 2 (.int .u64 0)).setBlk 3 (.string ⟨#[]⟩)).setBlk 4 (.slice none 0 0)
  refine bodyPost_ret (results_row_tmp rfl _ _ W.heap.size 30 #[.int .i64 0, .int .i64 0, .int .u64 0, .string ⟨#[]⟩, .slice none 0 0] (0, 0) _ rfl HF.blk.1 Try.underlying30 rfl (by kernel_rfl)) rfl ?_
  exact ⟨rfl, HF.drop⟩
set_option maxRecDepth 100000 in
theorem local_fail (hT : IsFail E pp T) (i : Int) (H : Lies N w0 W (sepT T R)) : Calls Try.prog 12 #[.pointer pp, .int .i64 i] W fun e w' => e = .returned (.tuple #[.agg #[.int .i64 0, .int .i64 0, .int .u64 0, .string ⟨#[]⟩, .slice none 0 0], .int .i64 E]) ∧ Lies N w0 w' (sepT T R) := by
  have H0 := (H.newBlk 3 #[.int .i64 i]).newBlk 30 #[.int .i64 0, .int .i64 0, .int .u64 0, .string ⟨#[]⟩, .slice none 0 0]
  have hsz : (W.alloc (.cells #[.int .i64 i] 3)).heap.size = W.heap.size + 1 := by simp
  rw [hsz] at H0
  have H1 := H0.turn (a' := sepT T (sepT (blkT (W.heap.size + 1) 30 #[.int .i64 0, .int .i64 0, .int .u64 0, .string ⟨#[]⟩, .slice none 0 0]) (sepT (blkT W.heap.size 3 #[.int .i64 i]) R))) (by ac_rfl)
  have HT := Lib.hid (fun f => topV_fail hT f H1)
  have hmf : ∀ fn first cap (w : World), (Instr.makeFunc fn first cap).run Try.prog w = .ok (.func fn first cap) w := fun _ _ _ _ => rfl
  clear H1 H hT H0 hsz
  go_enter Try.func12, Try.ntmps12
  go_wp2_with fail
  refine (HT.out _).mono ?_
  rintro e w1 ⟨rfl, h⟩
  have h2 := h.turn (a' := sepT (blkT (W.heap.size + 1) 30 #[.int .i64 0, .int .i64 0, .int .u64 0, .string ⟨#[]⟩, .slice none 0 0]) (sepT (blkT W.heap.size 3 #[.int .i64 i]) (sepT T R))) (by ac_rfl)
  have b1 := h2.blk.1
  have f1 := b1.frozen
  have y0 := b1.cell 0
  have y1 := b1.cell 1
  have y2 := b1.cell 2
  have y3 := b1.cell 3
  have y4 := b1.cell 4
  simp at y0 y1 y2 y3 y4
  have HN := Lib.hid h2
  clear h h2 b1 HT
  go_wp2_with fail
  have HF := ((((HN.out.setBlk 0 (.int .i64 0)).setBlk 1 (.int .i64 0)).setBlk 2 (.int .u64 0)).setBlk 3 (.string ⟨#[]⟩)).setBlk 4 (.slice none 0 0)
  refine bodyPost_ret (results_row_tmp rfl _ _ (W.heap.size + 1) 30 #[.int .i64 0, .int .i64 0, .int .u64 0, .string ⟨#[]⟩, .slice none 0 0] (0, 0) _ rfl HF.blk.1 Try.underlying30 rfl (by kernel_rfl)) rfl ?_
  exact ⟨rfl, HF.drop.drop⟩
set_option maxRecDepth 100000 in
theorem where_fail (hT : IsFail E pp T) (H : Lies N w0 W (sepT T R)) : Calls Try.prog 28 #[.pointer pp] W fun e w' => e = .returned (.tuple #[.int .i64 0, .int .i64 0]) ∧ Lies N w0 w' (sepT T R) := by
  have HT := Lib.hid (fun f => topA_fail hT f H)
  clear H hT
  go_enter Try.func28, Try.ntmps28
  go_wp2_with fail
  refine (HT.out _).mono ?_
  rintro e w1 ⟨rfl, h⟩
  have HN := Lib.hid h
  clear h HT
  go_wp2_with fail
  go_quiet (fail)
  go_wp2_with fail
  go_ret2
  exact ⟨rfl, (HN.out.newBlk _ _).drop.drewN _⟩
theorem call_none (hT : IsFail 1 pp T) (number : Int) (x : Value) (H : Lies N w0 W (sepT T R)) : Calls Try.prog 13 #[.pointer pp, .int .i64 number, x] W fun e w' => e = .returned (.int .i64 1) ∧ Lies N w0 w' (sepT T R) := by
  have HN : Hid (Calls Try.prog 42 #[.pointer pp] W fun e w' => e = .returned (.bool true) ∧ W = w') := by
    refine Lib.hid ?_
    cases hT with
    | nil => exact none_nil W
    | unmade p n c A => exact none_at p 0 W (H.blk.1.cell 1)
  have HH := Lib.hid H
  clear H hT
  go_enter Try.func13, Try.ntmps13
  go_wp2_with fail
  refine HN.out.mono ?_
  rintro e w' ⟨rfl, rfl⟩
  go_wp2
  go_ret
  exact ⟨rfl, HH.out⟩
theorem calls_none (hT : IsFail 1 pp T) (H : Lies N w0 W (sepT T R)) : Calls Try.prog 31 #[.pointer pp] W fun e w' => e = .returned (.int .i64 0) ∧ Lies N w0 w' (sepT T R) := by
  have HN : Hid (Calls Try.prog 42 #[.pointer pp] W fun e w' => e = .returned (.bool true) ∧ W = w') := by
    refine Lib.hid ?_
    cases hT with
    | nil => exact none_nil W
    | unmade p n c A => exact none_at p 0 W (H.blk.1.cell 1)
  have HH := Lib.hid H
  clear H hT
  go_enter Try.func31, Try.ntmps31
  go_wp2_with fail
  refine HN.out.mono ?_
  rintro e w' ⟨rfl, rfl⟩
  go_wp2
  go_ret
  exact ⟨rfl, HH.out⟩
theorem values_none (hT : IsFail 1 pp T) (H : Lies N w0 W (sepT T R)) : Calls Try.prog 30 #[.pointer pp] W fun e w' => e = .returned (.slice none 0 0) ∧ Lies N w0 w' (sepT T R) := by
  have HN : Hid (Calls Try.prog 42 #[.pointer pp] W fun e w' => e = .returned (.bool true) ∧ W = w') := by
    refine Lib.hid ?_
    cases hT with
    | nil => exact none_nil W
    | unmade p n c A => exact none_at p 0 W (H.blk.1.cell 1)
  have HH := Lib.hid H
  clear H hT
  go_enter Try.func30, Try.ntmps30
  go_wp2_with fail
  refine HN.out.mono ?_
  rintro e w' ⟨rfl, rfl⟩
  go_wp2
  go_ret
  exact ⟨rfl, HH.out⟩
end
end Go.Proofs.Ytiaeckljpdhagaa
