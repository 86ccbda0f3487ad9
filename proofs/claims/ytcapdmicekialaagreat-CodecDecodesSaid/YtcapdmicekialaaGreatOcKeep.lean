/- octet.Reader: keep, the deferred call. -/
import Derived.Test.YtcapdmicekialaaGreatOcRdNum
namespace Go.Proofs.YtcapdmicekialaaGreat
open Go.RowKit
attribute [local go_sem] Oper.semAt_some run_store_func run_store_nilFunc

theorem assert_brk (e : Int) (w : World) : (Instr.typeAssert (.iface 180 (.agg #[.int .i64 e])) 20 180 true).run Tryz.prog w = .ok (.tuple #[.agg #[.int .i64 e], .bool true]) w := by kernel_rfl
theorem keep_idle (p : Nat) (k : Int) (w : World) :
    CallsD Tryz.prog 131 #[.pointer (some ⟨p, 0, none⟩), .int .i64 k] .returning w fun e u' w' => e = .returned (.tuple #[]) ∧ u' = .returning ∧ w = w' := by
  refine callsD_of_wpS Tryz.func131 rfl fun c₀ cs hu => ?_
  apply wpS_seq
  apply wpS_region
  simp [wpOpsS, go_sem, recoverD, hu, Tryz.ntmps131, Exit.thenS]
  refine wpS_of_wp ?_
  simp only [Array.replicate_succ, Array.replicate_zero, List.push_toArray, List.append_toArray, List.nil_append, List.cons_append, List.setIfInBounds_toArray, List.set_cons_succ, List.set_cons_zero]
  go_wp2_with fail
  obtain ⟨c1, c2, c3, c4, c5, c6, c7⟩ := c₀
  simp only at hu
  subst hu
  simp [bodyPostS, results, Tryz.results131]
set_option maxRecDepth 100000 in
theorem keep_panic (p : Nat) (bs : List UInt8) (at_ k : Nat) (e0 ea e : Int) (v : Value) (older : List PanicEntry) (w : World) (h : Rd w p bs at_ e0 ea v) (hk : k ≤ bs.length) :
    CallsD Tryz.prog 131 #[.pointer (some ⟨p, 0, none⟩), .int .i64 k] (.panicking ({ v := brk e, recovered := false } :: older)) w fun e' u' w' =>
      e' = .returned (.tuple #[]) ∧ u' = .panicking ({ v := brk e, recovered := true } :: older) ∧ RdAt p bs k e k v w w' := by
  have hp := h.blk.lt
  have f1 := h.blk.frozen 1
  have f2 := h.blk.frozen 2
  have f3 := h.blk.frozen 3
  have c1 := h.blk.cell 1
  have c2 := h.blk.cell 2
  have c3 := h.blk.cell 3
  simp at c1 c2 c3
  have d2 : ((w.setCell ⟨p, 1, none⟩ (.int .i64 k)).alloc (.cells #[.int .i64 e] 180)).cell? ⟨p, 2, none⟩ = some (.int .i64 e0) := ((h.blk.set_ 1 (.int .i64 k)).alloc (.cells #[.int .i64 e] 180)).cell 2
  have g2 : ((w.setCell ⟨p, 1, none⟩ (.int .i64 k)).alloc (.cells #[.int .i64 e] 180)).frozen? ⟨p, 2, none⟩ = false := ((h.blk.set_ 1 (.int .i64 k)).alloc (.cells #[.int .i64 e] 180)).frozen 2
  have d3 : (((w.setCell ⟨p, 1, none⟩ (.int .i64 k)).setCell ⟨p, 2, none⟩ (.int .i64 e)).alloc (.cells #[.int .i64 e] 180)).cell? ⟨p, 3, none⟩ = some (.int .i64 ea) := (((h.blk.set_ 1 (.int .i64 k)).set_ 2 (.int .i64 e)).alloc (.cells #[.int .i64 e] 180)).cell 3
  have g3 : (((w.setCell ⟨p, 1, none⟩ (.int .i64 k)).setCell ⟨p, 2, none⟩ (.int .i64 e)).alloc (.cells #[.int .i64 e] 180)).frozen? ⟨p, 3, none⟩ = false := (((h.blk.set_ 1 (.int .i64 k)).set_ 2 (.int .i64 e)).alloc (.cells #[.int .i64 e] 180)).frozen 3
  have H := Lib.hid h
  have hne : ¬ w.heap.size = p := by omega
  clear h
  refine callsD_of_wpS Tryz.func131 rfl fun c₀ cs hu => ?_
  apply wpS_seq
  apply wpS_region
  simp [wpOpsS, go_sem, recoverD, hu, Tryz.ntmps131, Exit.thenS]
  refine wpS_of_wp ?_
  simp only [Array.replicate_succ, Array.replicate_zero, List.push_toArray, List.append_toArray, List.nil_append, List.cons_append, List.setIfInBounds_toArray, List.set_cons_succ, List.set_cons_zero]
  unfold brk
  have hta := assert_brk e
  go_wp2_with fail
  refine ⟨rfl, _, rfl, .tuple #[], by simp [results, Tryz.results131], rfl, rfl, ?_⟩
  have hne2 := own_blk_ne H.out.own H.out.blk (by decide)
  have o1 := ((Only.setCell (S := (· = p)) w ⟨p, 1, none⟩ (.int .i64 k) rfl).trans (Only.setCell (S := (· = p)) _ ⟨p, 2, none⟩ (.int .i64 e) rfl)).trans (Only.setCell (S := (· = p)) _ ⟨p, 3, none⟩ (.int .i64 k) rfl)
  have o2 := o1.trans (Only.alloc (· = p) _ (.cells #[.int .i64 e] 180))
  exact ⟨⟨(((H.out.blk.set_ 1 _).set_ 2 _).set_ 3 _).alloc _, own_only o2 H.out.own (fun g _ hg he => hne2 (by rw [hg, he])), hk, H.out.small⟩, o2⟩
end Go.Proofs.YtcapdmicekialaaGreat
