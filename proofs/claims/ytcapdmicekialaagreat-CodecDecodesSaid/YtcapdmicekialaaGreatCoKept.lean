/- KeptBytes. -/
import Derived.Test.YtcapdmicekialaaGreatCoLent
namespace Go.Proofs.YtcapdmicekialaaGreat
open Go.RowKit
set_option linter.unusedVariables false
set_option linter.unusedSimpArgs false
attribute [local go_sem] Oper.semAt_some run_store_func run_store_nilFunc
theorem kept_parts {w : World} {g c n : Nat} {bs : List UInt8} {base : Nat} (hn : n = bs.length) (h : w.ownsRow base 5 1 (.slice (some ⟨g, 0, none⟩) (n + 4) c) (n + 4) (bytesV bs ++ lentT)) : n + 4 ≤ c ∧ Reads w w.heap.size 1 (some ⟨g, 0, none⟩) n (bytesV bs) ∧ Reads w w.heap.size 1 (some ⟨g, n, none⟩) 4 lentT := by
  have hr := Reads.of_own h
  have hcap : n + 4 ≤ c := by
    rcases h.2 with ⟨hh, _⟩ | ⟨g', cap, cur, hh, _, _, hc, _⟩
    · cases hh
    · injection hh with _ _ hh; omega
  obtain ⟨ad, e, hb, hcell⟩ := hr.2 (by omega)
  obtain rfl := Option.some.inj e
  refine ⟨hcap, ⟨by rw [bytesV_len, hn, Nat.mul_one], fun _ => ⟨_, rfl, hb, fun j u hu => hcell j u ?_⟩⟩, ⟨rfl, fun _ => ⟨_, rfl, hb, fun j u hu => ?_⟩⟩⟩
  · have hj : j < (bytesV bs).length := by
      rcases Nat.lt_or_ge j (bytesV bs).length with x | x
      · exact x
      · rw [List.getElem?_eq_none x] at hu; cases hu
    rw [List.getElem?_append_left hj]; exact hu
  · have := hcell (n + j) u (by rw [List.getElem?_append_right (by rw [bytesV_len, hn]; omega), bytesV_len, hn, Nat.add_sub_cancel_left]; exact hu)
    rw [show (⟨g, n, none⟩ : Addr).add j = (⟨g, 0, none⟩ : Addr).add (n + j) from by unfold Addr.add; by_cases h1 : j = 0 <;> by_cases h2 : n = 0 <;> simp [h1, h2]]
    exact this
theorem slice_all (A : Option Addr) (i c : Nat) (w : World) : (Instr.sliceAt 31 (.slice A i c) none (some (.int .i64 (c : Int))) none).run Tryz.prog w = .ok (.slice A c c) w := slice_toB A i c c (Int.le_refl _) w
def loKb (i : Nat) : Nat := if 30 ≤ i then 1 else 0
def upKb (i : Nat) : Nat := if 21 ≤ i then 1 else 0
theorem lentT_eq : lentT = bytesV [201, 202, 203, 204] := rfl
set_option maxRecDepth 100000 in
set_option maxHeartbeats 1600000 in
theorem kept_any {w : World} {A B : Option Addr} {c cb base : Nat} {bs : List UInt8} (hl : bs.length ≤ 140737488351232) (h : w.ownsRow base 5 1 (.slice A (bs.length + 4) c) (bs.length + 4) (bytesV bs ++ lentT)) (hb : Reads w w.heap.size 1 B bs.length (bytesV bs)) :
    Calls Tryz.prog 17 #[.slice A bs.length c, .slice B bs.length cb] w fun e w' => e = .returned (.bool true) ∧ Below w.heap.size w w' := by
  obtain ⟨g, rfl⟩ : ∃ g, A = some ⟨g, 0, none⟩ := by
    rcases h.2 with ⟨hh, hn⟩ | ⟨g', cap, cur, hh, _⟩
    · omega
    · injection hh with hh _ _; exact ⟨g', hh⟩
  obtain ⟨hcap, hr1, hr2⟩ := kept_parts rfl h
  obtain ⟨n, hn⟩ : ∃ n, n = bs.length := ⟨_, rfl⟩
  have hsl := slice_all
  have hsm : ∀ w, (Instr.sliceAt 31 (.slice (some ⟨g, 0, none⟩) c c) (some (.int .i64 (n : Int))) (some (.int .i64 ((n : Int) + 4))) none).run Tryz.prog w = .ok (.slice (some ⟨g, n, none⟩) 4 (c - n)) w := fun w => by
    have := slice_mid (some ⟨g, 0, none⟩) c c n (n + 4) (by omega) (by omega) w
    rw [Nat.add_sub_cancel_left, Int.natCast_add, if_neg (by omega : ¬ c = n), show ((4 : Nat) : Int) = 4 from rfl] at this
    rw [this]
    simp [Addr.add]
    omega
  have hc1 := conv_reads (P := Tryz.prog) w.drew 31 9 5 Tryz.underlying31 Tryz.underlying5 Tryz.underlying9 c hr1.drew
  have hc2 := conv_reads (P := Tryz.prog) w.drew 31 9 5 Tryz.underlying31 Tryz.underlying5 Tryz.underlying9 cb hb.drew
  have hr2' : Reads w w.heap.size 1 (some ⟨g, n, none⟩) [201, 202, 203, 204].length (bytesV [201, 202, 203, 204]) := by rw [hn]; exact hr2
  have hc3 := conv_reads (P := Tryz.prog) w.drew 31 9 5 Tryz.underlying31 Tryz.underlying5 Tryz.underlying9 (c - n) hr2'.drew
  have hc4 := conv_reads (P := Tryz.prog) ((w.alloc (.cells #[.int .u8 201, .int .u8 202, .int .u8 203, .int .u8 204] 5)).drew) 31 9 5 Tryz.underlying31 Tryz.underlying5 Tryz.underlying9 (c - n) ((hr2'.alloc (Nat.le_refl _) (.cells #[.int .u8 201, .int .u8 202, .int .u8 203, .int .u8 204] 5)).drew)
  have hr5 := (reads_new w [201, 202, 203, 204]).drew
  have hc5 := conv_reads (P := Tryz.prog) ((w.alloc (.cells #[.int .u8 201, .int .u8 202, .int .u8 203, .int .u8 204] 5)).drew) 31 9 5 Tryz.underlying31 Tryz.underlying5 Tryz.underlying9 4 hr5
  rw [← hn] at hc1 hc2 hcap hl
  rw [← hn]
  simp only [List.length_cons, List.length_nil, Nat.zero_add, Nat.reduceAdd] at hc3 hc4 hc5
  generalize strB [201, 202, 203, 204] = sl at *
  generalize strB bs = sb at *
  have HB : Hid (Below w.heap.size w (w.drew.alloc (.cells #[.int .u8 201, .int .u8 202, .int .u8 203, .int .u8 204] 5))) := Lib.hid ((Below.refl _ _).drew.alloc (Nat.le_refl _) _)
  have hww : IntKind.i64.wrap ((n : Int) + 4) = (n : Int) + 4 := IntWalk.i64_in _ (by omega)
  have hge : (n : Int) + 4 ≤ (c : Int) := by omega
  clear hr1 hr2 hr2' hr5 h hb hn
  go_enter Tryz.func17, Tryz.ntmps17
  go_wp2_with fail
  refine wp_region_text [29] loKb upKb (by kernel_rfl) (by kernel_rfl) (by kernel_rfl) (by kernel_rfl) (by kernel_rfl) ?_
  repeat (first | (refine wpTx_now (by rfl) (by rfl) (by rfl) (fun K hK => ?_); go_simp; refine hK _ ?_; clear hK K) | (refine wpTx_late [] (by rfl) (by rfl) (by rfl) (fun K hK => ?_); go_simp; refine hK _ _ ?_; clear hK K))
  refine wpTx_eff (by rfl) (fun K hK => ?_)
  go_simp
  refine hK _ _ (by repeat (first | exact lateOK_nil | refine lateOK_skip (by rfl) ?_ | refine lateOK_cons (by go_simp) ?_)) ?_
  clear hK K
  repeat (refine wpTx_now (by rfl) (by rfl) (by rfl) (fun K hK => ?_); go_simp; refine hK _ ?_; clear hK K)
  refine wpTx_nil ?_
  go_wp2_with fail
  go_ret
  exact ⟨rfl, HB.out⟩
end Go.Proofs.YtcapdmicekialaaGreat
