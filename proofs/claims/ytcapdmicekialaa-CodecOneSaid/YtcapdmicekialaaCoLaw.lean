/- Pick; CopyBytes. -/
import Derived.Test.YtcapdmicekialaaCoKnAll
import Derived.Test.YtcapdmicekialaaCoMnAll
namespace Go.Proofs.Ytcapdmicekialaa
open Go.RowKit
set_option linter.unusedVariables false
set_option linter.unusedSimpArgs false
attribute [local go_sem] Oper.semAt_some run_store_func run_store_nilFunc
theorem pick_any (x n : Int) (w : World) (hx1 : -9223372036854775808 ≤ x) (hx2 : x ≤ 9223372036854775807) (hn1 : 1 ≤ n) (hn2 : n ≤ 1099511627776) :
    Calls Try.prog 34 #[.int .i64 x, .int .i64 n] w fun e w' => ∃ r : Nat, e = .returned (.int .i64 r) ∧ (r : Int) < n ∧ w = w' := by
  have h0 : ¬ n ≤ 0 := by omega
  have h0' : ¬ n = 0 := by omega
  have hb1 : x.tmod n < n := Int.tmod_lt_of_pos x (by omega)
  have hb2 : -n < x.tmod n := by
    have h := Int.tmod_lt_of_pos (-x) (show 0 < n by omega)
    rw [Int.neg_tmod] at h
    omega
  obtain ⟨r, hr⟩ : ∃ r, r = x.tmod n := ⟨_, rfl⟩
  by_cases hneg : r < 0
  · have hwr : IntKind.i64.wrap (r + n) = r + n := IntWalk.i64_in _ (by omega)
    rw [← hr] at hb1 hb2
    have HF : Hid (0 ≤ r + n ∧ r + n < n) := Lib.hid ⟨by omega, by omega⟩
    have hr' := hr.symm
    clear hr
    go_enter Try.func34, Try.ntmps34
    go_wp2
    go_ret
    exact ⟨(r + n).toNat, by rw [Int.toNat_of_nonneg HF.out.1]; rfl, by rw [Int.toNat_of_nonneg HF.out.1]; exact HF.out.2, rfl⟩
  · rw [← hr] at hb1 hb2
    have HF : Hid (0 ≤ r ∧ r < n) := Lib.hid ⟨by omega, by omega⟩
    have hr' := hr.symm
    clear hr
    go_enter Try.func34, Try.ntmps34
    go_wp2
    go_ret
    exact ⟨r.toNat, by rw [Int.toNat_of_nonneg HF.out.1]; rfl, by rw [Int.toNat_of_nonneg HF.out.1]; exact HF.out.2, rfl⟩
theorem info_byte : (Try.prog.info? 5).map (fun i => (i.zero, i.size, i.bytes)) = some (some (.int .u8 0), 1, 1) := by kernel_rfl
theorem bytes_one (bs : List UInt8) : ∀ u ∈ bytesV bs, u.oneCell' = true := by
  intro u hu
  obtain ⟨b, _, rfl⟩ := List.mem_map.1 hu
  rfl
theorem take_reads {W : World} {B : Nat} {A : Option Addr} {bs : List UInt8} (h : Reads W B 1 A bs.length (bytesV bs)) (k : Nat) (hk : k ≤ bs.length) : Reads W B 1 A (bs.take k).length (bytesV (bs.take k)) := by
  refine ⟨by rw [bytesV_len, Nat.mul_one], fun hn => ?_⟩
  have hl : (bs.take k).length = k := by rw [List.length_take]; omega
  obtain ⟨ad, hA, hb, hc⟩ := h.2 (by omega)
  refine ⟨ad, hA, hb, fun j u hu => hc j u ?_⟩
  unfold bytesV at hu ⊢
  rw [List.map_take, List.getElem?_take] at hu
  split at hu
  · exact hu
  · cases hu
set_option maxRecDepth 100000 in
theorem copy_any (A : Option Addr) (c : Nat) (bs : List UInt8) (W : World) (hx : Reads W W.heap.size 1 A bs.length (bytesV bs)) (hl : bs.length ≤ 140737488355328) :
    Calls Try.prog 41 #[.slice A bs.length c] W fun e w' => ∃ A' c', e = .returned (.slice A' bs.length c') ∧ Lies W.heap.size W w' (byT A' c' bs) := by
  obtain ⟨i0, hi0, hz0, hz1, hz2⟩ := info_parts info_byte
  have hba := below_alloc W (.cells #[] 5)
  have HX := Lib.hid ((hx.below hba).more hba.size)
  have hown0 : (W.alloc (.cells #[] 5)).ownsRow W.heap.size 5 1 (.slice (some ⟨W.heap.size, 0, none⟩) 0 0) 0 [] := World.ownsRow_lit W #[] 0 (Nat.le_refl _) (Nat.zero_le _) rfl
  have HO := Lib.hid hown0
  obtain ⟨n, hn⟩ : ∃ n, n = bs.length := ⟨_, rfl⟩
  rw [← hn] at HX hl ⊢
  have HN := Lib.hid hn
  clear hx hba hown0 hn
  go_enter Try.func41, Try.ntmps41
  go_wp2_with (at_builtin; refine wpList_append_any _ rfl (.tmp 3) (.tmp 4) _ rfl W.heap.size 5 i0 _ 1 1 Try.underlying36 hi0 hz0 hz1 hz2 rfl (by decide) (.slice (some ⟨W.heap.size, 0, none⟩) 0 0) 0 [] rfl HO.out _ A n c (bytesV bs) rfl HX.out (bytes_one bs) (by simp only [maxLen]; omega) (by omega) (by simp) ?_; intro v' w1 hown' hgrow hat; rw [Nat.zero_add, List.nil_append] at hown'; obtain ⟨A', c', rfl, _⟩ := gro_form hown')
  go_ret
  refine ⟨A', c', rfl, ?_⟩
  have ho1 : Only (fun b => W.heap.size ≤ b) W w1 := (Only.alloc _ W (.cells #[] 5)).trans ((Only.grown hgrow).mono fun b hb => by simp [Value.ownBlock] at hb; omega)
  refine ⟨⟨_, ⟨?_, rfl⟩, fun b hb => (World.ownsRow.lt hown' b (by rw [HN.out]; exact hb.symm)).1⟩, ho1.below (Nat.le_refl _) (fun b hb => hb), Nat.le_refl _⟩
  rw [← HN.out]
  exact hown'.mono (Nat.zero_le _)
end Go.Proofs.Ytcapdmicekialaa
