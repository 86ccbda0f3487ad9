/- Pick; a list of ints handed in. -/
import Derived.Test.YtiaeckljpdhagaaFrHelp
import Derived.Test.YtiaeckljpdhagaaRows
import Derived.Test.YtiaeckljpdhagaaOpenS
import Derived.WalkKit
import Derived.ProofKit
import Derived.OpenShut
import Derived.ShutString
import Derived.ChangeOld
import Derived.SizedLaws
namespace Go.Proofs.Ytiaeckljpdhagaa
open Go.ChangeShapes Go.WideShapes Go.ChangeAt Go.RowKit
set_option linter.unusedVariables false
set_option linter.unusedSimpArgs false
theorem pick_any (x n : Int) (w : World) (hx1 : -9223372036854775808 ≤ x) (hx2 : x ≤ 9223372036854775807) (hn1 : 1 ≤ n) (hn2 : n ≤ 1000000) :
    Calls Try.prog 20 #[.int .i64 x, .int .i64 n] w fun e w' => ∃ r : Int, e = .returned (.int .i64 r) ∧ (0 ≤ r ∧ r < n) ∧ w = w' := by
  have h0 : ¬ n ≤ 0 := by omega
  have h0' : ¬ n = 0 := by omega
  have hb1 : x.tmod n < n := Int.tmod_lt_of_pos x (by omega)
  have hb2 : -n < x.tmod n := by
    have h := Int.tmod_lt_of_pos (-x) (show 0 < n by omega)
    rw [Int.neg_tmod] at h
    omega
  obtain ⟨r, hr⟩ : ∃ r, r = x.tmod n := ⟨_, rfl⟩
  by_cases hneg : r < 0
  · have hwr : IntKind.i64.wrap (r + n) = r + n := IntWalk.i64_in _ (by omega)
    rw [← hr] at hb1 hb2
    have HF : Hid (0 ≤ r + n ∧ r + n < n) := Lib.hid ⟨by omega, by omega⟩
    have hr' := hr.symm
    clear hr
    go_enter Try.func20, Try.ntmps20
    go_wp2
    go_ret
    exact ⟨_, rfl, HF.out, rfl⟩
  · rw [← hr] at hb1 hb2
    have HF : Hid (0 ≤ r ∧ r < n) := Lib.hid ⟨by omega, by omega⟩
    have hr' := hr.symm
    clear hr
    go_enter Try.func20, Try.ntmps20
    go_wp2
    go_ret
    exact ⟨_, rfl, HF.out, rfl⟩
theorem laid_out : laidOutB Try.prog = true := by kernel_rfl
theorem bd_int {x : Int} (h : (Lit.int .i64 x).wf = true) : -9223372036854775808 ≤ x ∧ x ≤ 9223372036854775807 := by
  simp only [Lit.wf, IntKind.min, IntKind.max, IntKind.signed, IntKind.bits, Bool.and_eq_true, decide_eq_true_eq] at h
  simp at h; exact h
set_option maxRecDepth 100000 in
theorem open_nums {H : Type} {enc : TypeId × Value → H} {W : World} {base : Nat} {v : Value} {d : DataW H} {p : List MemPlace} (hv : Value.okWide Try.prog W .any base 43 v)
    (h : DataW.Trod enc Try.prog W 0 (fun _ => true) true 43 v d p) (hs : ∀ elems spare, d = .slice elems spare → (elems.length + spare.length) * Try.prog.bytesOf 3 ≤ reachBytes) :
    ∃ (A : Option Addr) (c : Nat) (xs : List Int), v = .slice A xs.length c ∧ Reads W W.heap.size 1 A xs.length (xs.map (Value.int .i64)) ∧ (∀ x ∈ xs, -9223372036854775808 ≤ x ∧ x ≤ 9223372036854775807) ∧ (xs.length ≤ c ∧ xs.length ≤ 140737488351232) := by
  obtain ⟨a0, len, cap, rfl⟩ := okWide_slice Try.underlying43 hv
  obtain ⟨fuel, hf⟩ := h
  rcases open_ints Try.underlying43 Try.underlying3 (by kernel_rfl) hf with ⟨hcs, hx⟩ | ⟨a, len', cap', zs, hcs, _, hlc, hcm, hzl, hx, hel, hwf⟩
  · simp [Value.cells] at hcs
    obtain ⟨rfl, rfl, rfl⟩ := hcs
    exact ⟨none, 0, [], rfl, ⟨rfl, fun h => absurd h (by simp)⟩, fun x hx => by simp at hx, by simp⟩
  · simp [Value.cells] at hcs
    obtain ⟨rfl, rfl, rfl⟩ := hcs
    simp only [if_true] at hzl
    have hd := (Prod.mk.injEq _ _ _ _).mp hx
    have h1 := hs _ _ hd.1
    have htl : (zs.take len).length = len := by rw [List.length_take]; omega
    refine ⟨some a, cap, zs.take len, by rw [htl], ⟨by simp, fun hp => ?_⟩, fun x hx => bd_int (hwf x (List.mem_of_mem_take hx)), by omega, ?_⟩
    · rw [htl] at hp
      refine ⟨a, rfl, ?_, fun j u hu => ?_⟩
      · have h0 := hel 0 (by omega)
        rw [show a.add 0 = a from rfl] at h0
        exact lt_of_cell h0
      · rw [List.getElem?_map, Option.map_eq_some_iff] at hu
        obtain ⟨x, hx, rfl⟩ := hu
        have hj : j < (zs.take len).length := (List.getElem?_eq_some_iff.1 hx).1
        rw [hel j (by omega)]
        rw [List.getElem?_take_of_lt (by omega)] at hx
        rw [List.getD_eq_getElem?_getD, hx]
        rfl
    · have hb : Try.prog.bytesOf 3 = 8 := by kernel_rfl
      rw [hb] at h1
      have hl2 : (lits (H := H) .i64 (zs.take len)).length = len := by simp [lits]; omega
      rw [hl2] at h1
      simp only [reachBytes] at h1
      rw [htl]
      omega
end Go.Proofs.Ytiaeckljpdhagaa
