/- A list of bytes, opened. -/
import Derived.Test.YtcapdmicekialaaGreatRows
import Derived.Test.YtcapdmicekialaaGreatOcIter
import Derived.WalkKit
import Derived.ProofKit
import Derived.OpenShut
import Derived.ShutString
import Derived.ChangeOld
import Derived.Below
import Derived.SizedLaws
namespace Go.Proofs.YtcapdmicekialaaGreat
open Go.ChangeShapes Go.WideShapes Go.ChangeAt Go.RowKit
theorem laid_out : laidOutB Tryz.prog = true := by kernel_rfl
theorem bd_byte {x : Int} (h : (Lit.int .u8 x).wf = true) : 0 ≤ x ∧ x ≤ 255 := by
  simp only [Lit.wf, IntKind.min, IntKind.max, IntKind.signed, IntKind.bits, Bool.and_eq_true] at h
  simp at h; exact h
set_option maxRecDepth 100000 in
theorem open_bytes {H : Type} {enc : TypeId × Value → H} {W : World} {base : Nat} {v : Value} {d : DataW H} {p : List MemPlace} (hv : Value.okWide Tryz.prog W .any base 31 v)
    (h : DataW.Trod enc Tryz.prog W 0 (fun _ => true) true 31 v d p) (hs : ∀ elems spare, d = .slice elems spare → (elems.length + spare.length) * Tryz.prog.bytesOf 5 ≤ reachBytes) :
    ∃ A c bs, v = .slice A bs.length c ∧ Reads W W.heap.size 1 A bs.length (bytesV bs) ∧ bs.length ≤ c ∧ bs.length ≤ 140737488351232 := by
  obtain ⟨a0, len, cap, rfl⟩ := okWide_slice Tryz.underlying31 hv
  obtain ⟨fuel, hf⟩ := h
  rcases open_ints Tryz.underlying31 Tryz.underlying5 (by kernel_rfl) hf with ⟨hcs, hx⟩ | ⟨a, len', cap', zs, hcs, _, hlc, hcm, hz, hx, hcell, hw⟩
  · simp [Value.cells] at hcs
    obtain ⟨rfl, rfl, rfl⟩ := hcs
    exact ⟨none, 0, [], rfl, Reads.none_, Nat.le_refl _, by decide⟩
  · simp [Value.cells] at hcs
    obtain ⟨rfl, rfl, rfl⟩ := hcs
    simp only [if_true] at hz
    have hlen : ((zs.take len).map fun z => UInt8.ofNat z.toNat).length = len := by rw [List.length_map, List.length_take]; omega
    refine ⟨some a, cap, (zs.take len).map fun z => UInt8.ofNat z.toNat, by rw [hlen], ⟨by rw [bytesV_len, Nat.mul_one], fun hp => ?_⟩, by rw [hlen]; exact hlc, ?_⟩
    · rw [hlen] at hp
      refine ⟨a, rfl, ?_, fun j u hu => ?_⟩
      · have h0 := hcell 0 (by omega)
        exact lt_of_cell h0
      · have hj : j < len := by
          rcases Nat.lt_or_ge j len with x | x
          · exact x
          · rw [List.getElem?_eq_none (by rw [bytesV_len, hlen]; exact x)] at hu; cases hu
        have hjz : j < zs.length := by omega
        have hb := bd_byte (hw _ (List.getElem_mem hjz))
        rw [hcell j hjz, List.getD_eq_getElem?_getD, List.getElem?_eq_getElem hjz]
        unfold bytesV at hu
        rw [List.getElem?_map, List.getElem?_map, List.getElem?_take_of_lt hj, List.getElem?_eq_getElem hjz] at hu
        simp only [Option.map_some, Option.some.injEq] at hu
        rw [← hu]
        have e : ((UInt8.ofNat (zs[j]).toNat).toNat : Int) = zs[j] := by rw [ofNat_nat (by omega)]; omega
        rw [e]
        rfl
    · rw [hlen]
      have hd := (Prod.mk.injEq _ _ _ _).mp hx
      have := hs _ _ hd.1
      have hb : Tryz.prog.bytesOf 5 = 1 := by kernel_rfl
      rw [hb] at this
      simp only [lits, List.length_map, List.length_take, List.length_drop, reachBytes] at this
      omega
end Go.Proofs.YtcapdmicekialaaGreat
