/- codec.reader: what its methods tell, as things; variable, operand. -/
import Derived.Test.YtcapdmicekialaaCoRd
import Derived.Test.YtcapdmicekialaaCoThings
import Derived.Laws.ResultCell
namespace Go.Proofs.Ytcapdmicekialaa
open Go.RowKit
set_option linter.unusedVariables false
set_option linter.unusedSimpArgs false
attribute [local go_sem] Oper.semAt_some run_store_func run_store_nilFunc
theorem bind_ok {α β : Type} {r : Rdr α} {f : α → Rdr β} {s s' : RS} {a : α} (h : r s = .ok (a, s')) : r.bind f s = f a s' := by unfold Rdr.bind; rw [h]
theorem bind_err {α β : Type} {r : Rdr α} {f : α → Rdr β} {s : RS} {e : Int × Int} (h : r s = .error e) : r.bind f s = .error e := by unfold Rdr.bind; rw [h]
def valOf : List Value → Value
  | [v] => v
  | cs => .agg cs.toArray
/-- What a reading method comes to: data with all that lies below it, or a fault. -/
def RdT {α : Type} (N : Nat) (w0 : World) (R : Thing) (p : Nat) (bs : List UInt8) (el : List Value → α → Thing) (r : Except (Int × Int) (α × RS)) (e : Ending) (w' : World) : Prop :=
  match r with
  | .ok (a, s') => s'.2.1 = 0 ∧ ∃ cs, e = .returned (valOf cs) ∧ Lies N w0 w' (sepT (crT p bs s') (sepT (el cs a) R))
  | .error f => e = .panicked [{ v := wrongV f, recovered := false }] ∧ ∃ s', Lies N w0 w' (sepT (crT p bs s') R)
section
variable {N : Nat} {w0 W : World} {R M : Thing} {p : Nat} {bs : List UInt8} {s : RS}
theorem rWord_most (bs : List UInt8) (s : RS) (m : Nat) : (rWord bs s m).1.length ≤ m := by
  unfold rWord
  split
  · simp
  · split
    · simp
    · split
      · simp
      · split
        · simp
        · simp only [List.length_take, List.length_drop]
          omega
theorem wordR_ok {a : ByteArray} {s' : RS} (h : wordR bs s = .ok (a, s')) : sz a ∧ s'.2.1 = 0 := by
  unfold wordR at h
  by_cases h0 : (rWord bs s 1000).2.2.1 = 0
  · rw [if_pos h0] at h
    injection h with h
    injection h with h1 h2
    refine ⟨?_, h2 ▸ h0⟩
    rw [← h1]
    unfold sz
    show (rWord bs s 1000).1.toArray.size ≤ _
    have : (rWord bs s 1000).1.length ≤ 1000 := rWord_most bs s 1000
    simp only [List.size_toArray]
    omega
  · rw [if_neg h0] at h; cases h
theorem rword_t (H : Lies N w0 W (sepT (crT p bs s) R)) : Calls Try.prog 71 #[.pointer (some ⟨p, 0, none⟩)] W (RdT N w0 R p bs txT.el (wordR bs s)) := by
  refine (rword_any H).mono fun e w' h => ?_
  unfold RdP at h
  unfold RdT
  rcases h1 : wordR bs s with f | ⟨a, s'⟩
  · rw [h1] at h; exact h
  · rw [h1] at h
    obtain ⟨hz, h0⟩ := wordR_ok h1
    obtain ⟨he, h⟩ := h
    exact ⟨h0, [.string a], he, (h.withFact (φ := ([.string a] : List Value) = [.string a] ∧ sz a) ⟨rfl, hz⟩).turn (show sepT (txT.el [.string a] a) (sepT (crT p bs s') R) = _ by ac_rfl)⟩
set_option maxRecDepth 100000 in
theorem rvar_any (H : Lies N w0 W (sepT (crT p bs s) R)) : Calls Try.prog 102 #[.pointer (some ⟨p, 0, none⟩)] W (RdT N w0 R p bs vrT.el (vrR bs s)) := by
  have HC := Lib.hid (rword_any ((H.newBlk 151 #[.string ⟨#[]⟩, .string ⟨#[]⟩]).turn (a' := sepT (crT p bs s) (sepT (blkT W.heap.size 151 #[.string ⟨#[]⟩, .string ⟨#[]⟩]) R)) (by ac_rfl)))
  clear H
  go_enter Try.func102, Try.ntmps102
  go_wp2_with fail
  refine HC.out.mono ?_
  intro e w1 hr
  clear HC
  unfold RdP at hr
  rcases h1 : wordR bs s with f | ⟨a1, s1⟩ <;> rw [h1] at hr
  · obtain ⟨rfl, k, h⟩ := hr
    have HE : Hid (vrR bs s = .error f) := Lib.hid (by unfold vrR; rw [bind_err h1])
    have HF := Lib.hid (h.turn (a' := sepT (blkT W.heap.size 151 #[.string ⟨#[]⟩, .string ⟨#[]⟩]) (sepT (crT p bs k) R)) (by ac_rfl)).drop
    clear h h1
    go_wp2_with fail
    refine ⟨rfl, ?_⟩
    rw [HE.out]
    exact ⟨rfl, _, HF.out⟩
  · obtain ⟨rfl, h⟩ := hr
    have H1 := Lib.hid h1
    have HC := Lib.hid (rword_any h)
    clear h h1
    go_wp2_with fail
    refine HC.out.mono ?_
    intro e w2 hr
    clear HC
    unfold RdP at hr
    rcases h2 : wordR bs s1 with f | ⟨a2, s2⟩ <;> rw [h2] at hr
    · obtain ⟨rfl, k, h⟩ := hr
      have HE : Hid (vrR bs s = .error f) := Lib.hid (by unfold vrR; rw [bind_ok H1.out, bind_err h2])
      have HF := Lib.hid (h.turn (a' := sepT (blkT W.heap.size 151 #[.string ⟨#[]⟩, .string ⟨#[]⟩]) (sepT (crT p bs k) R)) (by ac_rfl)).drop
      clear h h2
      go_wp2_with fail
      refine ⟨rfl, ?_⟩
      rw [HE.out]
      exact ⟨rfl, _, HF.out⟩
    · obtain ⟨rfl, h⟩ := hr
      have HE : Hid (vrR bs s = .ok ((a1, a2), s2)) := Lib.hid (by unfold vrR; rw [bind_ok H1.out, bind_ok h2]; rfl)
      have HZ := Lib.hid (And.intro (wordR_ok H1.out).1 (And.intro (wordR_ok h2).1 (wordR_ok h2).2))
      have h3 := (h.turn (a' := sepT (blkT W.heap.size 151 #[.string ⟨#[]⟩, .string ⟨#[]⟩]) (sepT (crT p bs s2) R)) (by ac_rfl))
      have hb := h3.blk.1
      have f0 := hb.frozen 0
      have f1 := hb.frozen 1
      have e0 := hb.cell 0
      have e1 := hb.cell 1
      simp at e0 e1
      have HF := Lib.hid ((h3.setBlk 0 (.string a1)).setBlk 1 (.string a2))
      clear h h2 h3 hb
      go_wp2_with fail
      refine bodyPost_ret (results_cell_row rfl _ _ W.heap.size 151 #[.string a1, .string a2] (0, 0) _ rfl HF.out.blk.1 Try.underlying151 rfl (by kernel_rfl)) rfl ?_
      rw [HE.out]
      exact ⟨HZ.out.2.2, [.string a1, .string a2], rfl, (HF.out.drop.withFact (φ := ([.string a1, .string a2] : List Value) = [.string a1, .string a2] ∧ sz a1 ∧ sz a2) ⟨rfl, HZ.out.1, HZ.out.2.1⟩).turn (show sepT (vrT.el [.string a1, .string a2] (a1, a2)) (sepT (crT p bs s2) R) = _ by ac_rfl)⟩
end
end Go.Proofs.Ytcapdmicekialaa
