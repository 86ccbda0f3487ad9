/- Values appended one by one: of, CopyValues. -/
import Derived.Test.YtiaeckljpdhagaaFrKit
namespace Go.Proofs.Ytiaeckljpdhagaa
open Go.RowKit
set_option linter.unusedVariables false
set_option linter.unusedSimpArgs false
attribute [local go_sem] Oper.semAt_some run_store_func run_store_nilFunc
/-- The value that is an int. -/
def vi (n : Int) : Val := ⟨1, n, 0, ⟨#[]⟩, []⟩
theorem vi_ok (n : Int) : (vi n).ok := by show (0 : Nat) ≤ 1000000; omega
section
variable {N : Nat} {w0 W : World} {R : Thing}
theorem append_one (acc : List AV) (out : Value) (v : Val) (A0 : Option Addr) (c0 : Nat) (H : Lies N w0 W (sepT (rowsT out acc) (sepT (chainT v (.slice A0 v.lay.length c0)) R))) (hn : (acc.length + 1) * 64 ≤ 140737488355328) :
    ∃ acc2, acc2 = acc ++ [(v, .slice A0 v.lay.length c0)] ∧ ∃ A' c' w', (Builtin.append_ #[31, 31] 31 #[out, .slice (some ⟨W.heap.size, 0, none⟩) 1 1]).run Try.prog (W.alloc (.cells #[.int .i64 v.tag, .int .i64 v.n, .int .u64 v.bits, .string v.s, .slice A0 v.lay.length c0] 30)) = .ok (.slice A' acc2.length c') w' ∧ Lies N w0 w' (sepT (rowsT (.slice A' acc2.length c') acc2) R) ∧ W.heap.size ≤ w'.heap.size := by
  obtain ⟨W1, hW1⟩ : ∃ W1, W1 = W.alloc (.cells #[.int .i64 v.tag, .int .i64 v.n, .int .u64 v.bits, .string v.s, .slice A0 v.lay.length c0] 30) := ⟨_, rfl⟩
  have H1 : Lies N w0 W1 (sepT (rowT 30 5 out acc.length (avV acc)) (sepT (chainsT acc) (sepT (chainT v (.slice A0 v.lay.length c0)) R))) := by rw [hW1]; exact (H.alloc _).turn (by unfold rowsT; ac_rfl)
  obtain ⟨i0, hi0, hz0, hz1, hz2⟩ := info_parts infoV
  have hnr : Reads W1 (W.heap.size + 1) 5 (some ⟨W.heap.size, 0, none⟩) 1 (v.cs (.slice A0 v.lay.length c0)) := by rw [hW1]; exact new_reads W 30 5 _ rfl _ rfl
  obtain ⟨v', w', hrun, hown, hgrow, hat⟩ := run_append_any (P := Try.prog) W1 0 31 31 30 i0 _ 5 64 Try.underlying31 hi0 hz0 hz1 hz2 rfl (by decide) out acc.length (avV acc) H1.row _ (some ⟨W.heap.size, 0, none⟩) 1 1 (v.cs (.slice A0 v.lay.length c0)) hnr
    (by intro u hu; simp [Val.cs] at hu; rcases hu with rfl | rfl | rfl | rfl | rfl <;> rfl) (by simp only [maxLen]; omega) (by omega) (Nat.zero_le _)
  obtain ⟨A', c', rfl, _⟩ := own_form hown
  have h3 := H1.grown hown hgrow hat
  have hs1 : W1.heap.size = W.heap.size + 1 := by rw [hW1]; simp
  subst hW1
  have e : (acc ++ [(v, Value.slice A0 v.lay.length c0)]).length = acc.length + 1 := by simp
  refine ⟨_, rfl, A', c', w', by rw [e]; exact hrun, ?_, by have := hgrow.size; omega⟩
  refine h3.turn ?_
  show _ = sepT (sepT (rowT 30 5 (.slice A' (acc ++ [(v, Value.slice A0 v.lay.length c0)]).length c') (acc ++ [(v, Value.slice A0 v.lay.length c0)]).length (avV (acc ++ [(v, Value.slice A0 v.lay.length c0)]))) (chainsT (acc ++ [(v, Value.slice A0 v.lay.length c0)]))) R
  rw [e, avV_app, chainsT_app]
  show _ = sepT (sepT (rowT 30 5 (.slice A' (acc.length + 1) c') (acc.length + 1) (avV acc ++ v.cs (.slice A0 v.lay.length c0))) (sepT (chainsT acc) (sepT (chainT v (.slice A0 v.lay.length c0)) empT))) R
  rw [sep_empT]
  ac_rfl
theorem rows_nil (H : Lies N w0 W R) : Lies N w0 W (sepT (rowsT (.slice none 0 0) []) R) := by
  have h3 := (H.add (rowT 30 5 (.slice none 0 0) 0 []) (Only.refl _ _) ⟨_, ⟨World.ownsRow_nil _ _ _ _, rfl⟩, fun b hb => by simp [Value.ownBlock] at hb⟩)
  refine h3.turn ?_
  show _ = sepT (sepT (rowT 30 5 (.slice none 0 0) 0 []) empT) R
  rw [sep_empT]
theorem chain_nil (H : Lies N w0 W R) (v : Val) (h : v.lay = []) : Lies N w0 W (sepT (chainT v (.slice none v.lay.length 0)) R) := by
  unfold chainT
  rw [h]
  exact H.add _ (Only.refl _ _) ⟨_, ⟨World.ownsRow_nil _ _ _ _, rfl⟩, fun b hb => by simp [Value.ownBlock] at hb⟩
set_option maxRecDepth 100000 in
set_option maxHeartbeats 800000 in
theorem of_any (xs : List Int) (A : Option Addr) (c : Nat) (H : Lies N w0 W R) (hx : Reads W W.heap.size 1 A xs.length (xs.map (Value.int .i64))) (hn : xs.length ≤ 100000) :
    Calls Try.prog 11 #[.slice A xs.length c] W fun e w' => ∃ y, e = .returned y ∧ Lies N w0 w' (sepT (valsT (xs.map vi) y) R) ∧ Below W.heap.size W w' := by
  have HX := Lib.hid hx
  have HH := Lib.hid (rows_nil (Lies.nil W))
  obtain ⟨n, hnn⟩ : ∃ n, n = xs.length := ⟨_, rfl⟩
  have HN := Lib.hid hnn
  rw [← hnn] at hn ⊢
  have H0 := Lib.hid H
  clear hx H hnn
  go_enter Try.func11, Try.ntmps11
  go_wp2
  go_loopw [3, 4] (fun out ix wr => ∃ (i : Nat) (acc : List AV) (Ao : Option Addr) (co : Nat), out = .slice Ao acc.length co ∧ ix = .int .i64 i ∧ i ≤ n ∧ (acc.length = i ∧ acc.map (·.1) = (xs.take i).map vi) ∧ Lies W.heap.size W wr (sepT (rowsT (.slice Ao acc.length co) acc) empT)) (fun _ ix _ => n - (intOf ix).toNat)
  case atStart => exact ⟨0, [], none, 0, rfl, rfl, Nat.zero_le _, ⟨rfl, rfl⟩, HH.out⟩
  case round =>
    obtain ⟨i, acc, Ao, co, rfl, rfl, hi, hacc, hh⟩ := hrel
    have HA := Lib.hid hacc
    have HB := Lib.hid hh
    clear hacc hh HH
    by_cases hlt : i < n
    · have hlt' : (i : Int) < (n : Int) := by omega
      have hlx : i < xs.length := by have := HN.out; omega
      obtain ⟨b, off, rfl, hbl, hc⟩ := reads_addr HX.out (by omega) (by decide)
      have hci : wr.cell? ⟨b, off + i, none⟩ = some (.int .i64 xs[i]) := by
        have h1 := hc i (.int .i64 xs[i]) (by simp [hlx])
        exact (HB.out.below.cell (by exact hbl)).trans h1
      generalize hxi : xs[i] = x at *
      have HXi := Lib.hid hxi
      obtain ⟨acc2, hE, A', c', w', hrun, h2, _⟩ := append_one acc (.slice Ao acc.length co) (vi x) none 0 ((chain_nil HB.out (vi x) rfl).turn (by ac_rfl)) (by have := HA.out.1; omega)
      have HR : Hid ((Builtin.append_ #[31, 31] 31 #[.slice Ao acc.length co, .slice (some ⟨wr.heap.size, 0, none⟩) 1 1]).run Try.prog (wr.alloc (.cells #[.int .i64 1, .int .i64 x, .int .u64 0, .string ⟨#[]⟩, .slice none 0 0] 30)) = .ok (.slice A' acc2.length c') w') := Lib.hid hrun
      have HE := Lib.hid hE
      have H2 := Lib.hid h2
      clear hc hxi hrun hE h2 hbl
      go_wp2_with (at_builtin; refine wpList_append_run rfl (.tmp 11) (.tmp 17) 31 31 rfl rfl rfl rfl HR.out ?_)
      go_roundw
      case rel =>
        refine ⟨i + 1, acc2, A', c', rfl, by go_num, by omega, ⟨by rw [HE.out]; simp [HA.out.1], ?_⟩, H2.out⟩
        rw [HE.out, List.map_append, HA.out.2, List.take_succ_eq_append_getElem hlx, List.map_append, HXi.out]
        rfl
      case measure => simp [intOf]; omega
    · have hlt' : ¬ (i : Int) < (n : Int) := by omega
      obtain rfl : i = n := by omega
      go_wp2
      go_ret
      have ha := HA.out.2
      rw [List.take_of_length_le (by have := HN.out; omega)] at ha
      refine ⟨_, rfl, ?_, HB.out.below⟩
      refine vals_in ha ?_
      obtain ⟨F, hF, hFN⟩ := HB.out.get
      exact H0.out.add _ (Only.of_below HB.out.below fun b hb hn => by omega) ⟨F, hF, hFN⟩
end
end Go.Proofs.Ytiaeckljpdhagaa
