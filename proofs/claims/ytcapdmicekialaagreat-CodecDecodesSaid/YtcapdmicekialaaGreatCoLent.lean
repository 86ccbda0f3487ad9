/- LentBytes. -/
import Derived.Test.YtcapdmicekialaaGreatCoXFunAll
namespace Go.Proofs.YtcapdmicekialaaGreat
open Go.RowKit
set_option linter.unusedVariables false
set_option linter.unusedSimpArgs false
attribute [local go_sem] Oper.semAt_some run_store_func run_store_nilFunc
def lentT : List Value := [.int .u8 201, .int .u8 202, .int .u8 203, .int .u8 204]
theorem slice_toB (A : Option Addr) (i c j : Nat) (h1 : (j : Int) ≤ (c : Int)) (w : World) : (Instr.sliceAt 31 (.slice A i c) none (some (.int .i64 (j : Int))) none).run Tryz.prog w = .ok (.slice A j c) w := by
  have h0 : (0 : Int) ≤ (j : Int) := by omega
  have u := Tryz.underlying31
  have e : (if c = 0 then A else A.map (·.add (0 * 1))) = A := by
    have : A.map (·.add (0 * 1)) = A := by cases A <;> rfl
    rw [this, ite_self]
  go_simp
set_option maxRecDepth 100000 in
set_option maxHeartbeats 1600000 in
theorem lent_any (A : Option Addr) (c : Nat) (bs : List UInt8) (w : World) (hx : Reads w w.heap.size 1 A bs.length (bytesV bs)) (hl : bs.length ≤ 140737488351232) :
    Calls Tryz.prog 13 #[.slice A bs.length c] w fun e w' => ∃ A' c', e = .returned (.slice A' bs.length c') ∧ w'.ownsRow w.heap.size 5 1 (.slice A' (bs.length + 4) c') (bs.length + 4) (bytesV bs ++ lentT) ∧ Below w.heap.size w w' := by
  have hx1 := Lib.hid (hx.alloc (Nat.le_refl _) (.cells #[] 5))
  have HB1 := Lib.hid (bytesV_one bs)
  obtain ⟨bv, hbv⟩ : ∃ bv, bv = bytesV bs := ⟨_, rfl⟩
  obtain ⟨n, hn⟩ : ∃ n, n = bs.length := ⟨_, rfl⟩
  rw [← hbv] at hx1 HB1 ⊢
  rw [← hn] at hx1 hl ⊢
  have hsl := slice_toB
  clear hx hbv hn
  obtain ⟨i0, hi0, hz0, hz1, hz2⟩ := info_parts info_u8
  have hown0 : (w.alloc (.cells #[] 5)).ownsRow w.heap.size 5 1 (.slice (some ⟨w.heap.size, 0, none⟩) 0 0) 0 [] := own_empty w 5
  go_enter Tryz.func13, Tryz.ntmps13
  go_wp2_with (first
    | (at_builtin; refine wpList_append_any _ rfl (.tmp 4) (.tmp 5) _ rfl w.heap.size 5 i0 _ 1 1 Tryz.underlying31 hi0 hz0 hz1 hz2 rfl (by decide) (.slice (some ⟨w.heap.size, 0, none⟩) 0 0) 0 [] rfl hown0 w.heap.size A n c bv rfl hx1.out HB1.out (by simp only [maxLen]; omega) (by omega) (by simp) ?_; go_must (intro v' w1 hown' hgrow hat; rw [Nat.zero_add, List.nil_append] at hown'; obtain ⟨A', c', rfl, _⟩ := own_form hown'; have HO := Lib.hid hown'; have HG := Lib.hid (((Below.refl _ _).alloc (Nat.le_refl _) _).grown hgrow (by simp) (by simp [Value.ownBlock]) : Below w.heap.size w w1); clear hown' hgrow hat))
    | (at_builtin; refine wpList_append_own_at _ rfl (.tmp 7) (.tmp 8) 31 rfl w.heap.size 5 i0 (.int .u8 0) 1 1 Tryz.underlying31 hi0 hz0 hz1 hz2 rfl (by decide) (.slice A' n c') n _ rfl (HO.out.alloc _) ⟨w1.heap.size, 0, none⟩ 4 4 lentT rfl rfl (cells_arr _ #[.int .u8 201, .int .u8 202, .int .u8 203, .int .u8 204] _) (by simp [Value.oneCell', lentT]) (by simp only [maxLen]; omega) (by omega) (by have := HG.out.size; simp; omega) ?_; go_must (intro v2 w2 hown2 hgrow2 _ hat2; obtain ⟨g2, c2, rfl, hg2, hc2⟩ := hown2.form (by omega); have hcap : n ≤ c2 := (by rcases hown2.2 with ⟨hh, _⟩ | ⟨g', cap, cur, hh, _, _, hc, _⟩ <;> (first | (cases hh; done) | (injection hh with _ _ hh; omega))); have HO2 := Lib.hid hown2; have HG2 := Lib.hid hgrow2; have HAt := Lib.hid hat2; clear hown2 hgrow2 hat2)))
  go_ret
  exact ⟨_, _, rfl, HO2.out, (HG.out.alloc HG.out.size _).grown HG2.out (by have := HG.out.size; simp; omega) (fun g hg => (World.ownsRow.lt HO.out g hg).1)⟩
end Go.Proofs.YtcapdmicekialaaGreat
