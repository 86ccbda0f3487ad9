/- octet.Reader: NewReader, Whole, Rest, End. -/
import Derived.Test.YtcapdmicekialaaGreatOcRdr
import Derived.Laws.Bits64b
namespace Go.Proofs.YtcapdmicekialaaGreat
open Go.RowKit
attribute [local go_sem] Oper.semAt_some run_store_func run_store_nilFunc

theorem rdnew_any (A : Option Addr) (c : Nat) (bs : List UInt8) (w : World) (hx : Reads w w.heap.size 1 A bs.length (bytesV bs)) (hl : bs.length ≤ 140737488355328) :
    Calls Tryz.prog 47 #[.slice A bs.length c] w fun e w' => ∃ p v, e = .returned (.pointer (some ⟨p, 0, none⟩)) ∧ w.heap.size ≤ p ∧ (∀ g, v.ownBlock = some g → w.heap.size ≤ g) ∧ Rd w' p bs 0 0 0 v ∧ Below w.heap.size w w' := by
  have HC := Lib.hid (clone_any A c bs w hx hl)
  clear hx
  go_enter Tryz.func47, Tryz.ntmps47
  go_wp2_with fail
  refine HC.out.mono ?_
  rintro e w1 ⟨A', c', rfl, ho, hb⟩
  have HO := Lib.hid ho
  clear ho
  go_wp2_with fail
  go_ret
  have ha := World.ownsRow.alloc HO.out (.cells #[.slice A' bs.length c', .int .i64 0, .int .i64 0, .int .i64 0, .bool true] 152)
  exact ⟨_, _, rfl, hb.size, fun g hg => (World.ownsRow.lt HO.out g hg).1, ⟨World.alloc_heap_new w1 _, ha.mono (Nat.zero_le _), Nat.zero_le _, hl⟩, hb.alloc hb.size _⟩
set_option maxHeartbeats 800000 in
theorem rdr_rest (p : Nat) (bs : List UInt8) (at_ : Nat) (err eat : Int) (v : Value) (w : World) (h : Rd w p bs at_ err eat v) :
    Calls Tryz.prog 129 #[.pointer (some ⟨p, 0, none⟩)] w fun e w' => e = .returned (.int .i64 (if err ≠ 0 then 0 else (bs.length : Int) - at_)) ∧ Only (fun _ => False) w w' := by
  obtain ⟨Av, cv, rfl, _⟩ := own_form h.own
  have c0 := h.blk.cell 0
  have c1 := h.blk.cell 1
  have c2 := h.blk.cell 2
  have c4 := h.blk.cell 4
  have hs := h.small
  have hl := h.le
  simp at c0 c1 c2 c4
  clear h
  by_cases he : err = 0
  · subst he
    rw [if_neg (by decide)]
    have hw : IntKind.i64.wrap ((bs.length : Int) - (at_ : Int)) = (bs.length : Int) - (at_ : Int) := IntWalk.i64_in _ (by omega)
    go_enter Tryz.func129, Tryz.ntmps129
    go_wp2_with fail
    refine (rdnone_made p w c4).mono ?_
    rintro e w' ⟨rfl, rfl⟩
    go_wp2_with fail
    go_quiet (fail)
    go_wp2_with fail
    go_ret
    exact ⟨rfl, Only.drewN _ _ _⟩
  · rw [if_pos he]
    have he' : (err != 0) = true := by simpa using he
    go_enter Tryz.func129, Tryz.ntmps129
    go_wp2_with fail
    refine (rdnone_made p w c4).mono ?_
    rintro e w' ⟨rfl, rfl⟩
    go_wp2_with fail
    go_ret
    exact ⟨rfl, Only.refl _ _⟩
theorem Only.fresh {S T : Nat → Prop} {A B : World} (h : Only S A B) (hS : ∀ b, b < A.heap.size → S b → T b) : Only T A B :=
  ⟨h.os, h.tape, h.output, h.size, fun b hb hs => h.block b hb (fun k => hs (hS b hb k))⟩
/-- What End tells. -/
def rEnd (bs : List UInt8) (s : RS) : Int × Int := if s.2.1 ≠ 0 then s.2 else if s.1 < bs.length then (4, s.1) else (0, 0)
set_option maxHeartbeats 800000 in
theorem rdr_end (p : Nat) (bs : List UInt8) (at_ : Nat) (err eat : Int) (v : Value) (w : World) (h : Rd w p bs at_ err eat v) :
    Calls Tryz.prog 57 #[.pointer (some ⟨p, 0, none⟩)] w fun e w' => e = .returned (.agg #[.int .i64 (rEnd bs (at_, err, eat)).1, .int .i64 (rEnd bs (at_, err, eat)).2]) ∧ Only (fun _ => False) w w' := by
  obtain ⟨Av, cv, rfl, _⟩ := own_form h.own
  have hs := h.small
  have hl := h.le
  have hp := h.blk.lt
  have hB := h.blk.alloc (.cells #[.int .i64 0, .int .i64 0] 40)
  have c0 := hB.cell 0
  have c1 := hB.cell 1
  have c2 := hB.cell 2
  have c3 := hB.cell 3
  have c4 := hB.cell 4
  simp at c0 c1 c2 c3 c4
  clear h hB
  by_cases he : err = 0
  · subst he
    by_cases hlt : at_ < bs.length
    · have hR : Hid (rEnd bs (at_, 0, eat) = (4, (at_ : Int))) := by unfold rEnd; rw [if_neg (show ¬ (0 : Int) ≠ 0 by decide), if_pos hlt]; exact rfl
      have hlt' : (at_ : Int) < (bs.length : Int) := by omega
      go_enter Tryz.func57, Tryz.ntmps57
      go_wp2_with fail
      refine (rdnone_made p _ c4).mono ?_
      rintro e w' ⟨rfl, rfl⟩
      go_wp2_with fail
      go_quiet (fail)
      go_wp2_with fail
      refine bodyPost_ret (results_cell_row rfl _ _ w.heap.size 40 #[.int .i64 4, .int .i64 at_] (0, 0) _ rfl ((((Blk.new w 40 #[.int .i64 0, .int .i64 0]).drewN nq).set_ 0 (.int .i64 4)).set_ 1 (.int .i64 at_)) Tryz.underlying40 rfl (by kernel_rfl)) rfl ?_
      refine ⟨by rw [hR.out], ?_⟩
      exact Only.fresh ((((Only.alloc (· = w.heap.size) w (.cells #[.int .i64 0, .int .i64 0] 40)).trans (Only.drewN (· = w.heap.size) _ nq)).trans (Only.setCell (S := (· = w.heap.size)) _ ⟨w.heap.size, 0, none⟩ (.int .i64 4) rfl)).trans (Only.setCell (S := (· = w.heap.size)) _ ⟨w.heap.size, 1, none⟩ (.int .i64 at_) rfl)) (fun b hb hs => by omega)
    · have hR : Hid (rEnd bs (at_, 0, eat) = (0, 0)) := by unfold rEnd; rw [if_neg (show ¬ (0 : Int) ≠ 0 by decide), if_neg hlt]; exact rfl
      have hlt' : ¬ (at_ : Int) < (bs.length : Int) := by omega
      go_enter Tryz.func57, Tryz.ntmps57
      go_wp2_with fail
      refine (rdnone_made p _ c4).mono ?_
      rintro e w' ⟨rfl, rfl⟩
      go_wp2_with fail
      go_quiet (fail)
      go_wp2_with fail
      refine bodyPost_ret (results_cell_row rfl _ _ w.heap.size 40 #[.int .i64 0, .int .i64 0] (0, 0) _ rfl ((((Blk.new w 40 #[.int .i64 0, .int .i64 0]).drewN nq).set_ 0 (.int .i64 0)).set_ 1 (.int .i64 0)) Tryz.underlying40 rfl (by kernel_rfl)) rfl ?_
      refine ⟨by rw [hR.out], ?_⟩
      exact Only.fresh ((((Only.alloc (· = w.heap.size) w (.cells #[.int .i64 0, .int .i64 0] 40)).trans (Only.drewN (· = w.heap.size) _ nq)).trans (Only.setCell (S := (· = w.heap.size)) _ ⟨w.heap.size, 0, none⟩ (.int .i64 0) rfl)).trans (Only.setCell (S := (· = w.heap.size)) _ ⟨w.heap.size, 1, none⟩ (.int .i64 0) rfl)) (fun b hb hs => by omega)
  · have hR : Hid (rEnd bs (at_, err, eat) = (err, eat)) := by unfold rEnd; rw [if_pos he]; exact rfl
    have he' : (err != 0) = true := by simpa using he
    go_enter Tryz.func57, Tryz.ntmps57
    go_wp2_with fail
    refine (rdnone_made p _ c4).mono ?_
    rintro e w' ⟨rfl, rfl⟩
    go_wp2_with fail
    refine bodyPost_ret (results_cell_row rfl _ _ w.heap.size 40 #[.int .i64 err, .int .i64 eat] (0, 0) _ rfl (World.alloc_heap_new w _) Tryz.underlying40 rfl (by kernel_rfl)) rfl ?_
    exact ⟨by rw [hR.out], Only.alloc _ w _⟩
/-- What Whole comes to. -/
def unzz (n : Nat) : Int := if n % 2 = 1 then -1 - (n / 2 : Nat) else (n / 2 : Nat)
def rWhole (bs : List UInt8) (s : RS) : Int × RS := (unzz (rNum bs s).1, (rNum bs s).2)
theorem unzz_zero : unzz 0 = 0 := by decide
def RStepW (p : Nat) (bs : List UInt8) (v : Value) (r : Int × RS) (w : World) (e : Ending) (w' : World) : Prop := e = .returned (.int .i64 r.1) ∧ RdAt p bs r.2.1 r.2.2.1 r.2.2.2 v w w'
theorem unzz_bits (n : Nat) (h : n < 9223372036854775808) : bits .xor .i64 ((n : Int) / 2) (wrap64 (-wrap64 (bits .and .u64 (n : Int) 1))) = unzz n := by
  have h1 : bits .and .u64 (n : Int) 1 = ((n % 2 : Nat) : Int) := by
    rw [show (1 : Int) = ((1 : Nat) : Int) from rfl, bits_and_u64_nat n 1 (by omega) (by decide), Nat.and_one_is_mod]
  rw [h1]
  unfold unzz
  have hd : (n : Int) / 2 = ((n / 2 : Nat) : Int) := rfl
  have hm : n / 2 < 18446744073709551616 := by omega
  rcases Nat.mod_two_eq_zero_or_one n with h2 | h2
  · rw [h2, if_neg (by decide), hd, show wrap64 (-wrap64 ((0 : Nat) : Int)) = 0 from by unfold wrap64; omega]
    show IntKind.i64.wrap ((BitVec.ofInt 64 ((n / 2 : Nat) : Int) ^^^ BitVec.ofInt 64 0).toNat : Int) = _
    rw [show BitVec.ofInt 64 0 = 0#64 from rfl, BitVec.xor_zero, BitVec.ofInt_natCast, BitVec.toNat_ofNat, Nat.mod_eq_of_lt hm]
    exact IntWalk.i64_in _ (by omega)
  · rw [h2, if_pos rfl, hd, show wrap64 (-wrap64 ((1 : Nat) : Int)) = -1 from by unfold wrap64; omega]
    show IntKind.i64.wrap ((BitVec.ofInt 64 ((n / 2 : Nat) : Int) ^^^ BitVec.ofInt 64 (-1)).toNat : Int) = _
    rw [show BitVec.ofInt 64 (-1) = BitVec.allOnes 64 from by decide, BitVec.xor_allOnes, BitVec.toNat_not, BitVec.ofInt_natCast, BitVec.toNat_ofNat, Nat.mod_eq_of_lt hm, IntKind.wrap_i64]
    omega
end Go.Proofs.YtcapdmicekialaaGreat
