/- octet.NewWriter, Num, Whole, Word, Bytes of a writer. -/
import Derived.Test.YtcapdmicekialaaGreatOcWrite
import Derived.Test.YtcapdmicekialaaGreatAppendS
import Derived.WalkSpells
import Derived.Laws.Bits64
namespace Go.Proofs.YtcapdmicekialaaGreat
open Go.RowKit
attribute [local go_sem] Oper.semAt_some run_store_func run_store_nilFunc

theorem WStep.from_ {p : Nat} {most : Int} {v : Value} {r : List UInt8 × Int} {w w1 w' : World} {e : Ending} (ho : Only (fun _ => False) w w1) (h : WStep p most v r w1 e w') : WStep p most v r w e w' := by
  obtain ⟨he, v', h1, h2, h3⟩ := h
  refine ⟨he, v', h1, (ho.mono fun _ h => h.elim).trans h2, ?_⟩
  rcases h3 with h | ⟨g, hg, hl⟩
  · exact .inl h
  · exact .inr ⟨g, hg, by have := ho.size; omega⟩
theorem only_below {w w1 : World} (h : Below w.heap.size w w1) : Only (fun _ => False) w w1 := Only.of_below h (fun b hb hn => by omega)
/-- What Num, Whole, Word come to. -/
def wrNum (most : Int) (bs : List UInt8) (bad n : Int) : List UInt8 × Int := wr1 most bs bad (decide (0 ≤ n)) (grp n.toNat)
def wrWord (most : Int) (bs : List UInt8) (bad : Int) (s : ByteArray) : List UInt8 × Int := wr1 most bs bad true (grp s.size ++ s.data.toList)
theorem wr1_may (most : Int) (bs : List UInt8) (bad : Int) (xs ys : List UInt8) : wr1 most bs bad false xs = wr1 most bs bad false ys := by
  unfold wr1; split <;> simp
set_option maxHeartbeats 800000 in
theorem num_any (p : Nat) (n most bad : Int) (bs : List UInt8) (v : Value) (w : World) (h : Wr w p most bs bad v) (h0 : -9223372036854775808 ≤ n) (h1 : n ≤ 9223372036854775807) :
    Calls Tryz.prog 27 #[.pointer (some ⟨p, 0, none⟩), .int .i64 n] w (WStep p most v (wrNum most bs bad n) w) := by
  have H := Lib.hid h
  clear h
  by_cases hn : 0 ≤ n
  · obtain ⟨m, rfl⟩ := Int.eq_ofNat_of_zero_le hn
    go_enter Tryz.func27, Tryz.ntmps27
    go_wp2_with fail
    refine (number_any m (by omega) w).mono ?_
    rintro e w1 ⟨A, c, rfl, ho, hb⟩
    have HO := Lib.hid ho
    have hg := grp_len m (by omega)
    have HH := Lib.hid (write_any p true A c most bad bs (grp m) v w1 (H.out.keep (only_below hb) (fun _ _ h => h)) (Reads.of_own ho) (by omega))
    clear ho
    go_wp2_with fail
    refine HH.out.mono ?_
    rintro e w2 hs
    have HS := Lib.hid hs
    obtain ⟨rfl, _⟩ := hs
    go_wp2_with fail
    go_ret
    unfold wrNum
    rw [decide_eq_true hn, Int.toNat_natCast]
    exact HS.out.from_ (only_below hb)
  · have hN : Hid (wrNum most bs bad n = wr1 most bs bad false (grp (n + 18446744073709551616).toNat)) := by unfold wrNum; rw [decide_eq_false hn]; exact wr1_may _ _ _ _ _
    obtain ⟨m, hm⟩ : ∃ m : Nat, n + 18446744073709551616 = m := ⟨(n + 18446744073709551616).toNat, by omega⟩
    rw [hm, Int.toNat_natCast] at hN
    have hm2 : m < 18446744073709551616 := by omega
    have hwr : IntKind.u64.wrap n = m := by rw [IntKind.wrap_u64]; omega
    have hg := grp_len m hm2
    have hd : decide (0 ≤ n) = false := decide_eq_false hn
    clear hm
    go_enter Tryz.func27, Tryz.ntmps27
    go_wp2_with fail
    refine (number_any m hm2 w).mono ?_
    rintro e w1 ⟨A, c, rfl, ho, hb⟩
    have HO := Lib.hid ho
    have HH := Lib.hid (write_any p false A c most bad bs (grp m) v w1 (H.out.keep (only_below hb) (fun _ _ h => h)) (Reads.of_own ho) (by omega))
    clear ho
    go_wp2_with fail
    refine HH.out.mono ?_
    rintro e w2 hs
    have HS := Lib.hid hs
    obtain ⟨rfl, _⟩ := hs
    go_wp2_with fail
    go_ret
    rw [hN.out]
    exact HS.out.from_ (only_below hb)
/-- A whole number as one from 0 on. -/
def zz (n : Int) : Nat := if n < 0 then (2 * (-1 - n) + 1).toNat else (2 * n).toNat
def wrWhole (most : Int) (bs : List UInt8) (bad n : Int) : List UInt8 × Int := wr1 most bs bad (decide (-4611686018427387904 ≤ n) && decide (n < 4611686018427387904)) (grp (zz n))
theorem xor_ones (a : Nat) (h : a < 18446744073709551616) : a ^^^ 18446744073709551615 = 18446744073709551615 - a := by
  have := congrArg BitVec.toNat (BitVec.xor_allOnes (x := BitVec.ofNat 64 a))
  rw [BitVec.toNat_xor, BitVec.toNat_not, BitVec.toNat_allOnes, BitVec.toNat_ofNat, Nat.mod_eq_of_lt h] at this
  exact this
theorem xor_wide (x y : Int) (hx : 0 ≤ x) (hx1 : x < 18446744073709551616) (hy : 0 ≤ y) (hy1 : y < 18446744073709551616) : ∃ m : Nat, bits .xor .u64 x y = m ∧ m < 18446744073709551616 := by
  obtain ⟨a, rfl⟩ := Int.eq_ofNat_of_zero_le hx
  obtain ⟨b, rfl⟩ := Int.eq_ofNat_of_zero_le hy
  have ha : a < 18446744073709551616 := by omega
  have hb : b < 18446744073709551616 := by omega
  exact ⟨_, bits_xor_u64_nat a b ha hb, Nat.xor_lt_two_pow (n := 64) ha hb⟩
theorem wrap_range (x : Int) : 0 ≤ IntKind.u64.wrap x ∧ IntKind.u64.wrap x < 18446744073709551616 := by
  rw [IntKind.wrap_u64]; omega
theorem zz_bits (n : Int) (h0 : -4611686018427387904 ≤ n) (h1 : n < 4611686018427387904) : bits .xor .u64 (IntKind.u64.wrap (n * 2)) (IntKind.u64.wrap (n / 9223372036854775808)) = (zz n : Int) ∧ zz n < 18446744073709551616 := by
  unfold zz
  by_cases hn : n < 0
  · rw [if_pos hn]
    obtain ⟨a, ha⟩ : ∃ a : Nat, n * 2 + 18446744073709551616 = a := ⟨(n * 2 + 18446744073709551616).toNat, by omega⟩
    have e1 : IntKind.u64.wrap (n * 2) = (a : Int) := by rw [IntKind.wrap_u64]; omega
    have e2 : IntKind.u64.wrap (n / 9223372036854775808) = ((18446744073709551615 : Nat) : Int) := by rw [IntKind.wrap_u64]; omega
    rw [e1, e2, bits_xor_u64_nat a _ (by omega) (by decide), xor_ones a (by omega)]
    omega
  · rw [if_neg hn]
    have e1 : IntKind.u64.wrap (n * 2) = (((2 * n).toNat : Nat) : Int) := by rw [IntKind.wrap_u64]; omega
    have e2 : IntKind.u64.wrap (n / 9223372036854775808) = ((0 : Nat) : Int) := by rw [IntKind.wrap_u64]; omega
    rw [e1, e2, bits_xor_u64_nat _ _ (by omega) (by decide), Nat.xor_zero]
    omega
theorem whole_part (p : Nat) (most bad : Int) (bs : List UInt8) (v : Value) (w : World) (H : Hid (Wr w p most bs bad v)) (may : Bool) (m : Nat) (hm : m < 18446744073709551616) (w1 : World) (A : Option Addr) (c : Nat)
    (ho : w1.ownsRow w.heap.size 5 1 (.slice A (grp m).length c) (grp m).length (bytesV (grp m))) (hb : Below w.heap.size w w1) :
    Calls Tryz.prog 83 #[.pointer (some ⟨p, 0, none⟩), .bool may, .slice A (grp m).length c] w1 (WStep p most v (wr1 most bs bad may (grp m)) w) :=
  (write_any p may A c most bad bs (grp m) v w1 (H.out.keep (only_below hb) (fun _ _ h => h)) (Reads.of_own ho) (by have := grp_len m hm; omega)).mono fun _ _ h => h.from_ (only_below hb)
end Go.Proofs.YtcapdmicekialaaGreat
