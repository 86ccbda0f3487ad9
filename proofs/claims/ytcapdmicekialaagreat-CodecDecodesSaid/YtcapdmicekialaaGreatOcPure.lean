/- A number's groups of seven bits, the lowest first. Plain. -/
namespace Go.Proofs.YtcapdmicekialaaGreat

def grp (n : Nat) : List UInt8 := if n < 128 then [UInt8.ofNat n] else UInt8.ofNat (n % 128 + 128) :: grp (n / 128)
termination_by n
theorem grp_lt {n : Nat} (h : n < 128) : grp n = [UInt8.ofNat n] := by rw [grp, if_pos h]
theorem grp_ge {n : Nat} (h : ¬ n < 128) : grp n = UInt8.ofNat (n % 128 + 128) :: grp (n / 128) := by rw [grp, if_neg h]
theorem grp_pos (n : Nat) : 1 ≤ (grp n).length := by
  by_cases h : n < 128
  · rw [grp_lt h]; simp
  · rw [grp_ge h]; simp
theorem grp_len_le : ∀ (k n : Nat), n < 128 ^ (k + 1) → (grp n).length ≤ k + 1
  | 0, n, h => by rw [grp_lt (by simpa using h)]; simp
  | k + 1, n, h => by
    by_cases hn : n < 128
    · rw [grp_lt hn]; simp
    · rw [grp_ge hn, List.length_cons]
      have := grp_len_le k (n / 128) (by rw [Nat.div_lt_iff_lt_mul (by decide)]; rw [Nat.pow_succ] at h; exact h)
      omega
theorem grp_len (n : Nat) (h : n < 18446744073709551616) : (grp n).length ≤ 10 := grp_len_le 9 n (Nat.lt_of_lt_of_le h (by decide))
theorem ofNat_nat {n : Nat} (h : n < 256) : (UInt8.ofNat n).toNat = n := by simp; omega
end Go.Proofs.YtcapdmicekialaaGreat
