/- The walks at whole numbers, as the rows give them. -/
import Derived.Test.YtghekcjmkgajcaaOrderCores
namespace Go.Proofs.Ytghekcjmkgajcaa
open Go.RowKit
theorem order_int (a b c : Int) (ha : 0 ≤ a) (ha' : a ≤ 18446744073709551615) (hb : 0 ≤ b) (hb' : b ≤ 18446744073709551615) (hc : 0 ≤ c) (hc' : c ≤ 18446744073709551615) (w : World) :
    Calls Try.prog 3 #[.int .u64 a, .int .u64 b, .int .u64 c] w (RetB (.bool true) w) := by
  obtain ⟨x, rfl⟩ := Int.eq_ofNat_of_zero_le ha
  obtain ⟨y, rfl⟩ := Int.eq_ofNat_of_zero_le hb
  obtain ⟨z, rfl⟩ := Int.eq_ofNat_of_zero_le hc
  exact order_walk x y z (by omega) (by omega) (by omega) w
theorem do_int (s : ByteArray) (a b : Int) (ha : 0 ≤ a) (ha' : a ≤ 18446744073709551615) (hb : 0 ≤ b) (hb' : b ≤ 18446744073709551615) (w : World) :
    Calls Try.prog 4 #[.string s, .int .u64 a, .int .u64 b] w (RetB (.bool true) w) := by
  obtain ⟨x, rfl⟩ := Int.eq_ofNat_of_zero_le ha
  obtain ⟨y, rfl⟩ := Int.eq_ofNat_of_zero_le hb
  exact do_walk s x y (by omega) (by omega) w
end Go.Proofs.Ytghekcjmkgajcaa
