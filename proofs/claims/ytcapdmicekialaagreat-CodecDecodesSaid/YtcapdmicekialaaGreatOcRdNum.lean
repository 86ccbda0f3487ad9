/- octet.Reader: number. -/
import Derived.Test.YtcapdmicekialaaGreatOcRead
namespace Go.Proofs.YtcapdmicekialaaGreat
open Go.RowKit
attribute [local go_sem] Oper.semAt_some run_store_func run_store_nilFunc

/-- Reading a number: why none, which one, of how many bytes; i bytes have come, they are acc. -/
def rdGo (i acc : Nat) : List UInt8 → Int × Nat × Nat
  | [] => (13, 0, 0)
  | b :: l => if i = 9 then (5, 0, 0) else if b.toNat < 128 then (if b.toNat = 0 ∧ 0 < i then (5, 0, 0) else (0, acc + b.toNat * 128 ^ i, i + 1)) else rdGo (i + 1) (acc + (b.toNat - 128) * 128 ^ i) l
def RdNum (p : Nat) (bs : List UInt8) (at_ : Nat) (err eat : Int) (v : Value) (r : Int × Nat × Nat) (w : World) (e : Ending) (w' : World) : Prop :=
  (r.1 = 0 → e = .returned (.int .u64 r.2.1) ∧ RdAt p bs (at_ + r.2.2) err eat v w w') ∧ (r.1 ≠ 0 → e = .panicked [{ v := brk r.1, recovered := false }] ∧ ∃ k, RdAt p bs k err eat v w w')
theorem or_step (i acc b : Nat) (hi : i < 9) (ha : acc < 128 ^ i) (hb : b < 256) :
    bits .or .u64 (acc : Int) (IntKind.u64.wrap (IntKind.u64.wrap (bits .and .u8 (b : Int) 127) * 2 ^ (7 * i))) = ((acc + (b % 128) * 128 ^ i : Nat) : Int) ∧ acc + (b % 128) * 128 ^ i < 128 ^ (i + 1) := by
  have hp : (128 : Nat) ^ i = 2 ^ (7 * i) := by rw [Nat.pow_mul]
  have h1 : bits .and .u8 (b : Int) 127 = ((b % 128 : Nat) : Int) := by
    rw [show (127 : Int) = ((127 : Nat) : Int) from rfl, u8_and_nat b 127 hb (by decide)]
    rw [show (127 : Nat) = 2 ^ 7 - 1 from rfl, Nat.and_two_pow_sub_one_eq_mod]
  have hm : b % 128 < 128 := Nat.mod_lt _ (by decide)
  have hlt : acc + (b % 128) * 128 ^ i < 128 ^ (i + 1) := by
    rw [Nat.pow_succ]
    have : (b % 128) * 128 ^ i ≤ 127 * 128 ^ i := Nat.mul_le_mul_right _ (by omega)
    omega
  have h63 : 128 ^ (i + 1) ≤ (128 : Nat) ^ 9 := Nat.pow_le_pow_right (by decide) (by omega)
  have h9 : (128 : Nat) ^ 9 = 9223372036854775808 := by decide
  have h2 : IntKind.u64.wrap ((b % 128 : Nat) : Int) = ((b % 128 : Nat) : Int) := IntWalk.u64_in _ (by omega)
  have h3 : ((b % 128 : Nat) : Int) * 2 ^ (7 * i) = (((b % 128) * 2 ^ (7 * i) : Nat) : Int) := by rw [Int.natCast_mul, Int.natCast_pow]; rfl
  rw [hp] at hlt ha ⊢
  have h4 : IntKind.u64.wrap (((b % 128) * 2 ^ (7 * i) : Nat) : Int) = (((b % 128) * 2 ^ (7 * i) : Nat) : Int) := IntWalk.u64_in _ (by omega)
  refine ⟨?_, hlt⟩
  rw [h1, h2, h3, h4, bits_or_u64_nat _ _ (by omega) (by omega)]
  congr 1
  rw [Nat.or_comm, Nat.mul_comm, ← Nat.two_pow_add_eq_or_of_lt ha]
  omega
theorem rdGo_cons (i acc : Nat) (bs : List UInt8) (k : Nat) (h : k < bs.length) : rdGo i acc (bs.drop k) =
    if i = 9 then (5, 0, 0) else if bs[k].toNat < 128 then (if bs[k].toNat = 0 ∧ 0 < i then (5, 0, 0) else (0, acc + bs[k].toNat * 128 ^ i, i + 1)) else rdGo (i + 1) (acc + (bs[k].toNat - 128) * 128 ^ i) (bs.drop (k + 1)) := by
  rw [List.drop_eq_getElem_cons h, rdGo]
set_option maxRecDepth 100000 in
set_option maxHeartbeats 1600000 in
theorem rdnum_any (p : Nat) (bs : List UInt8) (at_ : Nat) (err eat : Int) (v : Value) (w : World) (h : Rd w p bs at_ err eat v) :
    Calls Tryz.prog 132 #[.pointer (some ⟨p, 0, none⟩)] w (RdNum p bs at_ err eat v (rdGo 0 0 (bs.drop at_)) w) := by
  have hs := h.small
  go_enter Tryz.func132, Tryz.ntmps132
  go_wp2_with fail
  go_loopw [5, 2] (fun x y wr => ∃ (i acc : Nat), x = .int .i64 i ∧ y = .int .u64 acc ∧ i ≤ 9 ∧ acc < 128 ^ i ∧ at_ + i ≤ bs.length ∧ rdGo 0 0 (bs.drop at_) = rdGo i acc (bs.drop (at_ + i)) ∧ RdAt p bs (at_ + i) err eat v w wr)
    (fun x y wr => 9 - (intOf x).toNat)
  case atStart => exact ⟨0, 0, rfl, rfl, by decide, by decide, h.le, rfl, h, Only.refl _ _⟩
  case round =>
    obtain ⟨i, acc, rfl, rfl, hi, hacc, hat, hgo, hrd, hon⟩ := hrel
    clear h
    rcases Nat.lt_or_ge (at_ + i) bs.length with hlt | hge
    · have HC := Lib.hid (rdGo_cons i acc bs (at_ + i) hlt)
      have HT := Lib.hid (take_one p bs (at_ + i) err eat v wr hrd hlt)
      have hb := bs[at_ + i].toNat_lt
      have HG := Lib.hid hgo
      have HR := Lib.hid hrd
      have hwr : bs[at_ + i].toNat = bs[at_ + i].toNat := rfl
      clear hgo hrd hwr
      generalize bs[at_ + i].toNat = y at *
      rcases Nat.lt_or_ge i 9 with hi9 | hi9
      · have hi' : (i : Int) < 9 := by omega
        obtain ⟨hx, hm⟩ := or_step i acc y hi9 hacc hb
        have HA := Lib.hid hacc
        have HM := Lib.hid hm
        have HE : Hid (acc + y % 128 * 128 ^ i = acc + y % 128 * 128 ^ i) := Lib.hid rfl
        clear hacc hm
        rw [if_neg (show ¬ i = 9 by omega)] at HC
        generalize hmm : acc + y % 128 * 128 ^ i = m at *
        have HMM := Lib.hid hmm
        clear hmm HE
        by_cases hy : (y : Int) < 128
        · rw [if_pos (show y < 128 by omega)] at HC
          by_cases h0 : y = 0 ∧ 0 < i
          · rw [if_pos h0] at HC
            have hy0 : ((y : Int) == 0) = true := by rw [beq_iff_eq]; omega
            have hi0 : (0 : Int) < (i : Int) := by omega
            clear h0
            go_wp2_with fail
            refine HT.out.mono ?_
            rintro e w1 ⟨rfl, h1, h2⟩
            have H1 := Lib.hid h1
            clear h1
            go_wp2_with fail
            refine ⟨rfl, fun h => ?_, fun _ => ⟨?_, _, H1.out, hon.trans h2⟩⟩
            · rw [HG.out, HC.out] at h; cases h
            · rw [HG.out, HC.out]; try rfl
          · rw [if_neg h0] at HC
            have hM2 : Hid (m = acc + y * 128 ^ i) := by rw [← HMM.out, Nat.mod_eq_of_lt (show y < 128 by omega)]; exact rfl
            rw [← hM2.out] at HC
            by_cases hy0 : y = 0
            · have hi0 : ¬ (0 : Int) < (i : Int) := by omega
              subst hy0
              rw [show ((0 : Nat) : Int) = 0 from rfl] at hx
              clear h0
              go_wp2_with fail
              refine HT.out.mono ?_
              rintro e w1 ⟨rfl, h1, h2⟩
              have H1 := Lib.hid h1
              clear h1
              go_wp2_with fail
              go_ret
              refine ⟨fun _ => ⟨?_, ?_, hon.trans h2⟩, fun h => ?_⟩
              · rw [HG.out, HC.out]; try rfl
              · rw [HG.out, HC.out]; exact H1.out
              · rw [HG.out, HC.out] at h; exact absurd rfl h
            · have hy0 : ((y : Int) == 0) = false := by rw [beq_eq_false_iff_ne]; omega
              clear h0
              go_wp2_with fail
              refine HT.out.mono ?_
              rintro e w1 ⟨rfl, h1, h2⟩
              have H1 := Lib.hid h1
              clear h1
              go_wp2_with fail
              go_ret
              refine ⟨fun _ => ⟨?_, ?_, hon.trans h2⟩, fun h => ?_⟩
              · rw [HG.out, HC.out]; try rfl
              · rw [HG.out, HC.out]; exact H1.out
              · rw [HG.out, HC.out] at h; exact absurd rfl h
        · rw [if_neg (show ¬ y < 128 by omega)] at HC
          have hM2 : Hid (m = acc + (y - 128) * 128 ^ i) := by rw [← HMM.out, show y % 128 = y - 128 by omega]; exact rfl
          rw [← hM2.out] at HC
          go_wp2_with fail
          refine HT.out.mono ?_
          rintro e w1 ⟨rfl, h1, h2⟩
          have H1 := Lib.hid h1
          clear h1
          go_wp2_with fail
          exact ⟨⟨i + 1, m, by go_num, rfl, by omega, HM.out, by omega, HG.out.trans HC.out, H1.out, hon.trans h2⟩, by simp [intOf]; omega⟩
      · have hi' : ¬ (i : Int) < 9 := by omega
        rw [if_pos (show i = 9 by omega)] at HC
        go_wp2_with fail
        refine HT.out.mono ?_
        rintro e w1 ⟨rfl, h1, h2⟩
        have H1 := Lib.hid h1
        clear h1
        go_wp2_with fail
        refine ⟨rfl, fun h => ?_, fun _ => ⟨?_, _, H1.out, hon.trans h2⟩⟩
        · rw [HG.out, HC.out] at h; cases h
        · rw [HG.out, HC.out]; try rfl
    · have HC : Hid (rdGo i acc (bs.drop (at_ + i)) = (13, 0, 0)) := by rw [List.drop_eq_nil_of_le hge]; exact rfl
      have HT := Lib.hid (take_end p bs (at_ + i) err eat v wr hrd (by omega))
      have HG := Lib.hid hgo
      clear hgo hrd hacc
      rcases Nat.lt_or_ge i 9 with hi9 | hi9
      · have hi' : (i : Int) < 9 := by omega
        go_wp2_with fail
        refine HT.out.mono ?_
        rintro e w1 ⟨rfl, h1, h2⟩
        have H1 := Lib.hid h1
        clear h1
        go_wp2_with fail
        refine ⟨rfl, fun h => ?_, fun _ => ⟨?_, _, H1.out, hon.trans h2⟩⟩
        · rw [HG.out, HC.out] at h; cases h
        · rw [HG.out, HC.out]; try rfl
      · have hi' : ¬ (i : Int) < 9 := by omega
        go_wp2_with fail
        refine HT.out.mono ?_
        rintro e w1 ⟨rfl, h1, h2⟩
        have H1 := Lib.hid h1
        clear h1
        go_wp2_with fail
        refine ⟨rfl, fun h => ?_, fun _ => ⟨?_, _, H1.out, hon.trans h2⟩⟩
        · rw [HG.out, HC.out] at h; cases h
        · rw [HG.out, HC.out]; try rfl
end Go.Proofs.YtcapdmicekialaaGreat
