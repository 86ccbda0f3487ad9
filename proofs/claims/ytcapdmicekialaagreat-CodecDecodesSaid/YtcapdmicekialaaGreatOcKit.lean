/- SameBytes, OverBytes, Long; both writers side by side. -/
import Derived.Test.YtcapdmicekialaaGreatOcRef2
import Derived.Laws.BytesArg
import Derived.Laws.BitsAllLaws
namespace Go.Proofs.YtcapdmicekialaaGreat
open Go.RowKit
attribute [local go_sem] Oper.semAt_some run_store_func run_store_nilFunc

/-- Bytes as a text. -/
def strB (bs : List UInt8) : ByteArray := ⟨bs.toArray⟩
theorem strB_inj {a b : List UInt8} : ((strB a).toList == (strB b).toList) = decide (a = b) := by
  unfold strB
  rw [ba_toList, ba_toList, Bool.eq_iff_iff, beq_iff_eq, decide_eq_true_iff]
theorem conv_reads {P : Program} (w : World) (src dst e : TypeId) (hs : P.underlying src = some (.slice e)) (he : P.underlying e = some (.int .u8)) (hd : P.underlying dst = some .string) {B : Nat} {A : Option Addr} {bs : List UInt8} (c : Nat)
    (h : Reads w B 1 A bs.length (bytesV bs)) : (convert src dst (.slice A bs.length c)).run P w = .ok (.string (strB bs)) w := by
  cases A with
  | none =>
    have hn : bs.length = 0 := by
      rcases Nat.eq_zero_or_pos bs.length with h0 | h0
      · exact h0
      · obtain ⟨ad, h, _⟩ := h.2 h0; cases h
    obtain rfl := List.eq_nil_of_length_eq_zero hn
    rw [run_convert_bytes_nil w src e hs he _ c dst hd]; rfl
  | some a =>
    have hl : (loadCells a bs.length).run P w = .ok ((bs.map fun b => (b.toNat : Int)).map (Value.int .u8)).toArray w := by
      have := run_loadCells_list (P := P) w a (bytesV bs) (fun j v hj => by
        have hlt : j < bs.length := by
          rcases Nat.lt_or_ge j bs.length with k | k
          · exact k
          · rw [List.getElem?_eq_none (by rw [bytesV_len]; exact k)] at hj; cases hj
        obtain ⟨ad, he, _, hc⟩ := h.2 (by omega)
        injection he with he
        subst he
        exact hc j v hj)
      rw [bytesV_len] at this
      rw [List.map_map]; exact this
    rw [run_convert_bytes_string w src dst e _ bs.length c hs he hd, run_bytesToString w _ bs.length c (bs.map fun b => (b.toNat : Int)) hl, foldl_push_bytes]
    have e : (bs.map fun b => (b.toNat : Int)).map (fun n => UInt8.ofNat n.toNat) = bs := by
      rw [List.map_map]
      exact (List.map_congr_left (fun b _ => by simp)).trans (List.map_id _)
    rw [e]
    unfold strB ByteArray.empty ByteArray.emptyWithCapacity
    congr 2
    apply ByteArray.ext
    show #[] ++ bs.toArray = bs.toArray
    simp
theorem same_any (A B : Option Addr) (c d : Nat) (xs ys : List UInt8) (w : World) {N M : Nat} (hx : Reads w N 1 A xs.length (bytesV xs)) (hy : Reads w M 1 B ys.length (bytesV ys)) :
    Calls Tryz.prog 10 #[.slice A xs.length c, .slice B ys.length d] w fun e w' => e = .returned (.bool (decide (xs = ys))) ∧ w = w' := by
  have h1 := conv_reads (P := Tryz.prog) w 31 9 5 Tryz.underlying31 Tryz.underlying5 Tryz.underlying9 c hx
  have h2 := conv_reads (P := Tryz.prog) w 31 9 5 Tryz.underlying31 Tryz.underlying5 Tryz.underlying9 d hy
  have HI := Lib.hid (@strB_inj xs ys)
  clear hx hy
  generalize strB xs = s at *
  generalize strB ys = t at *
  go_enter Tryz.func10, Tryz.ntmps10
  go_wp2_with fail
  go_ret
  exact ⟨by rw [← HI.out]; rfl, rfl⟩
/-- Some bytes as values. -/
def u8s (ks : List Nat) : List Value := ks.map fun (k : Nat) => .int .u8 (k : Int)
set_option maxHeartbeats 800000 in
theorem over_own (g c : Nat) (base : Nat) (ks : List Nat) (w : World) (hk : ∀ k ∈ ks, k < 256) (ho : w.ownsRow base 5 1 (.slice (some ⟨g, 0, none⟩) ks.length c) ks.length (u8s ks)) (hl : ks.length ≤ 140737488355328) :
    Calls Tryz.prog 11 #[.slice (some ⟨g, 0, none⟩) ks.length c] w fun e w' => e = .returned (.tuple #[]) ∧ Only (· = g) w w' := by
  go_enter Tryz.func11, Tryz.ntmps11
  go_wp2
  go_loopw [2] (fun x wr => ∃ (i : Nat) (js : List Nat), x = .int .i64 i ∧ i ≤ ks.length ∧ js.length = ks.length ∧ (∀ k ∈ js, k < 256) ∧ wr.ownsRow base 5 1 (.slice (some ⟨g, 0, none⟩) ks.length c) ks.length (u8s js) ∧ Only (· = g) w wr)
    (fun x wr => ks.length - (intOf x).toNat)
  case atStart => exact ⟨0, ks, rfl, Nat.zero_le _, rfl, hk, ho, Only.refl _ _⟩
  case round =>
    obtain ⟨i, js, rfl, hi, hjl, hj, hown, hon⟩ := hrel
    clear ho hk
    by_cases hlt : i < ks.length
    · have hlt' : (i : Int) < (ks.length : Int) := by omega
      have hij : i < js.length := by omega
      have hc := World.ownsRow.cellAt hown i (by omega)
      have hf := World.ownsRow.frozenAt hown i
      rw [show (u8s js)[i]? = some (.int .u8 (js[i] : Int)) from by unfold u8s; rw [List.getElem?_map, List.getElem?_eq_getElem hij]; rfl] at hc
      have hb := hj _ (List.getElem_mem hij)
      have hx : bits .xor .u8 (js[i] : Int) 165 = ((js[i] ^^^ 165 : Nat) : Int) := u8_xor_nat _ _ hb (by decide)
      have hx2 : js[i] ^^^ 165 < 256 := Nat.xor_lt_two_pow (n := 8) hb (by decide)
      have Hown := Lib.hid hown
      have Hj := Lib.hid hj
      have Hjl := Lib.hid hjl
      clear hown hj hjl
      generalize js[i] = y at *
      generalize y ^^^ 165 = z at *
      go_wp2
      refine ⟨⟨i + 1, js.set i z, by go_num, by omega, by rw [List.length_set]; exact Hjl.out, ?_, ?_, ?_⟩, by simp [intOf]; omega⟩
      · intro k hk
        rcases List.mem_or_eq_of_mem_set hk with h | h
        · exact Hj.out k h
        · rw [h]; exact hx2
      · have := (World.ownsRow.stored Hown.out i (.int .u8 (z : Int))).1
        rw [show u8s (js.set i z) = (u8s js).set i (.int .u8 (z : Int)) from by unfold u8s; rw [List.map_set]]
        exact this
      · exact hon.trans (Only.setCell (S := (· = g)) wr ⟨g, i, none⟩ _ rfl)
    · have hlt' : ¬ (i : Int) < (ks.length : Int) := by omega
      clear hown hj hjl
      go_wp2
      go_end0
      exact ⟨rfl, hon⟩
theorem over_any (A : Option Addr) (c base : Nat) (bs : List UInt8) (w : World) (ho : w.ownsRow base 5 1 (.slice A bs.length c) bs.length (bytesV bs)) (hl : bs.length ≤ 140737488355328) :
    Calls Tryz.prog 11 #[.slice A bs.length c] w fun e w' => e = .returned (.tuple #[]) ∧ Only (fun b => some b = (Value.slice A bs.length c).ownBlock) w w' := by
  rcases ho.2 with ⟨hv, hn⟩ | ⟨g, cap, cur, hv, _⟩
  · obtain rfl := List.eq_nil_of_length_eq_zero hn
    injection hv with h1 h2 h3
    subst h1
    subst h3
    have h0 : ¬ (0 : Int) < ((0 : Nat) : Int) := by omega
    go_enter Tryz.func11, Tryz.ntmps11
    go_wp2
    refine wp_loop_rounds 1 ?_
    rw [rounds_succ]
    go_wp2
    go_end0
    exact ⟨rfl, Only.refl _ _⟩
  · injection hv with h1 h2 h3
    subst h1
    subst h3
    have e : u8s (bs.map fun b => b.toNat) = bytesV bs := by unfold u8s bytesV; rw [List.map_map]; rfl
    have := over_own g c base (bs.map fun b => b.toNat) w (fun k hk => by obtain ⟨b, _, rfl⟩ := List.mem_map.1 hk; exact b.toNat_lt) (by rw [e, List.length_map]; exact ho) (by rw [List.length_map]; exact hl)
    rw [List.length_map] at this
    exact this.mono fun _ _ h => ⟨h.1, h.2.mono fun b hb => by simp [Value.ownBlock, hb]⟩
end Go.Proofs.YtcapdmicekialaaGreat
