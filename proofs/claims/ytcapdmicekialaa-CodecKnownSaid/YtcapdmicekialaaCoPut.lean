/- codec.put at seven types. Printed by gen_put.py. -/
import Derived.Test.YtcapdmicekialaaCoWr
namespace Go.Proofs.Ytcapdmicekialaa
open Go.RowKit
set_option linter.unusedVariables false
set_option linter.unusedSimpArgs false
attribute [local go_sem] Oper.semAt_some run_store_func run_store_nilFunc
def putC {α : Type} (one : CS → α → CS) (st : CS) (l : List α) : CS := l.foldl one (numC st l.length)
theorem put_take {α : Type} (one : CS → α → CS) (st : CS) (l : List α) (i : Nat) (hi : i < l.length) : (l.take (i + 1)).foldl one st = one ((l.take i).foldl one st) l[i] := by
  rw [List.take_succ_eq_append_getElem hi, List.foldl_append]; rfl
section
variable {N : Nat} {w0 W : World} {R M : Thing} {p : Nat} {st : CS}
set_option maxRecDepth 100000 in
set_option maxHeartbeats 800000 in
theorem putVr_any (fn : FuncId) (one : CS → Vr → CS) (he : ∀ args (w : World), (callFunc fn args).run Try.prog w = .ok (.enter fn args) w) (l : List Vr) (v : Value) (hM : vrK.slS (At N w0 M) v l)
    (hone : ∀ W' st' cs x, x ∈ l → vrK.told (At N w0 M) cs x → Lies N w0 W' (sepT (cwT p st') (sepT M R)) → Calls Try.prog fn #[.pointer (some ⟨p, 0, none⟩), .agg cs.toArray] W' fun e w' => e = .returned (.tuple #[]) ∧ Lies N w0 w' (sepT (cwT p (one st' x)) (sepT M R)))
    (H : Lies N w0 W (sepT (cwT p st) (sepT M R))) :
    Calls Try.prog 92 #[.pointer (some ⟨p, 0, none⟩), v, .func (.func fn) #[.pointer (some ⟨p, 0, none⟩)] #[]] W fun e W' => e = .returned (.tuple #[]) ∧ Lies N w0 W' (sepT (cwT p (putC one st l)) (sepT M R)) := by
  obtain ⟨A, c, rfl, hlen⟩ := Kind.sl_form hM
  have HS := Lib.hid hM
  have HO := Lib.hid hone
  obtain ⟨o, c0, hc⟩ := cw_num H
  have HC := Lib.hid (hc (l.length : Int) (by unfold iz; omega))
  have HP : Hid (l.foldl one (numC st l.length) = putC one st l) := Lib.hid rfl
  obtain ⟨n, hn⟩ : ∃ n, n = l.length := ⟨_, rfl⟩
  have HN := Lib.hid hn
  rw [← hn] at hlen HC HP ⊢
  clear hM hn H hone hc
  go_enter Try.func92, Try.ntmps92
  go_wp2_with fail
  refine HC.out.mono ?_
  rintro e w1 ⟨⟨E, rfl⟩, h⟩
  have HH := Lib.hid h
  clear h HC c0
  go_wp2_with fail
  go_loopw [17] (fun ix wr => ∃ i : Nat, ix = .int .i64 i ∧ i ≤ n ∧ Lies N w0 wr (sepT (cwT p ((l.take i).foldl one (numC st n))) (sepT M R))) (fun ix _ => n - (intOf ix).toNat)
  case atStart => exact ⟨0, rfl, Nat.zero_le _, HH.out⟩
  case round =>
    obtain ⟨i, rfl, hi, hh⟩ := hrel
    clear HH
    have HH := Lib.hid hh
    clear hh
    by_cases hlt : i < n
    · have hlt' : (i : Int) < (n : Int) := by omega
      have hlx : i < l.length := by have := HN.out; omega
      have hAt : At N w0 M wr := ⟨_, HH.out.turn (a' := sepT M (sepT (cwT p ((l.take i).foldl one (numC st n))) R)) (by ac_rfl)⟩
      obtain ⟨b, off, c', cs, hv, ht, hat0⟩ := Kind.sl_atS HS.out (by decide) hAt i hlx
      obtain rfl : A = some ⟨b, off, none⟩ := by injection hv
      have hat := hat0 wr hAt
      have HC1 := fun W' h => HO.out W' ((l.take i).foldl one (numC st n)) cs l[i] (List.getElem_mem hlx) ht h
      rw [← put_take one (numC st n) l i hlx] at HC1
      generalize l[i] = x at *
      obtain ⟨rfl, _⟩ := ht
      have hat : ∀ j u, (#[.string x.1, .string x.2].toList : List Value)[j]? = some u → wr.cell? ⟨b, off + i * 2 + j, none⟩ = some u := hat
      have e0 := hat 0 _ rfl
      have e1 := hat 1 _ rfl
      rw [Nat.add_zero] at e0
      have HC2 : Hid (∀ W', Lies N w0 W' (sepT (cwT p ((l.take i).foldl one (numC st n))) (sepT M R)) → Calls Try.prog fn #[.pointer (some ⟨p, 0, none⟩), .agg #[.string x.1, .string x.2]] W' fun e w' => e = .returned (.tuple #[]) ∧ Lies N w0 w' (sepT (cwT p ((l.take (i + 1)).foldl one (numC st n))) (sepT M R))) := Lib.hid HC1
      clear HC1 hat hat0 hv hAt
      go_wp2_with fail
      refine (HC2.out _ (HH.out.alloc _)).mono ?_
      rintro e w2 ⟨rfl, h⟩
      have HF := Lib.hid h
      clear h HC2 HH
      go_wp2_with fail
      go_roundw
      case rel => exact ⟨i + 1, by go_num, by omega, HF.out⟩
      case measure => simp [intOf]; omega
    · have hlt' : ¬ (i : Int) < (n : Int) := by omega
      have HF : Hid (Lies N w0 wr (sepT (cwT p (putC one st l)) (sepT M R))) := Lib.hid (by have h := HH.out; rw [List.take_of_length_le (by have := HN.out; omega), HP.out] at h; exact h)
      clear HH
      go_wp2_with fail
      go_end0
      exact ⟨rfl, HF.out⟩
set_option maxRecDepth 100000 in
set_option maxHeartbeats 800000 in
theorem putSg_any (fn : FuncId) (one : CS → Sg → CS) (he : ∀ args (w : World), (callFunc fn args).run Try.prog w = .ok (.enter fn args) w) (l : List Sg) (v : Value) (hM : sgK.slS (At N w0 M) v l)
    (hone : ∀ W' st' cs x, x ∈ l → sgK.told (At N w0 M) cs x → Lies N w0 W' (sepT (cwT p st') (sepT M R)) → Calls Try.prog fn #[.pointer (some ⟨p, 0, none⟩), .agg cs.toArray] W' fun e w' => e = .returned (.tuple #[]) ∧ Lies N w0 w' (sepT (cwT p (one st' x)) (sepT M R)))
    (H : Lies N w0 W (sepT (cwT p st) (sepT M R))) :
    Calls Try.prog 94 #[.pointer (some ⟨p, 0, none⟩), v, .func (.func fn) #[.pointer (some ⟨p, 0, none⟩)] #[]] W fun e W' => e = .returned (.tuple #[]) ∧ Lies N w0 W' (sepT (cwT p (putC one st l)) (sepT M R)) := by
  obtain ⟨A, c, rfl, hlen⟩ := Kind.sl_form hM
  have HS := Lib.hid hM
  have HO := Lib.hid hone
  obtain ⟨o, c0, hc⟩ := cw_num H
  have HC := Lib.hid (hc (l.length : Int) (by unfold iz; omega))
  have HP : Hid (l.foldl one (numC st l.length) = putC one st l) := Lib.hid rfl
  obtain ⟨n, hn⟩ : ∃ n, n = l.length := ⟨_, rfl⟩
  have HN := Lib.hid hn
  rw [← hn] at hlen HC HP ⊢
  clear hM hn H hone hc
  go_enter Try.func94, Try.ntmps94
  go_wp2_with fail
  refine HC.out.mono ?_
  rintro e w1 ⟨⟨E, rfl⟩, h⟩
  have HH := Lib.hid h
  clear h HC c0
  go_wp2_with fail
  go_loopw [17] (fun ix wr => ∃ i : Nat, ix = .int .i64 i ∧ i ≤ n ∧ Lies N w0 wr (sepT (cwT p ((l.take i).foldl one (numC st n))) (sepT M R))) (fun ix _ => n - (intOf ix).toNat)
  case atStart => exact ⟨0, rfl, Nat.zero_le _, HH.out⟩
  case round =>
    obtain ⟨i, rfl, hi, hh⟩ := hrel
    clear HH
    have HH := Lib.hid hh
    clear hh
    by_cases hlt : i < n
    · have hlt' : (i : Int) < (n : Int) := by omega
      have hlx : i < l.length := by have := HN.out; omega
      have hAt : At N w0 M wr := ⟨_, HH.out.turn (a' := sepT M (sepT (cwT p ((l.take i).foldl one (numC st n))) R)) (by ac_rfl)⟩
      obtain ⟨b, off, c', cs, hv, ht, hat0⟩ := Kind.sl_atS HS.out (by decide) hAt i hlx
      obtain rfl : A = some ⟨b, off, none⟩ := by injection hv
      have hat := hat0 wr hAt
      have HC1 := fun W' h => HO.out W' ((l.take i).foldl one (numC st n)) cs l[i] (List.getElem_mem hlx) ht h
      rw [← put_take one (numC st n) l i hlx] at HC1
      generalize l[i] = x at *
      obtain ⟨ps, rfl, _, _, h3⟩ := ht
      obtain ⟨A2, c2, rfl, _⟩ := Kind.sl_form h3
      have hat : ∀ j u, (#[.string x.name, .slice A2 x.params.length c2, .string x.result].toList : List Value)[j]? = some u → wr.cell? ⟨b, off + i * 3 + j, none⟩ = some u := hat
      have e0 := hat 0 _ rfl
      have e1 := hat 1 _ rfl
      have e2 := hat 2 _ rfl
      rw [Nat.add_zero] at e0
      have HC2 : Hid (∀ W', Lies N w0 W' (sepT (cwT p ((l.take i).foldl one (numC st n))) (sepT M R)) → Calls Try.prog fn #[.pointer (some ⟨p, 0, none⟩), .agg #[.string x.name, .slice A2 x.params.length c2, .string x.result]] W' fun e w' => e = .returned (.tuple #[]) ∧ Lies N w0 w' (sepT (cwT p ((l.take (i + 1)).foldl one (numC st n))) (sepT M R))) := Lib.hid HC1
      clear HC1 hat hat0 hv hAt
      go_wp2_with fail
      refine (HC2.out _ (HH.out.alloc _)).mono ?_
      rintro e w2 ⟨rfl, h⟩
      have HF := Lib.hid h
      clear h HC2 HH
      go_wp2_with fail
      go_roundw
      case rel => exact ⟨i + 1, by go_num, by omega, HF.out⟩
      case measure => simp [intOf]; omega
    · have hlt' : ¬ (i : Int) < (n : Int) := by omega
      have HF : Hid (Lies N w0 wr (sepT (cwT p (putC one st l)) (sepT M R))) := Lib.hid (by have h := HH.out; rw [List.take_of_length_le (by have := HN.out; omega), HP.out] at h; exact h)
      clear HH
      go_wp2_with fail
      go_end0
      exact ⟨rfl, HF.out⟩
set_option maxRecDepth 100000 in
set_option maxHeartbeats 800000 in
theorem putCl_any (fn : FuncId) (one : CS → Cl → CS) (he : ∀ args (w : World), (callFunc fn args).run Try.prog w = .ok (.enter fn args) w) (l : List Cl) (v : Value) (hM : clK.slS (At N w0 M) v l)
    (hone : ∀ W' st' cs x, x ∈ l → clK.told (At N w0 M) cs x → Lies N w0 W' (sepT (cwT p st') (sepT M R)) → Calls Try.prog fn #[.pointer (some ⟨p, 0, none⟩), .agg cs.toArray] W' fun e w' => e = .returned (.tuple #[]) ∧ Lies N w0 w' (sepT (cwT p (one st' x)) (sepT M R)))
    (H : Lies N w0 W (sepT (cwT p st) (sepT M R))) :
    Calls Try.prog 54 #[.pointer (some ⟨p, 0, none⟩), v, .func (.func fn) #[.pointer (some ⟨p, 0, none⟩)] #[]] W fun e W' => e = .returned (.tuple #[]) ∧ Lies N w0 W' (sepT (cwT p (putC one st l)) (sepT M R)) := by
  obtain ⟨A, c, rfl, hlen⟩ := Kind.sl_form hM
  have HS := Lib.hid hM
  have HO := Lib.hid hone
  obtain ⟨o, c0, hc⟩ := cw_num H
  have HC := Lib.hid (hc (l.length : Int) (by unfold iz; omega))
  have HP : Hid (l.foldl one (numC st l.length) = putC one st l) := Lib.hid rfl
  obtain ⟨n, hn⟩ : ∃ n, n = l.length := ⟨_, rfl⟩
  have HN := Lib.hid hn
  rw [← hn] at hlen HC HP ⊢
  clear hM hn H hone hc
  go_enter Try.func54, Try.ntmps54
  go_wp2_with fail
  refine HC.out.mono ?_
  rintro e w1 ⟨⟨E, rfl⟩, h⟩
  have HH := Lib.hid h
  clear h HC c0
  go_wp2_with fail
  go_loopw [17] (fun ix wr => ∃ i : Nat, ix = .int .i64 i ∧ i ≤ n ∧ Lies N w0 wr (sepT (cwT p ((l.take i).foldl one (numC st n))) (sepT M R))) (fun ix _ => n - (intOf ix).toNat)
  case atStart => exact ⟨0, rfl, Nat.zero_le _, HH.out⟩
  case round =>
    obtain ⟨i, rfl, hi, hh⟩ := hrel
    clear HH
    have HH := Lib.hid hh
    clear hh
    by_cases hlt : i < n
    · have hlt' : (i : Int) < (n : Int) := by omega
      have hlx : i < l.length := by have := HN.out; omega
      have hAt : At N w0 M wr := ⟨_, HH.out.turn (a' := sepT M (sepT (cwT p ((l.take i).foldl one (numC st n))) R)) (by ac_rfl)⟩
      obtain ⟨b, off, c', cs, hv, ht, hat0⟩ := Kind.sl_atS HS.out (by decide) hAt i hlx
      obtain rfl : A = some ⟨b, off, none⟩ := by injection hv
      have hat := hat0 wr hAt
      have HC1 := fun W' h => HO.out W' ((l.take i).foldl one (numC st n)) cs l[i] (List.getElem_mem hlx) ht h
      rw [← put_take one (numC st n) l i hlx] at HC1
      generalize l[i] = x at *
      obtain ⟨fs, ms, rfl, _, _, h3, h4⟩ := ht
      obtain ⟨A2, c2, rfl, _⟩ := Kind.sl_form h3
      obtain ⟨A3, c3, rfl, _⟩ := Kind.sl_form h4
      have hat : ∀ j u, (#[.string x.name, .string x.super, .slice A2 x.fields.length c2, .slice A3 x.methods.length c3].toList : List Value)[j]? = some u → wr.cell? ⟨b, off + i * 4 + j, none⟩ = some u := hat
      have e0 := hat 0 _ rfl
      have e1 := hat 1 _ rfl
      have e2 := hat 2 _ rfl
      have e3 := hat 3 _ rfl
      rw [Nat.add_zero] at e0
      have HC2 : Hid (∀ W', Lies N w0 W' (sepT (cwT p ((l.take i).foldl one (numC st n))) (sepT M R)) → Calls Try.prog fn #[.pointer (some ⟨p, 0, none⟩), .agg #[.string x.name, .string x.super, .slice A2 x.fields.length c2, .slice A3 x.methods.length c3]] W' fun e w' => e = .returned (.tuple #[]) ∧ Lies N w0 w' (sepT (cwT p ((l.take (i + 1)).foldl one (numC st n))) (sepT M R))) := Lib.hid HC1
      clear HC1 hat hat0 hv hAt
      go_wp2_with fail
      refine (HC2.out _ (HH.out.alloc _)).mono ?_
      rintro e w2 ⟨rfl, h⟩
      have HF := Lib.hid h
      clear h HC2 HH
      go_wp2_with fail
      go_roundw
      case rel => exact ⟨i + 1, by go_num, by omega, HF.out⟩
      case measure => simp [intOf]; omega
    · have hlt' : ¬ (i : Int) < (n : Int) := by omega
      have HF : Hid (Lies N w0 wr (sepT (cwT p (putC one st l)) (sepT M R))) := Lib.hid (by have h := HH.out; rw [List.take_of_length_le (by have := HN.out; omega), HP.out] at h; exact h)
      clear HH
      go_wp2_with fail
      go_end0
      exact ⟨rfl, HF.out⟩
set_option maxRecDepth 100000 in
set_option maxHeartbeats 800000 in
theorem putSt_any (fn : FuncId) (one : CS → St → CS) (he : ∀ args (w : World), (callFunc fn args).run Try.prog w = .ok (.enter fn args) w) (l : List St) (v : Value) (hM : stK.slS (At N w0 M) v l)
    (hone : ∀ W' st' cs x, x ∈ l → stK.told (At N w0 M) cs x → Lies N w0 W' (sepT (cwT p st') (sepT M R)) → Calls Try.prog fn #[.pointer (some ⟨p, 0, none⟩), .agg cs.toArray] W' fun e w' => e = .returned (.tuple #[]) ∧ Lies N w0 w' (sepT (cwT p (one st' x)) (sepT M R)))
    (H : Lies N w0 W (sepT (cwT p st) (sepT M R))) :
    Calls Try.prog 56 #[.pointer (some ⟨p, 0, none⟩), v, .func (.func fn) #[.pointer (some ⟨p, 0, none⟩)] #[]] W fun e W' => e = .returned (.tuple #[]) ∧ Lies N w0 W' (sepT (cwT p (putC one st l)) (sepT M R)) := by
  obtain ⟨A, c, rfl, hlen⟩ := Kind.sl_form hM
  have HS := Lib.hid hM
  have HO := Lib.hid hone
  obtain ⟨o, c0, hc⟩ := cw_num H
  have HC := Lib.hid (hc (l.length : Int) (by unfold iz; omega))
  have HP : Hid (l.foldl one (numC st l.length) = putC one st l) := Lib.hid rfl
  obtain ⟨n, hn⟩ : ∃ n, n = l.length := ⟨_, rfl⟩
  have HN := Lib.hid hn
  rw [← hn] at hlen HC HP ⊢
  clear hM hn H hone hc
  go_enter Try.func56, Try.ntmps56
  go_wp2_with fail
  refine HC.out.mono ?_
  rintro e w1 ⟨⟨E, rfl⟩, h⟩
  have HH := Lib.hid h
  clear h HC c0
  go_wp2_with fail
  go_loopw [17] (fun ix wr => ∃ i : Nat, ix = .int .i64 i ∧ i ≤ n ∧ Lies N w0 wr (sepT (cwT p ((l.take i).foldl one (numC st n))) (sepT M R))) (fun ix _ => n - (intOf ix).toNat)
  case atStart => exact ⟨0, rfl, Nat.zero_le _, HH.out⟩
  case round =>
    obtain ⟨i, rfl, hi, hh⟩ := hrel
    clear HH
    have HH := Lib.hid hh
    clear hh
    by_cases hlt : i < n
    · have hlt' : (i : Int) < (n : Int) := by omega
      have hlx : i < l.length := by have := HN.out; omega
      have hAt : At N w0 M wr := ⟨_, HH.out.turn (a' := sepT M (sepT (cwT p ((l.take i).foldl one (numC st n))) R)) (by ac_rfl)⟩
      obtain ⟨b, off, c', cs, hv, ht, hat0⟩ := Kind.sl_atS HS.out (by decide) hAt i hlx
      obtain rfl : A = some ⟨b, off, none⟩ := by injection hv
      have hat := hat0 wr hAt
      have HC1 := fun W' h => HO.out W' ((l.take i).foldl one (numC st n)) cs l[i] (List.getElem_mem hlx) ht h
      rw [← put_take one (numC st n) l i hlx] at HC1
      generalize l[i] = x at *
      obtain ⟨rfl, _⟩ := ht
      have hat : ∀ j u, (#[.int .i64 x.what, .string x.src, .string x.dst].toList : List Value)[j]? = some u → wr.cell? ⟨b, off + i * 3 + j, none⟩ = some u := hat
      have e0 := hat 0 _ rfl
      have e1 := hat 1 _ rfl
      have e2 := hat 2 _ rfl
      rw [Nat.add_zero] at e0
      have HC2 : Hid (∀ W', Lies N w0 W' (sepT (cwT p ((l.take i).foldl one (numC st n))) (sepT M R)) → Calls Try.prog fn #[.pointer (some ⟨p, 0, none⟩), .agg #[.int .i64 x.what, .string x.src, .string x.dst]] W' fun e w' => e = .returned (.tuple #[]) ∧ Lies N w0 w' (sepT (cwT p ((l.take (i + 1)).foldl one (numC st n))) (sepT M R))) := Lib.hid HC1
      clear HC1 hat hat0 hv hAt
      go_wp2_with fail
      refine (HC2.out _ (HH.out.alloc _)).mono ?_
      rintro e w2 ⟨rfl, h⟩
      have HF := Lib.hid h
      clear h HC2 HH
      go_wp2_with fail
      go_roundw
      case rel => exact ⟨i + 1, by go_num, by omega, HF.out⟩
      case measure => simp [intOf]; omega
    · have hlt' : ¬ (i : Int) < (n : Int) := by omega
      have HF : Hid (Lies N w0 wr (sepT (cwT p (putC one st l)) (sepT M R))) := Lib.hid (by have h := HH.out; rw [List.take_of_length_le (by have := HN.out; omega), HP.out] at h; exact h)
      clear HH
      go_wp2_with fail
      go_end0
      exact ⟨rfl, HF.out⟩
set_option maxRecDepth 100000 in
set_option maxHeartbeats 800000 in
theorem putIn_any (fn : FuncId) (one : CS → In → CS) (he : ∀ args (w : World), (callFunc fn args).run Try.prog w = .ok (.enter fn args) w) (l : List In) (v : Value) (hM : inK.slS (At N w0 M) v l)
    (hone : ∀ W' st' cs x, x ∈ l → inK.told (At N w0 M) cs x → Lies N w0 W' (sepT (cwT p st') (sepT M R)) → Calls Try.prog fn #[.pointer (some ⟨p, 0, none⟩), .agg cs.toArray] W' fun e w' => e = .returned (.tuple #[]) ∧ Lies N w0 w' (sepT (cwT p (one st' x)) (sepT M R)))
    (H : Lies N w0 W (sepT (cwT p st) (sepT M R))) :
    Calls Try.prog 96 #[.pointer (some ⟨p, 0, none⟩), v, .func (.func fn) #[.pointer (some ⟨p, 0, none⟩)] #[]] W fun e W' => e = .returned (.tuple #[]) ∧ Lies N w0 W' (sepT (cwT p (putC one st l)) (sepT M R)) := by
  obtain ⟨A, c, rfl, hlen⟩ := Kind.sl_form hM
  have HS := Lib.hid hM
  have HO := Lib.hid hone
  obtain ⟨o, c0, hc⟩ := cw_num H
  have HC := Lib.hid (hc (l.length : Int) (by unfold iz; omega))
  have HP : Hid (l.foldl one (numC st l.length) = putC one st l) := Lib.hid rfl
  obtain ⟨n, hn⟩ : ∃ n, n = l.length := ⟨_, rfl⟩
  have HN := Lib.hid hn
  rw [← hn] at hlen HC HP ⊢
  clear hM hn H hone hc
  go_enter Try.func96, Try.ntmps96
  go_wp2_with fail
  refine HC.out.mono ?_
  rintro e w1 ⟨⟨E, rfl⟩, h⟩
  have HH := Lib.hid h
  clear h HC c0
  go_wp2_with fail
  go_loopw [17] (fun ix wr => ∃ i : Nat, ix = .int .i64 i ∧ i ≤ n ∧ Lies N w0 wr (sepT (cwT p ((l.take i).foldl one (numC st n))) (sepT M R))) (fun ix _ => n - (intOf ix).toNat)
  case atStart => exact ⟨0, rfl, Nat.zero_le _, HH.out⟩
  case round =>
    obtain ⟨i, rfl, hi, hh⟩ := hrel
    clear HH
    have HH := Lib.hid hh
    clear hh
    by_cases hlt : i < n
    · have hlt' : (i : Int) < (n : Int) := by omega
      have hlx : i < l.length := by have := HN.out; omega
      have hAt : At N w0 M wr := ⟨_, HH.out.turn (a' := sepT M (sepT (cwT p ((l.take i).foldl one (numC st n))) R)) (by ac_rfl)⟩
      obtain ⟨b, off, c', cs, hv, ht, hat0⟩ := Kind.sl_atS HS.out (by decide) hAt i hlx
      obtain rfl : A = some ⟨b, off, none⟩ := by injection hv
      have hat := hat0 wr hAt
      have HC1 := fun W' h => HO.out W' ((l.take i).foldl one (numC st n)) cs l[i] (List.getElem_mem hlx) ht h
      rw [← put_take one (numC st n) l i hlx] at HC1
      generalize l[i] = x at *
      obtain ⟨rfl, _⟩ := ht
      have hat : ∀ j u, (#[.int .i64 x.op, .int .i64 x.a, .int .i64 x.b, .int .i64 x.c].toList : List Value)[j]? = some u → wr.cell? ⟨b, off + i * 4 + j, none⟩ = some u := hat
      have e0 := hat 0 _ rfl
      have e1 := hat 1 _ rfl
      have e2 := hat 2 _ rfl
      have e3 := hat 3 _ rfl
      rw [Nat.add_zero] at e0
      have HC2 : Hid (∀ W', Lies N w0 W' (sepT (cwT p ((l.take i).foldl one (numC st n))) (sepT M R)) → Calls Try.prog fn #[.pointer (some ⟨p, 0, none⟩), .agg #[.int .i64 x.op, .int .i64 x.a, .int .i64 x.b, .int .i64 x.c]] W' fun e w' => e = .returned (.tuple #[]) ∧ Lies N w0 w' (sepT (cwT p ((l.take (i + 1)).foldl one (numC st n))) (sepT M R))) := Lib.hid HC1
      clear HC1 hat hat0 hv hAt
      go_wp2_with fail
      refine (HC2.out _ (HH.out.alloc _)).mono ?_
      rintro e w2 ⟨rfl, h⟩
      have HF := Lib.hid h
      clear h HC2 HH
      go_wp2_with fail
      go_roundw
      case rel => exact ⟨i + 1, by go_num, by omega, HF.out⟩
      case measure => simp [intOf]; omega
    · have hlt' : ¬ (i : Int) < (n : Int) := by omega
      have HF : Hid (Lies N w0 wr (sepT (cwT p (putC one st l)) (sepT M R))) := Lib.hid (by have h := HH.out; rw [List.take_of_length_le (by have := HN.out; omega), HP.out] at h; exact h)
      clear HH
      go_wp2_with fail
      go_end0
      exact ⟨rfl, HF.out⟩
set_option maxRecDepth 100000 in
set_option maxHeartbeats 800000 in
theorem putFu_any (fn : FuncId) (one : CS → Fu → CS) (he : ∀ args (w : World), (callFunc fn args).run Try.prog w = .ok (.enter fn args) w) (l : List Fu) (v : Value) (hM : fuK.slS (At N w0 M) v l)
    (hone : ∀ W' st' cs x, x ∈ l → fuK.told (At N w0 M) cs x → Lies N w0 W' (sepT (cwT p st') (sepT M R)) → Calls Try.prog fn #[.pointer (some ⟨p, 0, none⟩), .agg cs.toArray] W' fun e w' => e = .returned (.tuple #[]) ∧ Lies N w0 w' (sepT (cwT p (one st' x)) (sepT M R)))
    (H : Lies N w0 W (sepT (cwT p st) (sepT M R))) :
    Calls Try.prog 60 #[.pointer (some ⟨p, 0, none⟩), v, .func (.func fn) #[.pointer (some ⟨p, 0, none⟩)] #[]] W fun e W' => e = .returned (.tuple #[]) ∧ Lies N w0 W' (sepT (cwT p (putC one st l)) (sepT M R)) := by
  obtain ⟨A, c, rfl, hlen⟩ := Kind.sl_form hM
  have HS := Lib.hid hM
  have HO := Lib.hid hone
  obtain ⟨o, c0, hc⟩ := cw_num H
  have HC := Lib.hid (hc (l.length : Int) (by unfold iz; omega))
  have HP : Hid (l.foldl one (numC st l.length) = putC one st l) := Lib.hid rfl
  obtain ⟨n, hn⟩ : ∃ n, n = l.length := ⟨_, rfl⟩
  have HN := Lib.hid hn
  rw [← hn] at hlen HC HP ⊢
  clear hM hn H hone hc
  go_enter Try.func60, Try.ntmps60
  go_wp2_with fail
  refine HC.out.mono ?_
  rintro e w1 ⟨⟨E, rfl⟩, h⟩
  have HH := Lib.hid h
  clear h HC c0
  go_wp2_with fail
  go_loopw [17] (fun ix wr => ∃ i : Nat, ix = .int .i64 i ∧ i ≤ n ∧ Lies N w0 wr (sepT (cwT p ((l.take i).foldl one (numC st n))) (sepT M R))) (fun ix _ => n - (intOf ix).toNat)
  case atStart => exact ⟨0, rfl, Nat.zero_le _, HH.out⟩
  case round =>
    obtain ⟨i, rfl, hi, hh⟩ := hrel
    clear HH
    have HH := Lib.hid hh
    clear hh
    by_cases hlt : i < n
    · have hlt' : (i : Int) < (n : Int) := by omega
      have hlx : i < l.length := by have := HN.out; omega
      have hAt : At N w0 M wr := ⟨_, HH.out.turn (a' := sepT M (sepT (cwT p ((l.take i).foldl one (numC st n))) R)) (by ac_rfl)⟩
      obtain ⟨b, off, c', cs, hv, ht, hat0⟩ := Kind.sl_atS HS.out (by decide) hAt i hlx
      obtain rfl : A = some ⟨b, off, none⟩ := by injection hv
      have hat := hat0 wr hAt
      have HC1 := fun W' h => HO.out W' ((l.take i).foldl one (numC st n)) cs l[i] (List.getElem_mem hlx) ht h
      rw [← put_take one (numC st n) l i hlx] at HC1
      generalize l[i] = x at *
      obtain ⟨ls, cd, rfl, _, _, h3, h4⟩ := ht
      obtain ⟨A2, c2, rfl, _⟩ := Kind.sl_form h3
      obtain ⟨A3, c3, rfl, _⟩ := Kind.sl_form h4
      have hat : ∀ j u, (#[.string x.cls, .string x.name, .slice A2 x.locals.length c2, .slice A3 x.code.length c3].toList : List Value)[j]? = some u → wr.cell? ⟨b, off + i * 4 + j, none⟩ = some u := hat
      have e0 := hat 0 _ rfl
      have e1 := hat 1 _ rfl
      have e2 := hat 2 _ rfl
      have e3 := hat 3 _ rfl
      rw [Nat.add_zero] at e0
      have HC2 : Hid (∀ W', Lies N w0 W' (sepT (cwT p ((l.take i).foldl one (numC st n))) (sepT M R)) → Calls Try.prog fn #[.pointer (some ⟨p, 0, none⟩), .agg #[.string x.cls, .string x.name, .slice A2 x.locals.length c2, .slice A3 x.code.length c3]] W' fun e w' => e = .returned (.tuple #[]) ∧ Lies N w0 w' (sepT (cwT p ((l.take (i + 1)).foldl one (numC st n))) (sepT M R))) := Lib.hid HC1
      clear HC1 hat hat0 hv hAt
      go_wp2_with fail
      refine (HC2.out _ (HH.out.alloc _)).mono ?_
      rintro e w2 ⟨rfl, h⟩
      have HF := Lib.hid h
      clear h HC2 HH
      go_wp2_with fail
      go_roundw
      case rel => exact ⟨i + 1, by go_num, by omega, HF.out⟩
      case measure => simp [intOf]; omega
    · have hlt' : ¬ (i : Int) < (n : Int) := by omega
      have HF : Hid (Lies N w0 wr (sepT (cwT p (putC one st l)) (sepT M R))) := Lib.hid (by have h := HH.out; rw [List.take_of_length_le (by have := HN.out; omega), HP.out] at h; exact h)
      clear HH
      go_wp2_with fail
      go_end0
      exact ⟨rfl, HF.out⟩
set_option maxRecDepth 100000 in
set_option maxHeartbeats 800000 in
theorem putTx_any (fn : FuncId) (one : CS → ByteArray → CS) (he : ∀ args (w : World), (callFunc fn args).run Try.prog w = .ok (.enter fn args) w) (l : List ByteArray) (v : Value) (hM : txK.slS (At N w0 M) v l)
    (hone : ∀ W' st' cs x, x ∈ l → txK.told (At N w0 M) cs x → Lies N w0 W' (sepT (cwT p st') (sepT M R)) → Calls Try.prog fn #[.pointer (some ⟨p, 0, none⟩), .string x] W' fun e w' => e = .returned (.tuple #[]) ∧ Lies N w0 w' (sepT (cwT p (one st' x)) (sepT M R)))
    (H : Lies N w0 W (sepT (cwT p st) (sepT M R))) :
    Calls Try.prog 58 #[.pointer (some ⟨p, 0, none⟩), v, .func (.func fn) #[.pointer (some ⟨p, 0, none⟩)] #[]] W fun e W' => e = .returned (.tuple #[]) ∧ Lies N w0 W' (sepT (cwT p (putC one st l)) (sepT M R)) := by
  obtain ⟨A, c, rfl, hlen⟩ := Kind.sl_form hM
  have HS := Lib.hid hM
  have HO := Lib.hid hone
  obtain ⟨o, c0, hc⟩ := cw_num H
  have HC := Lib.hid (hc (l.length : Int) (by unfold iz; omega))
  have HP : Hid (l.foldl one (numC st l.length) = putC one st l) := Lib.hid rfl
  obtain ⟨n, hn⟩ : ∃ n, n = l.length := ⟨_, rfl⟩
  have HN := Lib.hid hn
  rw [← hn] at hlen HC HP ⊢
  clear hM hn H hone hc
  go_enter Try.func58, Try.ntmps58
  go_wp2_with fail
  refine HC.out.mono ?_
  rintro e w1 ⟨⟨E, rfl⟩, h⟩
  have HH := Lib.hid h
  clear h HC c0
  go_wp2_with fail
  go_loopw [17] (fun ix wr => ∃ i : Nat, ix = .int .i64 i ∧ i ≤ n ∧ Lies N w0 wr (sepT (cwT p ((l.take i).foldl one (numC st n))) (sepT M R))) (fun ix _ => n - (intOf ix).toNat)
  case atStart => exact ⟨0, rfl, Nat.zero_le _, HH.out⟩
  case round =>
    obtain ⟨i, rfl, hi, hh⟩ := hrel
    clear HH
    have HH := Lib.hid hh
    clear hh
    by_cases hlt : i < n
    · have hlt' : (i : Int) < (n : Int) := by omega
      have hlx : i < l.length := by have := HN.out; omega
      have hAt : At N w0 M wr := ⟨_, HH.out.turn (a' := sepT M (sepT (cwT p ((l.take i).foldl one (numC st n))) R)) (by ac_rfl)⟩
      obtain ⟨b, off, c', cs, hv, ht, hat0⟩ := Kind.sl_atS HS.out (by decide) hAt i hlx
      obtain rfl : A = some ⟨b, off, none⟩ := by injection hv
      have hat := hat0 wr hAt
      have HC1 := fun W' h => HO.out W' ((l.take i).foldl one (numC st n)) cs l[i] (List.getElem_mem hlx) ht h
      rw [← put_take one (numC st n) l i hlx] at HC1
      generalize l[i] = x at *
      obtain ⟨rfl, _⟩ := ht
      have hat : ∀ j u, (#[.string x].toList : List Value)[j]? = some u → wr.cell? ⟨b, off + i * 1 + j, none⟩ = some u := hat
      have e0 := hat 0 _ rfl
      rw [Nat.add_zero] at e0
      rw [Nat.mul_one] at e0
      have HC2 : Hid (∀ W', Lies N w0 W' (sepT (cwT p ((l.take i).foldl one (numC st n))) (sepT M R)) → Calls Try.prog fn #[.pointer (some ⟨p, 0, none⟩), .string x] W' fun e w' => e = .returned (.tuple #[]) ∧ Lies N w0 w' (sepT (cwT p ((l.take (i + 1)).foldl one (numC st n))) (sepT M R))) := Lib.hid HC1
      clear HC1 hat hat0 hv hAt
      go_wp2_with fail
      refine (HC2.out _ HH.out).mono ?_
      rintro e w2 ⟨rfl, h⟩
      have HF := Lib.hid h
      clear h HC2 HH
      go_wp2_with fail
      go_roundw
      case rel => exact ⟨i + 1, by go_num, by omega, HF.out⟩
      case measure => simp [intOf]; omega
    · have hlt' : ¬ (i : Int) < (n : Int) := by omega
      have HF : Hid (Lies N w0 wr (sepT (cwT p (putC one st l)) (sepT M R))) := Lib.hid (by have h := HH.out; rw [List.take_of_length_le (by have := HN.out; omega), HP.out] at h; exact h)
      clear HH
      go_wp2_with fail
      go_end0
      exact ⟨rfl, HF.out⟩
end
end Go.Proofs.Ytcapdmicekialaa
