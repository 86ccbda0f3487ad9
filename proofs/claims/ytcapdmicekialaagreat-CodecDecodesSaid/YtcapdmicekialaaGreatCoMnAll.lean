/- Merged by merge.py: CoIdx, CoMany, CoLong. -/
import Derived.Test.YtcapdmicekialaaGreatCoTypes
import Derived.Test.YtcapdmicekialaaGreatProg
import Derived.IntWalk
import Derived.WalkKit
/- slices.IndexFunc, slices.ContainsFunc at five types. Printed by gen_idx.py. -/
namespace Go.Proofs.YtcapdmicekialaaGreat
open Go.RowKit
set_option linter.unusedVariables false
set_option linter.unusedSimpArgs false
theorem any_take {α : Type} (p : α → Bool) (l : List α) (i : Nat) (hi : i < l.length) : (l.take (i + 1)).any p = ((l.take i).any p || p l[i]) := by
  rw [List.take_succ_eq_append_getElem hi, List.any_append]; simp
theorem any_at {α : Type} (p : α → Bool) (l : List α) (i : Nat) (hi : i < l.length) (h : p l[i] = true) : l.any p = true := List.any_eq_true.2 ⟨l[i], List.getElem_mem hi, h⟩
section
variable {W : World} {v : Value} {l : List Sg}
set_option maxRecDepth 100000 in
theorem idxSg_any (fn : FuncId) (p : Sg → Bool) (he : ∀ args (w : World), (callFunc fn args).run Tryz.prog w = .ok (.enter fn args) w) (h : sgK.sl W v l)
    (hc : ∀ W' cs x, x ∈ l → sgK.tells W' cs x → Calls Tryz.prog fn #[.agg cs.toArray] W' fun e w' => e = .returned (.bool (p x)) ∧ Below W'.heap.size W' w') :
    Calls Tryz.prog 117 #[v, .func (.func fn) #[] #[]] W fun e w' => ∃ n : Int, e = .returned (.int .i64 n) ∧ decide (0 ≤ n) = l.any p ∧ Below W.heap.size W w' := by
  obtain ⟨A, c, rfl, hlen⟩ := Kind.sl_form h
  have HS := Lib.hid h
  have HC := Lib.hid hc
  obtain ⟨n, hn⟩ : ∃ n, n = l.length := ⟨_, rfl⟩
  have HN := Lib.hid hn
  rw [← hn] at hlen ⊢
  clear h hc hn
  go_enter Tryz.func117, Tryz.ntmps117
  go_wp2
  go_loopw [8] (fun ix wr => ∃ i : Nat, ix = .int .i64 i ∧ i ≤ n ∧ (l.take i).any p = false ∧ Below W.heap.size W wr) (fun ix _ => n - (intOf ix).toNat)
  case atStart => exact ⟨0, rfl, Nat.zero_le _, rfl, Below.refl _ _⟩
  case round =>
    obtain ⟨i, rfl, hi, hany, hb⟩ := hrel
    have HA := Lib.hid hany
    have HB := Lib.hid hb
    clear hany hb
    by_cases hlt : i < n
    · have hlt' : (i : Int) < (n : Int) := by omega
      have hlx : i < l.length := by have := HN.out; omega
      obtain ⟨b, off, c', cs, hv, ht, hat⟩ := Kind.sl_at (Kind.sl_below HS.out HB.out) (by decide) i hlx
      obtain rfl : A = some ⟨b, off, none⟩ := by injection hv
      have HC1 := Lib.hid (HC.out wr cs l[i] (List.getElem_mem hlx) ht)
      generalize hx : l[i] = x at *
      have HX := Lib.hid hx
      obtain ⟨ps, rfl, _⟩ := ht
      have hat : ∀ j u, (#[.string x.name, ps, .string x.result].toList : List Value)[j]? = some u → wr.cell? ⟨b, off + i * 3 + j, none⟩ = some u := hat
      have e0 := hat 0 _ rfl
      have e1 := hat 1 _ rfl
      have e2 := hat 2 _ rfl
      rw [Nat.add_zero] at e0
      have HC2 : Hid (Calls Tryz.prog fn #[.agg #[.string x.name, ps, .string x.result]] wr fun e w' => e = .returned (.bool (p x)) ∧ Below wr.heap.size wr w') := HC1
      clear HC1 hx hat hv
      by_cases hp : p x = true
      · rw [hp] at HC2
        go_wp2_with fail
        refine HC2.out.mono ?_
        rintro e w1 ⟨rfl, hb1⟩
        have HF := Lib.hid (HB.out.trans (hb1.mono HB.out.size))
        clear hb1 HC2
        go_wp2_with fail
        go_ret
        refine ⟨_, rfl, ?_, HF.out⟩
        rw [any_at p l i hlx (by rw [HX.out]; exact hp)]
        exact decide_eq_true (by omega)
      · have hpf : p x = false := by simpa using hp
        rw [hpf] at HC2
        go_wp2_with fail
        refine HC2.out.mono ?_
        rintro e w1 ⟨rfl, hb1⟩
        have HF := Lib.hid (HB.out.trans (hb1.mono HB.out.size))
        clear hb1 HC2
        go_wp2_with fail
        go_roundw
        case rel => exact ⟨i + 1, by go_num, by omega, by rw [any_take p l i hlx, HA.out, HX.out, hpf]; rfl, HF.out⟩
        case measure => simp [intOf]; omega
    · have hlt' : ¬ (i : Int) < (n : Int) := by omega
      go_wp2_with fail
      go_ret
      refine ⟨_, rfl, ?_, HB.out⟩
      have h := HA.out
      rw [List.take_of_length_le (by have := HN.out; omega)] at h
      rw [h]; rfl
set_option maxRecDepth 100000 in
theorem hasSg_any (fn : FuncId) (p : Sg → Bool) (he : ∀ args (w : World), (callFunc fn args).run Tryz.prog w = .ok (.enter fn args) w) (h : sgK.sl W v l)
    (hc : ∀ W' cs x, x ∈ l → sgK.tells W' cs x → Calls Tryz.prog fn #[.agg cs.toArray] W' fun e w' => e = .returned (.bool (p x)) ∧ Below W'.heap.size W' w') :
    Calls Tryz.prog 73 #[v, .func (.func fn) #[] #[]] W fun e w' => e = .returned (.bool (l.any p)) ∧ Below W.heap.size W w' := by
  have HI := Lib.hid (idxSg_any fn p he h hc)
  clear h hc
  go_enter Tryz.func73, Tryz.ntmps73
  go_wp2_with fail
  refine HI.out.mono ?_
  rintro e w1 ⟨n, rfl, hn, hb⟩
  have HF := Lib.hid (And.intro hn hb)
  clear hn hb HI
  go_wp2_with fail
  go_ret
  exact ⟨by rw [HF.out.1]; rfl, HF.out.2⟩
end
section
variable {W : World} {v : Value} {l : List Cl}
set_option maxRecDepth 100000 in
theorem idxCl_any (fn : FuncId) (p : Cl → Bool) (he : ∀ args (w : World), (callFunc fn args).run Tryz.prog w = .ok (.enter fn args) w) (h : clK.sl W v l)
    (hc : ∀ W' cs x, x ∈ l → clK.tells W' cs x → Calls Tryz.prog fn #[.agg cs.toArray] W' fun e w' => e = .returned (.bool (p x)) ∧ Below W'.heap.size W' w') :
    Calls Tryz.prog 118 #[v, .func (.func fn) #[] #[]] W fun e w' => ∃ n : Int, e = .returned (.int .i64 n) ∧ decide (0 ≤ n) = l.any p ∧ Below W.heap.size W w' := by
  obtain ⟨A, c, rfl, hlen⟩ := Kind.sl_form h
  have HS := Lib.hid h
  have HC := Lib.hid hc
  obtain ⟨n, hn⟩ : ∃ n, n = l.length := ⟨_, rfl⟩
  have HN := Lib.hid hn
  rw [← hn] at hlen ⊢
  clear h hc hn
  go_enter Tryz.func118, Tryz.ntmps118
  go_wp2
  go_loopw [8] (fun ix wr => ∃ i : Nat, ix = .int .i64 i ∧ i ≤ n ∧ (l.take i).any p = false ∧ Below W.heap.size W wr) (fun ix _ => n - (intOf ix).toNat)
  case atStart => exact ⟨0, rfl, Nat.zero_le _, rfl, Below.refl _ _⟩
  case round =>
    obtain ⟨i, rfl, hi, hany, hb⟩ := hrel
    have HA := Lib.hid hany
    have HB := Lib.hid hb
    clear hany hb
    by_cases hlt : i < n
    · have hlt' : (i : Int) < (n : Int) := by omega
      have hlx : i < l.length := by have := HN.out; omega
      obtain ⟨b, off, c', cs, hv, ht, hat⟩ := Kind.sl_at (Kind.sl_below HS.out HB.out) (by decide) i hlx
      obtain rfl : A = some ⟨b, off, none⟩ := by injection hv
      have HC1 := Lib.hid (HC.out wr cs l[i] (List.getElem_mem hlx) ht)
      generalize hx : l[i] = x at *
      have HX := Lib.hid hx
      obtain ⟨fs, ms, rfl, _⟩ := ht
      have hat : ∀ j u, (#[.string x.name, .string x.super, fs, ms].toList : List Value)[j]? = some u → wr.cell? ⟨b, off + i * 4 + j, none⟩ = some u := hat
      have e0 := hat 0 _ rfl
      have e1 := hat 1 _ rfl
      have e2 := hat 2 _ rfl
      have e3 := hat 3 _ rfl
      rw [Nat.add_zero] at e0
      have HC2 : Hid (Calls Tryz.prog fn #[.agg #[.string x.name, .string x.super, fs, ms]] wr fun e w' => e = .returned (.bool (p x)) ∧ Below wr.heap.size wr w') := HC1
      clear HC1 hx hat hv
      by_cases hp : p x = true
      · rw [hp] at HC2
        go_wp2_with fail
        refine HC2.out.mono ?_
        rintro e w1 ⟨rfl, hb1⟩
        have HF := Lib.hid (HB.out.trans (hb1.mono HB.out.size))
        clear hb1 HC2
        go_wp2_with fail
        go_ret
        refine ⟨_, rfl, ?_, HF.out⟩
        rw [any_at p l i hlx (by rw [HX.out]; exact hp)]
        exact decide_eq_true (by omega)
      · have hpf : p x = false := by simpa using hp
        rw [hpf] at HC2
        go_wp2_with fail
        refine HC2.out.mono ?_
        rintro e w1 ⟨rfl, hb1⟩
        have HF := Lib.hid (HB.out.trans (hb1.mono HB.out.size))
        clear hb1 HC2
        go_wp2_with fail
        go_roundw
        case rel => exact ⟨i + 1, by go_num, by omega, by rw [any_take p l i hlx, HA.out, HX.out, hpf]; rfl, HF.out⟩
        case measure => simp [intOf]; omega
    · have hlt' : ¬ (i : Int) < (n : Int) := by omega
      go_wp2_with fail
      go_ret
      refine ⟨_, rfl, ?_, HB.out⟩
      have h := HA.out
      rw [List.take_of_length_le (by have := HN.out; omega)] at h
      rw [h]; rfl
set_option maxRecDepth 100000 in
theorem hasCl_any (fn : FuncId) (p : Cl → Bool) (he : ∀ args (w : World), (callFunc fn args).run Tryz.prog w = .ok (.enter fn args) w) (h : clK.sl W v l)
    (hc : ∀ W' cs x, x ∈ l → clK.tells W' cs x → Calls Tryz.prog fn #[.agg cs.toArray] W' fun e w' => e = .returned (.bool (p x)) ∧ Below W'.heap.size W' w') :
    Calls Tryz.prog 76 #[v, .func (.func fn) #[] #[]] W fun e w' => e = .returned (.bool (l.any p)) ∧ Below W.heap.size W w' := by
  have HI := Lib.hid (idxCl_any fn p he h hc)
  clear h hc
  go_enter Tryz.func76, Tryz.ntmps76
  go_wp2_with fail
  refine HI.out.mono ?_
  rintro e w1 ⟨n, rfl, hn, hb⟩
  have HF := Lib.hid (And.intro hn hb)
  clear hn hb HI
  go_wp2_with fail
  go_ret
  exact ⟨by rw [HF.out.1]; rfl, HF.out.2⟩
end
section
variable {W : World} {v : Value} {l : List Fu}
set_option maxRecDepth 100000 in
theorem idxFu_any (fn : FuncId) (p : Fu → Bool) (he : ∀ args (w : World), (callFunc fn args).run Tryz.prog w = .ok (.enter fn args) w) (h : fuK.sl W v l)
    (hc : ∀ W' cs x, x ∈ l → fuK.tells W' cs x → Calls Tryz.prog fn #[.agg cs.toArray] W' fun e w' => e = .returned (.bool (p x)) ∧ Below W'.heap.size W' w') :
    Calls Tryz.prog 119 #[v, .func (.func fn) #[] #[]] W fun e w' => ∃ n : Int, e = .returned (.int .i64 n) ∧ decide (0 ≤ n) = l.any p ∧ Below W.heap.size W w' := by
  obtain ⟨A, c, rfl, hlen⟩ := Kind.sl_form h
  have HS := Lib.hid h
  have HC := Lib.hid hc
  obtain ⟨n, hn⟩ : ∃ n, n = l.length := ⟨_, rfl⟩
  have HN := Lib.hid hn
  rw [← hn] at hlen ⊢
  clear h hc hn
  go_enter Tryz.func119, Tryz.ntmps119
  go_wp2
  go_loopw [8] (fun ix wr => ∃ i : Nat, ix = .int .i64 i ∧ i ≤ n ∧ (l.take i).any p = false ∧ Below W.heap.size W wr) (fun ix _ => n - (intOf ix).toNat)
  case atStart => exact ⟨0, rfl, Nat.zero_le _, rfl, Below.refl _ _⟩
  case round =>
    obtain ⟨i, rfl, hi, hany, hb⟩ := hrel
    have HA := Lib.hid hany
    have HB := Lib.hid hb
    clear hany hb
    by_cases hlt : i < n
    · have hlt' : (i : Int) < (n : Int) := by omega
      have hlx : i < l.length := by have := HN.out; omega
      obtain ⟨b, off, c', cs, hv, ht, hat⟩ := Kind.sl_at (Kind.sl_below HS.out HB.out) (by decide) i hlx
      obtain rfl : A = some ⟨b, off, none⟩ := by injection hv
      have HC1 := Lib.hid (HC.out wr cs l[i] (List.getElem_mem hlx) ht)
      generalize hx : l[i] = x at *
      have HX := Lib.hid hx
      obtain ⟨ls, cd, rfl, _⟩ := ht
      have hat : ∀ j u, (#[.string x.cls, .string x.name, ls, cd].toList : List Value)[j]? = some u → wr.cell? ⟨b, off + i * 4 + j, none⟩ = some u := hat
      have e0 := hat 0 _ rfl
      have e1 := hat 1 _ rfl
      have e2 := hat 2 _ rfl
      have e3 := hat 3 _ rfl
      rw [Nat.add_zero] at e0
      have HC2 : Hid (Calls Tryz.prog fn #[.agg #[.string x.cls, .string x.name, ls, cd]] wr fun e w' => e = .returned (.bool (p x)) ∧ Below wr.heap.size wr w') := HC1
      clear HC1 hx hat hv
      by_cases hp : p x = true
      · rw [hp] at HC2
        go_wp2_with fail
        refine HC2.out.mono ?_
        rintro e w1 ⟨rfl, hb1⟩
        have HF := Lib.hid (HB.out.trans (hb1.mono HB.out.size))
        clear hb1 HC2
        go_wp2_with fail
        go_ret
        refine ⟨_, rfl, ?_, HF.out⟩
        rw [any_at p l i hlx (by rw [HX.out]; exact hp)]
        exact decide_eq_true (by omega)
      · have hpf : p x = false := by simpa using hp
        rw [hpf] at HC2
        go_wp2_with fail
        refine HC2.out.mono ?_
        rintro e w1 ⟨rfl, hb1⟩
        have HF := Lib.hid (HB.out.trans (hb1.mono HB.out.size))
        clear hb1 HC2
        go_wp2_with fail
        go_roundw
        case rel => exact ⟨i + 1, by go_num, by omega, by rw [any_take p l i hlx, HA.out, HX.out, hpf]; rfl, HF.out⟩
        case measure => simp [intOf]; omega
    · have hlt' : ¬ (i : Int) < (n : Int) := by omega
      go_wp2_with fail
      go_ret
      refine ⟨_, rfl, ?_, HB.out⟩
      have h := HA.out
      rw [List.take_of_length_le (by have := HN.out; omega)] at h
      rw [h]; rfl
set_option maxRecDepth 100000 in
theorem hasFu_any (fn : FuncId) (p : Fu → Bool) (he : ∀ args (w : World), (callFunc fn args).run Tryz.prog w = .ok (.enter fn args) w) (h : fuK.sl W v l)
    (hc : ∀ W' cs x, x ∈ l → fuK.tells W' cs x → Calls Tryz.prog fn #[.agg cs.toArray] W' fun e w' => e = .returned (.bool (p x)) ∧ Below W'.heap.size W' w') :
    Calls Tryz.prog 77 #[v, .func (.func fn) #[] #[]] W fun e w' => e = .returned (.bool (l.any p)) ∧ Below W.heap.size W w' := by
  have HI := Lib.hid (idxFu_any fn p he h hc)
  clear h hc
  go_enter Tryz.func77, Tryz.ntmps77
  go_wp2_with fail
  refine HI.out.mono ?_
  rintro e w1 ⟨n, rfl, hn, hb⟩
  have HF := Lib.hid (And.intro hn hb)
  clear hn hb HI
  go_wp2_with fail
  go_ret
  exact ⟨by rw [HF.out.1]; rfl, HF.out.2⟩
end
section
variable {W : World} {v : Value} {l : List St}
set_option maxRecDepth 100000 in
theorem idxSt_any (fn : FuncId) (p : St → Bool) (he : ∀ args (w : World), (callFunc fn args).run Tryz.prog w = .ok (.enter fn args) w) (h : stK.sl W v l)
    (hc : ∀ W' cs x, x ∈ l → stK.tells W' cs x → Calls Tryz.prog fn #[.agg cs.toArray] W' fun e w' => e = .returned (.bool (p x)) ∧ Below W'.heap.size W' w') :
    Calls Tryz.prog 120 #[v, .func (.func fn) #[] #[]] W fun e w' => ∃ n : Int, e = .returned (.int .i64 n) ∧ decide (0 ≤ n) = l.any p ∧ Below W.heap.size W w' := by
  obtain ⟨A, c, rfl, hlen⟩ := Kind.sl_form h
  have HS := Lib.hid h
  have HC := Lib.hid hc
  obtain ⟨n, hn⟩ : ∃ n, n = l.length := ⟨_, rfl⟩
  have HN := Lib.hid hn
  rw [← hn] at hlen ⊢
  clear h hc hn
  go_enter Tryz.func120, Tryz.ntmps120
  go_wp2
  go_loopw [8] (fun ix wr => ∃ i : Nat, ix = .int .i64 i ∧ i ≤ n ∧ (l.take i).any p = false ∧ Below W.heap.size W wr) (fun ix _ => n - (intOf ix).toNat)
  case atStart => exact ⟨0, rfl, Nat.zero_le _, rfl, Below.refl _ _⟩
  case round =>
    obtain ⟨i, rfl, hi, hany, hb⟩ := hrel
    have HA := Lib.hid hany
    have HB := Lib.hid hb
    clear hany hb
    by_cases hlt : i < n
    · have hlt' : (i : Int) < (n : Int) := by omega
      have hlx : i < l.length := by have := HN.out; omega
      obtain ⟨b, off, c', cs, hv, ht, hat⟩ := Kind.sl_at (Kind.sl_below HS.out HB.out) (by decide) i hlx
      obtain rfl : A = some ⟨b, off, none⟩ := by injection hv
      have HC1 := Lib.hid (HC.out wr cs l[i] (List.getElem_mem hlx) ht)
      generalize hx : l[i] = x at *
      have HX := Lib.hid hx
      obtain ⟨rfl, _⟩ := ht
      have hat : ∀ j u, (#[.int .i64 x.what, .string x.src, .string x.dst].toList : List Value)[j]? = some u → wr.cell? ⟨b, off + i * 3 + j, none⟩ = some u := hat
      have e0 := hat 0 _ rfl
      have e1 := hat 1 _ rfl
      have e2 := hat 2 _ rfl
      rw [Nat.add_zero] at e0
      have HC2 : Hid (Calls Tryz.prog fn #[.agg #[.int .i64 x.what, .string x.src, .string x.dst]] wr fun e w' => e = .returned (.bool (p x)) ∧ Below wr.heap.size wr w') := HC1
      clear HC1 hx hat hv
      by_cases hp : p x = true
      · rw [hp] at HC2
        go_wp2_with fail
        refine HC2.out.mono ?_
        rintro e w1 ⟨rfl, hb1⟩
        have HF := Lib.hid (HB.out.trans (hb1.mono HB.out.size))
        clear hb1 HC2
        go_wp2_with fail
        go_ret
        refine ⟨_, rfl, ?_, HF.out⟩
        rw [any_at p l i hlx (by rw [HX.out]; exact hp)]
        exact decide_eq_true (by omega)
      · have hpf : p x = false := by simpa using hp
        rw [hpf] at HC2
        go_wp2_with fail
        refine HC2.out.mono ?_
        rintro e w1 ⟨rfl, hb1⟩
        have HF := Lib.hid (HB.out.trans (hb1.mono HB.out.size))
        clear hb1 HC2
        go_wp2_with fail
        go_roundw
        case rel => exact ⟨i + 1, by go_num, by omega, by rw [any_take p l i hlx, HA.out, HX.out, hpf]; rfl, HF.out⟩
        case measure => simp [intOf]; omega
    · have hlt' : ¬ (i : Int) < (n : Int) := by omega
      go_wp2_with fail
      go_ret
      refine ⟨_, rfl, ?_, HB.out⟩
      have h := HA.out
      rw [List.take_of_length_le (by have := HN.out; omega)] at h
      rw [h]; rfl
set_option maxRecDepth 100000 in
theorem hasSt_any (fn : FuncId) (p : St → Bool) (he : ∀ args (w : World), (callFunc fn args).run Tryz.prog w = .ok (.enter fn args) w) (h : stK.sl W v l)
    (hc : ∀ W' cs x, x ∈ l → stK.tells W' cs x → Calls Tryz.prog fn #[.agg cs.toArray] W' fun e w' => e = .returned (.bool (p x)) ∧ Below W'.heap.size W' w') :
    Calls Tryz.prog 78 #[v, .func (.func fn) #[] #[]] W fun e w' => e = .returned (.bool (l.any p)) ∧ Below W.heap.size W w' := by
  have HI := Lib.hid (idxSt_any fn p he h hc)
  clear h hc
  go_enter Tryz.func78, Tryz.ntmps78
  go_wp2_with fail
  refine HI.out.mono ?_
  rintro e w1 ⟨n, rfl, hn, hb⟩
  have HF := Lib.hid (And.intro hn hb)
  clear hn hb HI
  go_wp2_with fail
  go_ret
  exact ⟨by rw [HF.out.1]; rfl, HF.out.2⟩
end
section
variable {W : World} {v : Value} {l : List In}
set_option maxRecDepth 100000 in
theorem idxIn_any (fn : FuncId) (p : In → Bool) (he : ∀ args (w : World), (callFunc fn args).run Tryz.prog w = .ok (.enter fn args) w) (h : inK.sl W v l)
    (hc : ∀ W' cs x, x ∈ l → inK.tells W' cs x → Calls Tryz.prog fn #[.agg cs.toArray] W' fun e w' => e = .returned (.bool (p x)) ∧ Below W'.heap.size W' w') :
    Calls Tryz.prog 121 #[v, .func (.func fn) #[] #[]] W fun e w' => ∃ n : Int, e = .returned (.int .i64 n) ∧ decide (0 ≤ n) = l.any p ∧ Below W.heap.size W w' := by
  obtain ⟨A, c, rfl, hlen⟩ := Kind.sl_form h
  have HS := Lib.hid h
  have HC := Lib.hid hc
  obtain ⟨n, hn⟩ : ∃ n, n = l.length := ⟨_, rfl⟩
  have HN := Lib.hid hn
  rw [← hn] at hlen ⊢
  clear h hc hn
  go_enter Tryz.func121, Tryz.ntmps121
  go_wp2
  go_loopw [8] (fun ix wr => ∃ i : Nat, ix = .int .i64 i ∧ i ≤ n ∧ (l.take i).any p = false ∧ Below W.heap.size W wr) (fun ix _ => n - (intOf ix).toNat)
  case atStart => exact ⟨0, rfl, Nat.zero_le _, rfl, Below.refl _ _⟩
  case round =>
    obtain ⟨i, rfl, hi, hany, hb⟩ := hrel
    have HA := Lib.hid hany
    have HB := Lib.hid hb
    clear hany hb
    by_cases hlt : i < n
    · have hlt' : (i : Int) < (n : Int) := by omega
      have hlx : i < l.length := by have := HN.out; omega
      obtain ⟨b, off, c', cs, hv, ht, hat⟩ := Kind.sl_at (Kind.sl_below HS.out HB.out) (by decide) i hlx
      obtain rfl : A = some ⟨b, off, none⟩ := by injection hv
      have HC1 := Lib.hid (HC.out wr cs l[i] (List.getElem_mem hlx) ht)
      generalize hx : l[i] = x at *
      have HX := Lib.hid hx
      obtain ⟨rfl, _⟩ := ht
      have hat : ∀ j u, (#[.int .i64 x.op, .int .i64 x.a, .int .i64 x.b, .int .i64 x.c].toList : List Value)[j]? = some u → wr.cell? ⟨b, off + i * 4 + j, none⟩ = some u := hat
      have e0 := hat 0 _ rfl
      have e1 := hat 1 _ rfl
      have e2 := hat 2 _ rfl
      have e3 := hat 3 _ rfl
      rw [Nat.add_zero] at e0
      have HC2 : Hid (Calls Tryz.prog fn #[.agg #[.int .i64 x.op, .int .i64 x.a, .int .i64 x.b, .int .i64 x.c]] wr fun e w' => e = .returned (.bool (p x)) ∧ Below wr.heap.size wr w') := HC1
      clear HC1 hx hat hv
      by_cases hp : p x = true
      · rw [hp] at HC2
        go_wp2_with fail
        refine HC2.out.mono ?_
        rintro e w1 ⟨rfl, hb1⟩
        have HF := Lib.hid (HB.out.trans (hb1.mono HB.out.size))
        clear hb1 HC2
        go_wp2_with fail
        go_ret
        refine ⟨_, rfl, ?_, HF.out⟩
        rw [any_at p l i hlx (by rw [HX.out]; exact hp)]
        exact decide_eq_true (by omega)
      · have hpf : p x = false := by simpa using hp
        rw [hpf] at HC2
        go_wp2_with fail
        refine HC2.out.mono ?_
        rintro e w1 ⟨rfl, hb1⟩
        have HF := Lib.hid (HB.out.trans (hb1.mono HB.out.size))
        clear hb1 HC2
        go_wp2_with fail
        go_roundw
        case rel => exact ⟨i + 1, by go_num, by omega, by rw [any_take p l i hlx, HA.out, HX.out, hpf]; rfl, HF.out⟩
        case measure => simp [intOf]; omega
    · have hlt' : ¬ (i : Int) < (n : Int) := by omega
      go_wp2_with fail
      go_ret
      refine ⟨_, rfl, ?_, HB.out⟩
      have h := HA.out
      rw [List.take_of_length_le (by have := HN.out; omega)] at h
      rw [h]; rfl
set_option maxRecDepth 100000 in
theorem hasIn_any (fn : FuncId) (p : In → Bool) (he : ∀ args (w : World), (callFunc fn args).run Tryz.prog w = .ok (.enter fn args) w) (h : inK.sl W v l)
    (hc : ∀ W' cs x, x ∈ l → inK.tells W' cs x → Calls Tryz.prog fn #[.agg cs.toArray] W' fun e w' => e = .returned (.bool (p x)) ∧ Below W'.heap.size W' w') :
    Calls Tryz.prog 81 #[v, .func (.func fn) #[] #[]] W fun e w' => e = .returned (.bool (l.any p)) ∧ Below W.heap.size W w' := by
  have HI := Lib.hid (idxIn_any fn p he h hc)
  clear h hc
  go_enter Tryz.func81, Tryz.ntmps81
  go_wp2_with fail
  refine HI.out.mono ?_
  rintro e w1 ⟨n, rfl, hn, hb⟩
  have HF := Lib.hid (And.intro hn hb)
  clear hn hb HI
  go_wp2_with fail
  go_ret
  exact ⟨by rw [HF.out.1]; rfl, HF.out.2⟩
end
end Go.Proofs.YtcapdmicekialaaGreat
/- many, below: has a module more than it may. -/
namespace Go.Proofs.YtcapdmicekialaaGreat
open Go.RowKit
set_option linter.unusedVariables false
set_option linter.unusedSimpArgs false
def manySg (s : Sg) : Bool := decide (8 < s.params.length)
def manyCl (c : Cl) : Bool := decide (20 < c.fields.length) || decide (20 < c.methods.length) || c.methods.any manySg
def manyFu (f : Fu) : Bool := decide (200 < f.locals.length) || decide (20000 < f.code.length)
def manyM (m : Md) : Bool := decide (40 < m.table.length) || decide (5000 < m.sites.length) || decide (2000 < m.pool.length) || decide (1000 < m.funcs.length) || (m.table.any manyCl || m.funcs.any manyFu)
def belowIn (x : In) : Bool := decide (x.op < 0)
def belowSt (s : St) : Bool := decide (s.what < 0)
def belowFu (f : Fu) : Bool := f.code.any belowIn
def belowM (m : Md) : Bool := m.sites.any belowSt || m.funcs.any belowFu
def RetB (b : Bool) (W : World) (e : Ending) (w' : World) : Prop := e = .returned (.bool b) ∧ Below W.heap.size W w'
set_option maxRecDepth 100000 in
theorem many11_any (W : World) (cs : List Value) (x : Sg) (h : sgK.tells W cs x) : Calls Tryz.prog 74 #[.agg cs.toArray] W (RetB (manySg x) W) := by
  obtain ⟨ps, rfl, h1, h2, h3⟩ := h
  obtain ⟨A, c, rfl, hl⟩ := Kind.sl_form h3
  have HE : Hid (manySg x = decide ((8 : Int) < (x.params.length : Int))) := Lib.hid (by unfold manySg; exact decide_eq_decide.2 (by omega))
  rw [HE.out]
  clear h1 h2 h3
  show Calls Tryz.prog 74 #[.agg #[.string x.name, .slice A x.params.length c, .string x.result]] W _
  go_enter Tryz.func74, Tryz.ntmps74
  go_wp2
  go_ret
  exact ⟨rfl, (Below.refl _ W).alloc (Nat.le_refl _) _⟩
set_option maxRecDepth 100000 in
theorem many1_any (W : World) (cs : List Value) (x : Cl) (h : clK.tells W cs x) : Calls Tryz.prog 72 #[.agg cs.toArray] W (RetB (manyCl x) W) := by
  obtain ⟨fs, ms, rfl, h1, h2, h3, h4⟩ := h
  obtain ⟨A, c, rfl, hl⟩ := Kind.sl_form h3
  obtain ⟨B, d, rfl, hl2⟩ := Kind.sl_form h4
  have hb := (Below.refl W.heap.size W).alloc (Nat.le_refl _) (.cells #[.string x.name, .string x.super, .slice A x.fields.length c, .slice B x.methods.length d] 66)
  have HB := Lib.hid hb
  show Calls Tryz.prog 72 #[.agg #[.string x.name, .string x.super, .slice A x.fields.length c, .slice B x.methods.length d]] W _
  by_cases g1 : (20 : Int) < (x.fields.length : Int)
  · have HE : Hid (manyCl x = true) := Lib.hid (by unfold manyCl; rw [decide_eq_true (show 20 < x.fields.length by omega)]; rfl)
    rw [HE.out]
    clear h1 h2 h3 h4 hb HB
    go_enter Tryz.func72, Tryz.ntmps72
    go_wp2
    go_ret
    exact ⟨rfl, (Below.refl _ W).alloc (Nat.le_refl _) _⟩
  · by_cases g2 : (20 : Int) < (x.methods.length : Int)
    · have HE : Hid (manyCl x = true) := Lib.hid (by unfold manyCl; rw [decide_eq_true (show 20 < x.methods.length by omega), Bool.or_true]; rfl)
      rw [HE.out]
      clear h1 h2 h3 h4 hb HB
      go_enter Tryz.func72, Tryz.ntmps72
      go_wp2
      go_ret
      exact ⟨rfl, (Below.refl _ W).alloc (Nat.le_refl _) _⟩
    · have HE : Hid (manyCl x = x.methods.any manySg) := Lib.hid (by unfold manyCl; rw [decide_eq_false (show ¬ 20 < x.fields.length by omega), decide_eq_false (show ¬ 20 < x.methods.length by omega)]; rfl)
      rw [HE.out]
      have HC := Lib.hid (hasSg_any 74 manySg (fun _ _ => rfl) (Kind.sl_below h4 hb) (fun W' cs y _ hy => many11_any W' cs y hy))
      clear h1 h2 h3 h4 hb
      go_enter Tryz.func72, Tryz.ntmps72
      go_wp2_with fail
      refine HC.out.mono ?_
      rintro e w1 ⟨rfl, hb1⟩
      have HF := Lib.hid (HB.out.trans (hb1.mono HB.out.size))
      clear hb1 HC HB
      go_wp2_with fail
      go_ret
      exact ⟨rfl, HF.out⟩
set_option maxRecDepth 100000 in
theorem many2_any (W : World) (cs : List Value) (x : Fu) (h : fuK.tells W cs x) : Calls Tryz.prog 75 #[.agg cs.toArray] W (RetB (manyFu x) W) := by
  obtain ⟨fs, ms, rfl, h1, h2, h3, h4⟩ := h
  obtain ⟨A, c, rfl, hl⟩ := Kind.sl_form h3
  obtain ⟨B, d, rfl, hl2⟩ := Kind.sl_form h4
  show Calls Tryz.prog 75 #[.agg #[.string x.cls, .string x.name, .slice A x.locals.length c, .slice B x.code.length d]] W _
  by_cases g1 : (200 : Int) < (x.locals.length : Int)
  · have HE : Hid (manyFu x = true) := Lib.hid (by unfold manyFu; rw [decide_eq_true (show 200 < x.locals.length by omega)]; rfl)
    rw [HE.out]
    clear h1 h2 h3 h4
    go_enter Tryz.func75, Tryz.ntmps75
    go_wp2
    go_ret
    exact ⟨rfl, (Below.refl _ W).alloc (Nat.le_refl _) _⟩
  · have HE : Hid (manyFu x = decide ((20000 : Int) < (x.code.length : Int))) := Lib.hid (by unfold manyFu; rw [decide_eq_false (show ¬ 200 < x.locals.length by omega), Bool.false_or]; exact decide_eq_decide.2 (by omega))
    rw [HE.out]
    clear h1 h2 h3 h4
    go_enter Tryz.func75, Tryz.ntmps75
    go_wp2
    go_ret
    exact ⟨rfl, (Below.refl _ W).alloc (Nat.le_refl _) _⟩
set_option maxRecDepth 100000 in
theorem below21_any (W : World) (cs : List Value) (x : In) (h : inK.tells W cs x) : Calls Tryz.prog 82 #[.agg cs.toArray] W (RetB (belowIn x) W) := by
  obtain ⟨rfl, h1⟩ := h
  unfold belowIn
  show Calls Tryz.prog 82 #[.agg #[.int .i64 x.op, .int .i64 x.a, .int .i64 x.b, .int .i64 x.c]] W _
  go_enter Tryz.func82, Tryz.ntmps82
  go_wp2
  go_ret
  exact ⟨rfl, (Below.refl _ W).alloc (Nat.le_refl _) _⟩
set_option maxRecDepth 100000 in
theorem below1_any (W : World) (cs : List Value) (x : St) (h : stK.tells W cs x) : Calls Tryz.prog 79 #[.agg cs.toArray] W (RetB (belowSt x) W) := by
  obtain ⟨rfl, h1⟩ := h
  unfold belowSt
  show Calls Tryz.prog 79 #[.agg #[.int .i64 x.what, .string x.src, .string x.dst]] W _
  go_enter Tryz.func79, Tryz.ntmps79
  go_wp2
  go_ret
  exact ⟨rfl, (Below.refl _ W).alloc (Nat.le_refl _) _⟩
set_option maxRecDepth 100000 in
theorem below2_any (W : World) (cs : List Value) (x : Fu) (h : fuK.tells W cs x) : Calls Tryz.prog 80 #[.agg cs.toArray] W (RetB (belowFu x) W) := by
  obtain ⟨fs, ms, rfl, h1, h2, h3, h4⟩ := h
  have hb := (Below.refl W.heap.size W).alloc (Nat.le_refl _) (.cells #[.string x.cls, .string x.name, fs, ms] 48)
  have HB := Lib.hid hb
  have HC := Lib.hid (hasIn_any 82 belowIn (fun _ _ => rfl) (Kind.sl_below h4 hb) (fun W' cs y _ hy => below21_any W' cs y hy))
  clear h1 h2 h3 h4 hb
  show Calls Tryz.prog 80 #[.agg #[.string x.cls, .string x.name, fs, ms]] W (RetB (x.code.any belowIn) W)
  go_enter Tryz.func80, Tryz.ntmps80
  go_wp2_with fail
  refine HC.out.mono ?_
  rintro e w1 ⟨rfl, hb1⟩
  have HF := Lib.hid (HB.out.trans (hb1.mono HB.out.size))
  clear hb1 HC HB
  go_wp2_with fail
  go_ret
  exact ⟨rfl, HF.out⟩
set_option maxRecDepth 100000 in
theorem below_any (W : World) (cs : List Value) (x : Md) (h : mdK.tells W cs x) : Calls Tryz.prog 25 #[.agg cs.toArray] W (RetB (belowM x) W) := by
  obtain ⟨t, s, p, f, rfl, h1, h2, h3, h4⟩ := h
  have hb := (Below.refl W.heap.size W).alloc (Nat.le_refl _) (.cells #[t, s, p, f] 27)
  have HB := Lib.hid hb
  have HC := Lib.hid (hasSt_any 79 belowSt (fun _ _ => rfl) (Kind.sl_below h2 hb) (fun W' cs y _ hy => below1_any W' cs y hy))
  have H4 := Lib.hid (Kind.sl_below h4 hb)
  clear h1 h2 h3 h4 hb
  show Calls Tryz.prog 25 #[.agg #[t, s, p, f]] W _
  by_cases g : x.sites.any belowSt = true
  · have HE : Hid (belowM x = true) := Lib.hid (by unfold belowM; rw [g]; rfl)
    rw [HE.out]
    rw [g] at HC
    clear g
    go_enter Tryz.func25, Tryz.ntmps25
    go_wp2_with fail
    refine HC.out.mono ?_
    rintro e w1 ⟨rfl, hb1⟩
    have HF := Lib.hid (HB.out.trans (hb1.mono HB.out.size))
    clear hb1 HC HB
    go_wp2_with fail
    go_ret
    exact ⟨rfl, HF.out⟩
  · have gf : x.sites.any belowSt = false := by simpa using g
    have HE : Hid (belowM x = x.funcs.any belowFu) := Lib.hid (by unfold belowM; rw [gf]; rfl)
    rw [HE.out]
    rw [gf] at HC
    clear g gf
    go_enter Tryz.func25, Tryz.ntmps25
    go_wp2_with fail
    refine HC.out.mono ?_
    rintro e w1 ⟨rfl, hb1⟩
    have HC2 := Lib.hid (hasFu_any 80 belowFu (fun _ _ => rfl) (Kind.sl_below H4.out hb1) (fun W' cs y _ hy => below2_any W' cs y hy))
    have HF := Lib.hid (HB.out.trans (hb1.mono HB.out.size))
    have e3 := cell_below ((Blk.new W 27 #[t, s, p, f]).cell 3) hb1
    clear hb1 HC HB H4
    go_wp2_with fail
    refine HC2.out.mono ?_
    rintro e w2 ⟨rfl, hb1⟩
    have HF2 := Lib.hid (HF.out.trans (hb1.mono HF.out.size))
    clear hb1 HC2 HF
    go_wp2_with fail
    go_ret
    exact ⟨rfl, HF2.out⟩
set_option maxRecDepth 100000 in
theorem many_any (W : World) (cs : List Value) (x : Md) (h : mdK.tells W cs x) : Calls Tryz.prog 24 #[.agg cs.toArray] W (RetB (manyM x) W) := by
  obtain ⟨t, s, p, f, rfl, h1, h2, h3, h4⟩ := h
  have hb := (Below.refl W.heap.size W).alloc (Nat.le_refl _) (.cells #[t, s, p, f] 27)
  obtain ⟨At, ct, ht, hlt⟩ := Kind.sl_form h1
  obtain ⟨As, c2, hs, hls⟩ := Kind.sl_form h2
  obtain ⟨Ap, cp, hp, hlp⟩ := Kind.sl_form h3
  obtain ⟨Af, cf, hf, hlf⟩ := Kind.sl_form h4
  subst ht hs hp hf
  have HB := Lib.hid hb
  have HC := Lib.hid (hasCl_any 72 manyCl (fun _ _ => rfl) (Kind.sl_below h1 hb) (fun W' cs y _ hy => many1_any W' cs y hy))
  have H4 := Lib.hid (Kind.sl_below h4 hb)
  clear h1 h2 h3 h4 hb
  show Calls Tryz.prog 24 #[.agg #[.slice At x.table.length ct, .slice As x.sites.length c2, .slice Ap x.pool.length cp, .slice Af x.funcs.length cf]] W _
  by_cases g1 : (40 : Int) < (x.table.length : Int)
  · have HE : Hid (manyM x = true) := Lib.hid (by unfold manyM; rw [decide_eq_true (show 40 < x.table.length by omega)]; simp)
    rw [HE.out]
    clear HC H4
    go_enter Tryz.func24, Tryz.ntmps24
    go_wp2
    go_ret
    exact ⟨rfl, HB.out⟩
  by_cases g2 : (5000 : Int) < (x.sites.length : Int)
  · have HE : Hid (manyM x = true) := Lib.hid (by unfold manyM; rw [decide_eq_true (show 5000 < x.sites.length by omega)]; simp)
    rw [HE.out]
    clear HC H4
    go_enter Tryz.func24, Tryz.ntmps24
    go_wp2
    go_ret
    exact ⟨rfl, HB.out⟩
  by_cases g3 : (2000 : Int) < (x.pool.length : Int)
  · have HE : Hid (manyM x = true) := Lib.hid (by unfold manyM; rw [decide_eq_true (show 2000 < x.pool.length by omega)]; simp)
    rw [HE.out]
    clear HC H4
    go_enter Tryz.func24, Tryz.ntmps24
    go_wp2
    go_ret
    exact ⟨rfl, HB.out⟩
  by_cases g4 : (1000 : Int) < (x.funcs.length : Int)
  · have HE : Hid (manyM x = true) := Lib.hid (by unfold manyM; rw [decide_eq_true (show 1000 < x.funcs.length by omega)]; simp)
    rw [HE.out]
    clear HC H4
    go_enter Tryz.func24, Tryz.ntmps24
    go_wp2
    go_ret
    exact ⟨rfl, HB.out⟩
  have HE0 : Hid (manyM x = (x.table.any manyCl || x.funcs.any manyFu)) := Lib.hid (by unfold manyM; rw [decide_eq_false (show ¬ 40 < x.table.length by omega), decide_eq_false (show ¬ 5000 < x.sites.length by omega), decide_eq_false (show ¬ 2000 < x.pool.length by omega), decide_eq_false (show ¬ 1000 < x.funcs.length by omega)]; rfl)
  rw [HE0.out]
  by_cases g : x.table.any manyCl = true
  · rw [g, Bool.true_or]
    rw [g] at HC
    clear g
    go_enter Tryz.func24, Tryz.ntmps24
    go_wp2_with fail
    refine HC.out.mono ?_
    rintro e w1 ⟨rfl, hb1⟩
    have HF := Lib.hid (HB.out.trans (hb1.mono HB.out.size))
    clear hb1 HC HB
    go_wp2_with fail
    go_ret
    exact ⟨rfl, HF.out⟩
  · have gf : x.table.any manyCl = false := by simpa using g
    rw [gf, Bool.false_or]
    rw [gf] at HC
    clear g gf
    go_enter Tryz.func24, Tryz.ntmps24
    go_wp2_with fail
    refine HC.out.mono ?_
    rintro e w1 ⟨rfl, hb1⟩
    have HC2 := Lib.hid (hasFu_any 75 manyFu (fun _ _ => rfl) (Kind.sl_below H4.out hb1) (fun W' cs y _ hy => many2_any W' cs y hy))
    have HF := Lib.hid (HB.out.trans (hb1.mono HB.out.size))
    have e3 := cell_below ((Blk.new W 27 #[.slice At x.table.length ct, .slice As x.sites.length c2, .slice Ap x.pool.length cp, .slice Af x.funcs.length cf]).cell 3) hb1
    clear hb1 HC HB H4
    go_wp2_with fail
    refine HC2.out.mono ?_
    rintro e w2 ⟨rfl, hb1⟩
    have HF2 := Lib.hid (HF.out.trans (hb1.mono HF.out.size))
    clear hb1 HC2 HF
    go_wp2_with fail
    go_ret
    exact ⟨rfl, HF2.out⟩
end Go.Proofs.YtcapdmicekialaaGreat
/- chaperonkit.LongModule and what it stands on: each tells something, and changes nothing. (What it tells matters to no statement of this seat.) -/
namespace Go.Proofs.YtcapdmicekialaaGreat
open Go.RowKit
set_option linter.unusedVariables false
set_option linter.unusedSimpArgs false
attribute [local go_sem] Oper.semAt_some run_store_func run_store_nilFunc
def RetAny (W : World) (e : Ending) (w' : World) : Prop := (∃ b : Bool, e = .returned (.bool b)) ∧ Below W.heap.size W w'
set_option maxRecDepth 100000 in
theorem lvars_any {W : World} {v : Value} {l : List Vr} (hA : vrK.sl W v l) : Calls Tryz.prog 70 #[v] W (RetAny W) := by
  obtain ⟨A, c, rfl, hll⟩ := Kind.sl_form hA
  have HA := Lib.hid hA
  obtain ⟨n, hn⟩ : ∃ n, n = l.length := ⟨_, rfl⟩
  have HN := Lib.hid hn
  rw [← hn] at hll ⊢
  clear hA hn
  go_enter Tryz.func70, Tryz.ntmps70
  go_wp2
  go_loopw [3] (fun ix wr => ∃ (i : Nat), ix = .int .i64 i ∧ i ≤ n ∧ Below W.heap.size W wr) (fun ix _ => n - (intOf ix).toNat)
  case atStart => exact ⟨0, rfl, Nat.zero_le _, Below.refl _ _⟩
  case round =>
    obtain ⟨i, rfl, hi, hb⟩ := hrel
    have HB := Lib.hid hb
    clear hb
    by_cases hlt : i < n
    · have hlt' : (i : Int) < (n : Int) := by omega
      have hl1 : i < l.length := by have := HN.out; omega
      obtain ⟨b1, o1, c1, cs1, hv1, ht1, hat1⟩ := Kind.sl_at (Kind.sl_below HA.out HB.out) (by decide) i hl1
      obtain rfl : A = some ⟨b1, o1, none⟩ := by injection hv1
      generalize l[i] = x at *
      obtain ⟨rfl, _⟩ := ht1
      have p0 := hat1 0 _ rfl
      have p1 := hat1 1 _ rfl
      rw [show vrK.size = 2 from rfl] at p0 p1
      rw [Nat.add_zero] at p0
      clear hat1 hv1
      by_cases g1 : (30 : Int) < (x.1.size : Int)
      · go_wp2
        go_ret
        exact ⟨⟨_, rfl⟩, HB.out⟩
      · by_cases g2 : (30 : Int) < (x.2.size : Int)
        · go_wp2
          go_ret
          exact ⟨⟨_, rfl⟩, HB.out⟩
        · go_wp2
          go_roundw
          case rel => exact ⟨i + 1, by go_num, by omega, HB.out⟩
          case measure => simp [intOf]; omega
    · have hlt' : ¬ (i : Int) < (n : Int) := by omega
      go_wp2
      go_ret
      exact ⟨⟨_, rfl⟩, HB.out⟩
set_option maxRecDepth 100000 in
set_option maxHeartbeats 6400000 in
theorem ltab_any {W : World} {v : Value} {l : List Cl} (hA : clK.sl W v l) : Calls Tryz.prog 18 #[v] W (RetAny W) := by
  obtain ⟨A, c, rfl, hll⟩ := Kind.sl_form hA
  have HA := Lib.hid hA
  obtain ⟨n, hn⟩ : ∃ n, n = l.length := ⟨_, rfl⟩
  have HN := Lib.hid hn
  rw [← hn] at hll ⊢
  clear hA hn
  go_enter Tryz.func18, Tryz.ntmps18
  go_wp2
  go_loopw [3] (fun ix wr => ∃ (i : Nat), ix = .int .i64 i ∧ i ≤ n ∧ Below W.heap.size W wr) (fun ix _ => n - (intOf ix).toNat)
  case atStart => exact ⟨0, rfl, Nat.zero_le _, Below.refl _ _⟩
  case round =>
    obtain ⟨i, rfl, hi, hb⟩ := hrel
    have HB := Lib.hid hb
    clear hb
    by_cases hlt : i < n
    · have hlt' : (i : Int) < (n : Int) := by omega
      by_cases h10 : i < 10
      · have h10' : (i : Int) < 10 := by omega
        have hl1 : i < l.length := by have := HN.out; omega
        obtain ⟨b1, o1, c1, cs1, hv1, ht1, hat1⟩ := Kind.sl_at (Kind.sl_below HA.out HB.out) (by decide) i hl1
        obtain rfl : A = some ⟨b1, o1, none⟩ := by injection hv1
        generalize l[i] = x at *
        obtain ⟨fs, ms, rfl, _, _, f1, f3⟩ := ht1
        obtain ⟨A5, c5, rfl, _⟩ := Kind.sl_form f1
        obtain ⟨A7, c7, rfl, hlm⟩ := Kind.sl_form f3
        have p0 := hat1 0 _ rfl
        have p1 := hat1 1 _ rfl
        have p2 := hat1 2 _ rfl
        have p3 := hat1 3 _ rfl
        rw [show clK.size = 4 from rfl] at p0 p1 p2 p3
        rw [Nat.add_zero] at p0
        have hbA := (Below.refl wr.heap.size wr).alloc (Nat.le_refl _) (.cells #[.string x.name, .string x.super, .slice A5 x.fields.length c5, .slice A7 x.methods.length c7] 66)
        have HBA := Lib.hid (HB.out.trans (hbA.mono HB.out.size))
        have HV := Lib.hid (lvars_any (Kind.sl_below f1 hbA))
        have HM := Lib.hid (Kind.sl_below f3 hbA)
        have HK : Hid (∀ w', Below (wr.alloc (.cells #[.string x.name, .string x.super, .slice A5 x.fields.length c5, .slice A7 x.methods.length c7] 66)).heap.size (wr.alloc (.cells #[.string x.name, .string x.super, .slice A5 x.fields.length c5, .slice A7 x.methods.length c7] 66)) w' → w'.cell? ⟨wr.heap.size, 3, none⟩ = some (.slice A7 x.methods.length c7)) := Lib.hid fun w' h => cell_below ((Blk.new wr 66 #[.string x.name, .string x.super, .slice A5 x.fields.length c5, .slice A7 x.methods.length c7]).cell 3) h
        clear hat1 hv1 f1 f3 hbA
        by_cases g1 : (30 : Int) < (x.name.size : Int)
        · clear HV
          go_wp2
          go_ret
          exact ⟨⟨_, rfl⟩, HBA.out⟩
        by_cases g2 : (30 : Int) < (x.super.size : Int)
        · clear HV
          go_wp2
          go_ret
          exact ⟨⟨_, rfl⟩, HBA.out⟩
        by_cases g3 : (7 : Int) < (x.fields.length : Int)
        · clear HV
          go_wp2
          go_ret
          exact ⟨⟨_, rfl⟩, HBA.out⟩
        by_cases g4 : (7 : Int) < (x.methods.length : Int)
        · clear HV
          go_wp2
          go_ret
          exact ⟨⟨_, rfl⟩, HBA.out⟩
        go_wp2_with fail
        refine HV.out.mono ?_
        rintro e w1 ⟨⟨b, rfl⟩, hb1⟩
        have HB1 := Lib.hid (HBA.out.trans (hb1.mono HBA.out.size))
        have HB2 := Lib.hid hb1
        have k3 := HK.out w1 hb1
        clear HV hb1 p0 p1 p2 p3
        cases b with
        | true =>
          go_wp2
          go_ret
          exact ⟨⟨_, rfl⟩, HB1.out⟩
        | false =>
          obtain ⟨q, hq⟩ : ∃ q, q = x.methods.length := ⟨_, rfl⟩
          have HQ := Lib.hid hq
          rw [← hq] at k3 hlm g4
          clear hq
          obtain ⟨wo, hwo⟩ : ∃ wo, wo = wr := ⟨_, rfl⟩
          subst hwo
          go_wp2_with fail
          go_loopw [5] (fun kx wk => ∃ (k : Nat), kx = .int .i64 k ∧ k ≤ q ∧ Below w1.heap.size w1 wk) (fun kx _ => q - (intOf kx).toNat)
          case atStart => exact ⟨0, rfl, Nat.zero_le _, Below.refl _ _⟩
          case round =>
            obtain ⟨k, rfl, hk, hbk⟩ := hrel
            have HW1 := Lib.hid (HB2.out.trans (hbk.mono HB2.out.size))
            have HWk := Lib.hid (HB1.out.trans (hbk.mono HB1.out.size))
            have HRk := Lib.hid hbk
            have k3 := HK.out wr HW1.out
            rw [← HQ.out] at k3
            clear hbk
            by_cases hlk : k < q
            · have hlk' : (k : Int) < (q : Int) := by omega
              have hl2 : k < x.methods.length := by have := HQ.out; omega
              obtain ⟨b2, o2, c2, cs2, hv2, ht2, hat2⟩ := Kind.sl_at (Kind.sl_below HM.out HW1.out) (by decide) k hl2
              obtain rfl : A7 = some ⟨b2, o2, none⟩ := by injection hv2
              generalize x.methods[k] = y at *
              obtain ⟨ps, rfl, _, _, f5⟩ := ht2
              obtain ⟨A8, c8, rfl, _⟩ := Kind.sl_form f5
              have q0 := hat2 0 _ rfl
              have q1 := hat2 1 _ rfl
              have q2 := hat2 2 _ rfl
              rw [show sgK.size = 3 from rfl] at q0 q1 q2
              rw [Nat.add_zero] at q0
              have hbS := (Below.refl wr.heap.size wr).alloc (Nat.le_refl _) (.cells #[.string y.name, .slice A8 y.params.length c8, .string y.result] 120)
              have HBS := Lib.hid (HWk.out.trans (hbS.mono HWk.out.size))
              have HRS := Lib.hid (HRk.out.trans (hbS.mono HRk.out.size))
              have HV := Lib.hid (lvars_any (Kind.sl_below f5 hbS))
              clear hat2 hv2 f5 hbS
              by_cases j1 : (30 : Int) < (y.name.size : Int)
              · clear HV
                go_wp2
                go_ret
                exact ⟨⟨_, rfl⟩, HBS.out⟩
              by_cases j2 : (30 : Int) < (y.result.size : Int)
              · clear HV
                go_wp2
                go_ret
                exact ⟨⟨_, rfl⟩, HBS.out⟩
              by_cases j3 : (10 : Int) < (y.params.length : Int)
              · clear HV
                go_wp2
                go_ret
                exact ⟨⟨_, rfl⟩, HBS.out⟩
              go_wp2_with fail
              refine HV.out.mono ?_
              rintro e w2 ⟨⟨b, rfl⟩, hb2⟩
              have HF := Lib.hid (HRS.out.trans (hb2.mono HRS.out.size))
              have HFW := Lib.hid (HBS.out.trans (hb2.mono HBS.out.size))
              clear HV hb2 q0 q1 q2
              cases b with
              | true =>
                go_wp2
                go_ret
                exact ⟨⟨_, rfl⟩, HFW.out⟩
              | false =>
                go_wp2
                go_roundw
                case rel => exact ⟨k + 1, by go_num, by omega, HF.out⟩
                case measure => simp [intOf]; omega
            · have hlk' : ¬ (k : Int) < (q : Int) := by omega
              go_wp2
              go_roundw
              case rel => exact ⟨i + 1, by go_num, by omega, HWk.out⟩
              case measure => simp [intOf]; omega
      · have h10' : ¬ (i : Int) < 10 := by omega
        go_wp2
        go_ret
        exact ⟨⟨_, rfl⟩, HB.out⟩
    · have hlt' : ¬ (i : Int) < (n : Int) := by omega
      go_wp2
      go_ret
      exact ⟨⟨_, rfl⟩, HB.out⟩
set_option maxRecDepth 100000 in
set_option maxHeartbeats 6400000 in
theorem lmod_any {W : World} {cs : List Value} {m : Md} (h : mdK.tells W cs m) : Calls Tryz.prog 5 #[.agg cs.toArray] W (RetAny W) := by
  obtain ⟨t, s, q, f, rfl, h1, h2, h3, h4⟩ := h
  obtain ⟨At_, ct, ht, hlt⟩ := Kind.sl_form h1
  obtain ⟨As, c2, hs, hls⟩ := Kind.sl_form h2
  obtain ⟨Ap, cp, hp, hlp⟩ := Kind.sl_form h3
  obtain ⟨Af, cf, hf, hlf⟩ := Kind.sl_form h4
  subst ht hs hp hf
  have hb := (Below.refl W.heap.size W).alloc (Nat.le_refl _) (.cells #[.slice At_ m.table.length ct, .slice As m.sites.length c2, .slice Ap m.pool.length cp, .slice Af m.funcs.length cf] 27)
  have HB := Lib.hid hb
  have HT := Lib.hid (ltab_any (Kind.sl_below h1 hb))
  have HP := Lib.hid (And.intro h3 h4)
  have HK : Hid (∀ w', Below (W.alloc (.cells #[.slice At_ m.table.length ct, .slice As m.sites.length c2, .slice Ap m.pool.length cp, .slice Af m.funcs.length cf] 27)).heap.size (W.alloc (.cells #[.slice At_ m.table.length ct, .slice As m.sites.length c2, .slice Ap m.pool.length cp, .slice Af m.funcs.length cf] 27)) w' → w'.cell? ⟨W.heap.size, 1, none⟩ = some (.slice As m.sites.length c2) ∧ w'.cell? ⟨W.heap.size, 2, none⟩ = some (.slice Ap m.pool.length cp) ∧ w'.cell? ⟨W.heap.size, 3, none⟩ = some (.slice Af m.funcs.length cf)) := Lib.hid fun w' h =>
    ⟨cell_below ((Blk.new W 27 #[.slice At_ m.table.length ct, .slice As m.sites.length c2, .slice Ap m.pool.length cp, .slice Af m.funcs.length cf]).cell 1) h, cell_below ((Blk.new W 27 #[.slice At_ m.table.length ct, .slice As m.sites.length c2, .slice Ap m.pool.length cp, .slice Af m.funcs.length cf]).cell 2) h, cell_below ((Blk.new W 27 #[.slice At_ m.table.length ct, .slice As m.sites.length c2, .slice Ap m.pool.length cp, .slice Af m.funcs.length cf]).cell 3) h⟩
  clear h1 h2 h3 h4 hb hlt hls
  show Calls Tryz.prog 5 #[.agg #[.slice At_ m.table.length ct, .slice As m.sites.length c2, .slice Ap m.pool.length cp, .slice Af m.funcs.length cf]] W _
  go_enter Tryz.func5, Tryz.ntmps5
  go_wp2_with fail
  refine HT.out.mono ?_
  rintro e w1 ⟨⟨b, rfl⟩, hb1⟩
  obtain ⟨k1, k2, k3⟩ := HK.out _ hb1
  have HW1 := Lib.hid (HB.out.trans (hb1.mono HB.out.size))
  have HA1 := Lib.hid hb1
  clear HT hb1
  cases b with
  | true =>
    go_wp2
    go_ret
    exact ⟨⟨_, rfl⟩, HW1.out⟩
  | false =>
    by_cases g1 : (200 : Int) < (m.sites.length : Int)
    · go_wp2
      go_ret
      exact ⟨⟨_, rfl⟩, HW1.out⟩
    by_cases g2 : (120 : Int) < (m.pool.length : Int)
    · go_wp2
      go_ret
      exact ⟨⟨_, rfl⟩, HW1.out⟩
    by_cases g3 : (40 : Int) < (m.funcs.length : Int)
    · go_wp2
      go_ret
      exact ⟨⟨_, rfl⟩, HW1.out⟩
    go_wp2_with fail
    clear k1 k2 k3
    go_loopw [3, 5] (fun nx ix wr => ∃ (z : Int) (i : Nat), nx = .int .i64 z ∧ ix = .int .i64 i ∧ i ≤ m.pool.length ∧ wr = w1) (fun _ ix _ => m.pool.length - (intOf ix).toNat)
    case atStart => exact ⟨0, 0, rfl, rfl, Nat.zero_le _, rfl⟩
    case round =>
      obtain ⟨z, i, rfl, rfl, hi, rfl⟩ := hrel
      obtain ⟨k1, k2, k3⟩ := HK.out _ HA1.out
      by_cases hlt : i < m.pool.length
      · have hlt' : (i : Int) < (m.pool.length : Int) := by omega
        obtain ⟨b1, o1, c1, cs1, hv1, ht1, hat1⟩ := Kind.sl_at (Kind.sl_below HP.out.1 HW1.out) (by decide) i hlt
        obtain rfl : Ap = some ⟨b1, o1, none⟩ := by injection hv1
        obtain ⟨rfl, _⟩ := ht1
        have p0 := hat1 0 _ rfl
        rw [show txK.size = 1 from rfl, Nat.mul_one, Nat.add_zero] at p0
        clear hat1 hv1
        generalize m.pool[i] = x at *
        by_cases j1 : (1100 : Int) < (x.size : Int)
        · go_wp2
          go_ret
          exact ⟨⟨_, rfl⟩, HW1.out⟩
        · go_wp2
          go_roundw
          case rel => exact ⟨_, i + 1, rfl, by go_num, by omega, by first | rfl | trivial⟩
          case measure => simp [intOf]; omega
      · have hlt' : ¬ (i : Int) < (m.pool.length : Int) := by omega
        go_wp2_with fail
        clear k1 k2 k3
        obtain ⟨wo, hwo⟩ : ∃ wo, wo = wr := ⟨_, rfl⟩
        subst hwo
        go_loopw [4, 6] (fun nx ix wr2 => ∃ (y : Int) (j : Nat), nx = .int .i64 y ∧ ix = .int .i64 j ∧ j ≤ m.funcs.length ∧ Below wo.heap.size wo wr2) (fun _ ix _ => m.funcs.length - (intOf ix).toNat)
        case atStart => exact ⟨0, 0, rfl, rfl, Nat.zero_le _, Below.refl _ _⟩
        case round =>
          obtain ⟨y, j, rfl, rfl, hj, hbj⟩ := hrel
          have HW2 := Lib.hid (HW1.out.trans (hbj.mono HW1.out.size))
          have HR2 := Lib.hid hbj
          obtain ⟨k1, k2, k3⟩ := HK.out _ (HA1.out.trans (hbj.mono HA1.out.size))
          clear hbj
          by_cases hlj : j < m.funcs.length
          · have hlj' : (j : Int) < (m.funcs.length : Int) := by omega
            obtain ⟨b1, o1, c1, cs1, hv1, ht1, hat1⟩ := Kind.sl_at (Kind.sl_below HP.out.2 HW2.out) (by decide) j hlj
            obtain rfl : Af = some ⟨b1, o1, none⟩ := by injection hv1
            generalize m.funcs[j] = x at *
            obtain ⟨ls, cd, rfl, _, _, f1, f3⟩ := ht1
            obtain ⟨A5, c5, rfl, _⟩ := Kind.sl_form f1
            obtain ⟨A7, c7, rfl, hlm⟩ := Kind.sl_form f3
            have p2 := hat1 2 _ rfl
            have p3 := hat1 3 _ rfl
            rw [show fuK.size = 4 from rfl] at p2 p3
            clear hat1 hv1 f1 f3
            by_cases j1 : (60 : Int) < (x.locals.length : Int)
            · go_wp2
              go_ret
              exact ⟨⟨_, rfl⟩, HW2.out⟩
            by_cases j2 : (1500 : Int) < wrap64 (y + (x.code.length : Int))
            · skip
              go_wp2
              go_ret
              exact ⟨⟨_, rfl⟩, HW2.out⟩
            · skip
              go_wp2
              go_roundw
              case rel => exact ⟨_, j + 1, rfl, by go_num, by omega, HR2.out⟩
              case measure => simp [intOf]; omega
          · have hlj' : ¬ (j : Int) < (m.funcs.length : Int) := by omega
            go_wp2
            go_ret
            exact ⟨⟨_, rfl⟩, HW2.out⟩
end Go.Proofs.YtcapdmicekialaaGreat
