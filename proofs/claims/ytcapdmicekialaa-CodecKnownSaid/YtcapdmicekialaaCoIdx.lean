/- slices.IndexFunc, slices.ContainsFunc at five types. Printed by gen_idx.py. -/
import Derived.Test.YtcapdmicekialaaCoTypes
import Derived.Test.YtcapdmicekialaaProg
import Derived.IntWalk
import Derived.WalkKit
namespace Go.Proofs.Ytcapdmicekialaa
open Go.RowKit
set_option linter.unusedVariables false
set_option linter.unusedSimpArgs false
theorem any_take {α : Type} (p : α → Bool) (l : List α) (i : Nat) (hi : i < l.length) : (l.take (i + 1)).any p = ((l.take i).any p || p l[i]) := by
  rw [List.take_succ_eq_append_getElem hi, List.any_append]; simp
theorem any_at {α : Type} (p : α → Bool) (l : List α) (i : Nat) (hi : i < l.length) (h : p l[i] = true) : l.any p = true := List.any_eq_true.2 ⟨l[i], List.getElem_mem hi, h⟩
section
variable {W : World} {v : Value} {l : List Sg}
set_option maxRecDepth 100000 in
theorem idxSg_any (fn : FuncId) (p : Sg → Bool) (he : ∀ args (w : World), (callFunc fn args).run Try.prog w = .ok (.enter fn args) w) (h : sgK.sl W v l)
    (hc : ∀ W' cs x, x ∈ l → sgK.tells W' cs x → Calls Try.prog fn #[.agg cs.toArray] W' fun e w' => e = .returned (.bool (p x)) ∧ Below W'.heap.size W' w') :
    Calls Try.prog 110 #[v, .func (.func fn) #[] #[]] W fun e w' => ∃ n : Int, e = .returned (.int .i64 n) ∧ decide (0 ≤ n) = l.any p ∧ Below W.heap.size W w' := by
  obtain ⟨A, c, rfl, hlen⟩ := Kind.sl_form h
  have HS := Lib.hid h
  have HC := Lib.hid hc
  obtain ⟨n, hn⟩ : ∃ n, n = l.length := ⟨_, rfl⟩
  have HN := Lib.hid hn
  rw [← hn] at hlen ⊢
  clear h hc hn
  go_enter Try.func110, Try.ntmps110
  go_wp2
  go_loopw [8] (fun ix wr => ∃ i : Nat, ix = .int .i64 i ∧ i ≤ n ∧ (l.take i).any p = false ∧ Below W.heap.size W wr) (fun ix _ => n - (intOf ix).toNat)
  case atStart => exact ⟨0, rfl, Nat.zero_le _, rfl, Below.refl _ _⟩
  case round =>
    obtain ⟨i, rfl, hi, hany, hb⟩ := hrel
    have HA := Lib.hid hany
    have HB := Lib.hid hb
    clear hany hb
    by_cases hlt : i < n
    · have hlt' : (i : Int) < (n : Int) := by omega
      have hlx : i < l.length := by have := HN.out; omega
      obtain ⟨b, off, c', cs, hv, ht, hat⟩ := Kind.sl_at (Kind.sl_below HS.out HB.out) (by decide) i hlx
      obtain rfl : A = some ⟨b, off, none⟩ := by injection hv
      have HC1 := Lib.hid (HC.out wr cs l[i] (List.getElem_mem hlx) ht)
      generalize hx : l[i] = x at *
      have HX := Lib.hid hx
      obtain ⟨ps, rfl, _⟩ := ht
      have hat : ∀ j u, (#[.string x.name, ps, .string x.result].toList : List Value)[j]? = some u → wr.cell? ⟨b, off + i * 3 + j, none⟩ = some u := hat
      have e0 := hat 0 _ rfl
      have e1 := hat 1 _ rfl
      have e2 := hat 2 _ rfl
      rw [Nat.add_zero] at e0
      have HC2 : Hid (Calls Try.prog fn #[.agg #[.string x.name, ps, .string x.result]] wr fun e w' => e = .returned (.bool (p x)) ∧ Below wr.heap.size wr w') := HC1
      clear HC1 hx hat hv
      by_cases hp : p x = true
      · rw [hp] at HC2
        go_wp2_with fail
        refine HC2.out.mono ?_
        rintro e w1 ⟨rfl, hb1⟩
        have HF := Lib.hid (HB.out.trans (hb1.mono HB.out.size))
        clear hb1 HC2
        go_wp2_with fail
        go_ret
        refine ⟨_, rfl, ?_, HF.out⟩
        rw [any_at p l i hlx (by rw [HX.out]; exact hp)]
        exact decide_eq_true (by omega)
      · have hpf : p x = false := by simpa using hp
        rw [hpf] at HC2
        go_wp2_with fail
        refine HC2.out.mono ?_
        rintro e w1 ⟨rfl, hb1⟩
        have HF := Lib.hid (HB.out.trans (hb1.mono HB.out.size))
        clear hb1 HC2
        go_wp2_with fail
        go_roundw
        case rel => exact ⟨i + 1, by go_num, by omega, by rw [any_take p l i hlx, HA.out, HX.out, hpf]; rfl, HF.out⟩
        case measure => simp [intOf]; omega
    · have hlt' : ¬ (i : Int) < (n : Int) := by omega
      go_wp2_with fail
      go_ret
      refine ⟨_, rfl, ?_, HB.out⟩
      have h := HA.out
      rw [List.take_of_length_le (by have := HN.out; omega)] at h
      rw [h]; rfl
set_option maxRecDepth 100000 in
theorem hasSg_any (fn : FuncId) (p : Sg → Bool) (he : ∀ args (w : World), (callFunc fn args).run Try.prog w = .ok (.enter fn args) w) (h : sgK.sl W v l)
    (hc : ∀ W' cs x, x ∈ l → sgK.tells W' cs x → Calls Try.prog fn #[.agg cs.toArray] W' fun e w' => e = .returned (.bool (p x)) ∧ Below W'.heap.size W' w') :
    Calls Try.prog 81 #[v, .func (.func fn) #[] #[]] W fun e w' => e = .returned (.bool (l.any p)) ∧ Below W.heap.size W w' := by
  have HI := Lib.hid (idxSg_any fn p he h hc)
  clear h hc
  go_enter Try.func81, Try.ntmps81
  go_wp2_with fail
  refine HI.out.mono ?_
  rintro e w1 ⟨n, rfl, hn, hb⟩
  have HF := Lib.hid (And.intro hn hb)
  clear hn hb HI
  go_wp2_with fail
  go_ret
  exact ⟨by rw [HF.out.1]; rfl, HF.out.2⟩
end
section
variable {W : World} {v : Value} {l : List Cl}
set_option maxRecDepth 100000 in
theorem idxCl_any (fn : FuncId) (p : Cl → Bool) (he : ∀ args (w : World), (callFunc fn args).run Try.prog w = .ok (.enter fn args) w) (h : clK.sl W v l)
    (hc : ∀ W' cs x, x ∈ l → clK.tells W' cs x → Calls Try.prog fn #[.agg cs.toArray] W' fun e w' => e = .returned (.bool (p x)) ∧ Below W'.heap.size W' w') :
    Calls Try.prog 111 #[v, .func (.func fn) #[] #[]] W fun e w' => ∃ n : Int, e = .returned (.int .i64 n) ∧ decide (0 ≤ n) = l.any p ∧ Below W.heap.size W w' := by
  obtain ⟨A, c, rfl, hlen⟩ := Kind.sl_form h
  have HS := Lib.hid h
  have HC := Lib.hid hc
  obtain ⟨n, hn⟩ : ∃ n, n = l.length := ⟨_, rfl⟩
  have HN := Lib.hid hn
  rw [← hn] at hlen ⊢
  clear h hc hn
  go_enter Try.func111, Try.ntmps111
  go_wp2
  go_loopw [8] (fun ix wr => ∃ i : Nat, ix = .int .i64 i ∧ i ≤ n ∧ (l.take i).any p = false ∧ Below W.heap.size W wr) (fun ix _ => n - (intOf ix).toNat)
  case atStart => exact ⟨0, rfl, Nat.zero_le _, rfl, Below.refl _ _⟩
  case round =>
    obtain ⟨i, rfl, hi, hany, hb⟩ := hrel
    have HA := Lib.hid hany
    have HB := Lib.hid hb
    clear hany hb
    by_cases hlt : i < n
    · have hlt' : (i : Int) < (n : Int) := by omega
      have hlx : i < l.length := by have := HN.out; omega
      obtain ⟨b, off, c', cs, hv, ht, hat⟩ := Kind.sl_at (Kind.sl_below HS.out HB.out) (by decide) i hlx
      obtain rfl : A = some ⟨b, off, none⟩ := by injection hv
      have HC1 := Lib.hid (HC.out wr cs l[i] (List.getElem_mem hlx) ht)
      generalize hx : l[i] = x at *
      have HX := Lib.hid hx
      obtain ⟨fs, ms, rfl, _⟩ := ht
      have hat : ∀ j u, (#[.string x.name, .string x.super, fs, ms].toList : List Value)[j]? = some u → wr.cell? ⟨b, off + i * 4 + j, none⟩ = some u := hat
      have e0 := hat 0 _ rfl
      have e1 := hat 1 _ rfl
      have e2 := hat 2 _ rfl
      have e3 := hat 3 _ rfl
      rw [Nat.add_zero] at e0
      have HC2 : Hid (Calls Try.prog fn #[.agg #[.string x.name, .string x.super, fs, ms]] wr fun e w' => e = .returned (.bool (p x)) ∧ Below wr.heap.size wr w') := HC1
      clear HC1 hx hat hv
      by_cases hp : p x = true
      · rw [hp] at HC2
        go_wp2_with fail
        refine HC2.out.mono ?_
        rintro e w1 ⟨rfl, hb1⟩
        have HF := Lib.hid (HB.out.trans (hb1.mono HB.out.size))
        clear hb1 HC2
        go_wp2_with fail
        go_ret
        refine ⟨_, rfl, ?_, HF.out⟩
        rw [any_at p l i hlx (by rw [HX.out]; exact hp)]
        exact decide_eq_true (by omega)
      · have hpf : p x = false := by simpa using hp
        rw [hpf] at HC2
        go_wp2_with fail
        refine HC2.out.mono ?_
        rintro e w1 ⟨rfl, hb1⟩
        have HF := Lib.hid (HB.out.trans (hb1.mono HB.out.size))
        clear hb1 HC2
        go_wp2_with fail
        go_roundw
        case rel => exact ⟨i + 1, by go_num, by omega, by rw [any_take p l i hlx, HA.out, HX.out, hpf]; rfl, HF.out⟩
        case measure => simp [intOf]; omega
    · have hlt' : ¬ (i : Int) < (n : Int) := by omega
      go_wp2_with fail
      go_ret
      refine ⟨_, rfl, ?_, HB.out⟩
      have h := HA.out
      rw [List.take_of_length_le (by have := HN.out; omega)] at h
      rw [h]; rfl
set_option maxRecDepth 100000 in
theorem hasCl_any (fn : FuncId) (p : Cl → Bool) (he : ∀ args (w : World), (callFunc fn args).run Try.prog w = .ok (.enter fn args) w) (h : clK.sl W v l)
    (hc : ∀ W' cs x, x ∈ l → clK.tells W' cs x → Calls Try.prog fn #[.agg cs.toArray] W' fun e w' => e = .returned (.bool (p x)) ∧ Below W'.heap.size W' w') :
    Calls Try.prog 84 #[v, .func (.func fn) #[] #[]] W fun e w' => e = .returned (.bool (l.any p)) ∧ Below W.heap.size W w' := by
  have HI := Lib.hid (idxCl_any fn p he h hc)
  clear h hc
  go_enter Try.func84, Try.ntmps84
  go_wp2_with fail
  refine HI.out.mono ?_
  rintro e w1 ⟨n, rfl, hn, hb⟩
  have HF := Lib.hid (And.intro hn hb)
  clear hn hb HI
  go_wp2_with fail
  go_ret
  exact ⟨by rw [HF.out.1]; rfl, HF.out.2⟩
end
section
variable {W : World} {v : Value} {l : List Fu}
set_option maxRecDepth 100000 in
theorem idxFu_any (fn : FuncId) (p : Fu → Bool) (he : ∀ args (w : World), (callFunc fn args).run Try.prog w = .ok (.enter fn args) w) (h : fuK.sl W v l)
    (hc : ∀ W' cs x, x ∈ l → fuK.tells W' cs x → Calls Try.prog fn #[.agg cs.toArray] W' fun e w' => e = .returned (.bool (p x)) ∧ Below W'.heap.size W' w') :
    Calls Try.prog 112 #[v, .func (.func fn) #[] #[]] W fun e w' => ∃ n : Int, e = .returned (.int .i64 n) ∧ decide (0 ≤ n) = l.any p ∧ Below W.heap.size W w' := by
  obtain ⟨A, c, rfl, hlen⟩ := Kind.sl_form h
  have HS := Lib.hid h
  have HC := Lib.hid hc
  obtain ⟨n, hn⟩ : ∃ n, n = l.length := ⟨_, rfl⟩
  have HN := Lib.hid hn
  rw [← hn] at hlen ⊢
  clear h hc hn
  go_enter Try.func112, Try.ntmps112
  go_wp2
  go_loopw [8] (fun ix wr => ∃ i : Nat, ix = .int .i64 i ∧ i ≤ n ∧ (l.take i).any p = false ∧ Below W.heap.size W wr) (fun ix _ => n - (intOf ix).toNat)
  case atStart => exact ⟨0, rfl, Nat.zero_le _, rfl, Below.refl _ _⟩
  case round =>
    obtain ⟨i, rfl, hi, hany, hb⟩ := hrel
    have HA := Lib.hid hany
    have HB := Lib.hid hb
    clear hany hb
    by_cases hlt : i < n
    · have hlt' : (i : Int) < (n : Int) := by omega
      have hlx : i < l.length := by have := HN.out; omega
      obtain ⟨b, off, c', cs, hv, ht, hat⟩ := Kind.sl_at (Kind.sl_below HS.out HB.out) (by decide) i hlx
      obtain rfl : A = some ⟨b, off, none⟩ := by injection hv
      have HC1 := Lib.hid (HC.out wr cs l[i] (List.getElem_mem hlx) ht)
      generalize hx : l[i] = x at *
      have HX := Lib.hid hx
      obtain ⟨ls, cd, rfl, _⟩ := ht
      have hat : ∀ j u, (#[.string x.cls, .string x.name, ls, cd].toList : List Value)[j]? = some u → wr.cell? ⟨b, off + i * 4 + j, none⟩ = some u := hat
      have e0 := hat 0 _ rfl
      have e1 := hat 1 _ rfl
      have e2 := hat 2 _ rfl
      have e3 := hat 3 _ rfl
      rw [Nat.add_zero] at e0
      have HC2 : Hid (Calls Try.prog fn #[.agg #[.string x.cls, .string x.name, ls, cd]] wr fun e w' => e = .returned (.bool (p x)) ∧ Below wr.heap.size wr w') := HC1
      clear HC1 hx hat hv
      by_cases hp : p x = true
      · rw [hp] at HC2
        go_wp2_with fail
        refine HC2.out.mono ?_
        rintro e w1 ⟨rfl, hb1⟩
        have HF := Lib.hid (HB.out.trans (hb1.mono HB.out.size))
        clear hb1 HC2
        go_wp2_with fail
        go_ret
        refine ⟨_, rfl, ?_, HF.out⟩
        rw [any_at p l i hlx (by rw [HX.out]; exact hp)]
        exact decide_eq_true (by omega)
      · have hpf : p x = false := by simpa using hp
        rw [hpf] at HC2
        go_wp2_with fail
        refine HC2.out.mono ?_
        rintro e w1 ⟨rfl, hb1⟩
        have HF := Lib.hid (HB.out.trans (hb1.mono HB.out.size))
        clear hb1 HC2
        go_wp2_with fail
        go_roundw
        case rel => exact ⟨i + 1, by go_num, by omega, by rw [any_take p l i hlx, HA.out, HX.out, hpf]; rfl, HF.out⟩
        case measure => simp [intOf]; omega
    · have hlt' : ¬ (i : Int) < (n : Int) := by omega
      go_wp2_with fail
      go_ret
      refine ⟨_, rfl, ?_, HB.out⟩
      have h := HA.out
      rw [List.take_of_length_le (by have := HN.out; omega)] at h
      rw [h]; rfl
set_option maxRecDepth 100000 in
theorem hasFu_any (fn : FuncId) (p : Fu → Bool) (he : ∀ args (w : World), (callFunc fn args).run Try.prog w = .ok (.enter fn args) w) (h : fuK.sl W v l)
    (hc : ∀ W' cs x, x ∈ l → fuK.tells W' cs x → Calls Try.prog fn #[.agg cs.toArray] W' fun e w' => e = .returned (.bool (p x)) ∧ Below W'.heap.size W' w') :
    Calls Try.prog 85 #[v, .func (.func fn) #[] #[]] W fun e w' => e = .returned (.bool (l.any p)) ∧ Below W.heap.size W w' := by
  have HI := Lib.hid (idxFu_any fn p he h hc)
  clear h hc
  go_enter Try.func85, Try.ntmps85
  go_wp2_with fail
  refine HI.out.mono ?_
  rintro e w1 ⟨n, rfl, hn, hb⟩
  have HF := Lib.hid (And.intro hn hb)
  clear hn hb HI
  go_wp2_with fail
  go_ret
  exact ⟨by rw [HF.out.1]; rfl, HF.out.2⟩
end
section
variable {W : World} {v : Value} {l : List St}
set_option maxRecDepth 100000 in
theorem idxSt_any (fn : FuncId) (p : St → Bool) (he : ∀ args (w : World), (callFunc fn args).run Try.prog w = .ok (.enter fn args) w) (h : stK.sl W v l)
    (hc : ∀ W' cs x, x ∈ l → stK.tells W' cs x → Calls Try.prog fn #[.agg cs.toArray] W' fun e w' => e = .returned (.bool (p x)) ∧ Below W'.heap.size W' w') :
    Calls Try.prog 113 #[v, .func (.func fn) #[] #[]] W fun e w' => ∃ n : Int, e = .returned (.int .i64 n) ∧ decide (0 ≤ n) = l.any p ∧ Below W.heap.size W w' := by
  obtain ⟨A, c, rfl, hlen⟩ := Kind.sl_form h
  have HS := Lib.hid h
  have HC := Lib.hid hc
  obtain ⟨n, hn⟩ : ∃ n, n = l.length := ⟨_, rfl⟩
  have HN := Lib.hid hn
  rw [← hn] at hlen ⊢
  clear h hc hn
  go_enter Try.func113, Try.ntmps113
  go_wp2
  go_loopw [8] (fun ix wr => ∃ i : Nat, ix = .int .i64 i ∧ i ≤ n ∧ (l.take i).any p = false ∧ Below W.heap.size W wr) (fun ix _ => n - (intOf ix).toNat)
  case atStart => exact ⟨0, rfl, Nat.zero_le _, rfl, Below.refl _ _⟩
  case round =>
    obtain ⟨i, rfl, hi, hany, hb⟩ := hrel
    have HA := Lib.hid hany
    have HB := Lib.hid hb
    clear hany hb
    by_cases hlt : i < n
    · have hlt' : (i : Int) < (n : Int) := by omega
      have hlx : i < l.length := by have := HN.out; omega
      obtain ⟨b, off, c', cs, hv, ht, hat⟩ := Kind.sl_at (Kind.sl_below HS.out HB.out) (by decide) i hlx
      obtain rfl : A = some ⟨b, off, none⟩ := by injection hv
      have HC1 := Lib.hid (HC.out wr cs l[i] (List.getElem_mem hlx) ht)
      generalize hx : l[i] = x at *
      have HX := Lib.hid hx
      obtain ⟨rfl, _⟩ := ht
      have hat : ∀ j u, (#[.int .i64 x.what, .string x.src, .string x.dst].toList : List Value)[j]? = some u → wr.cell? ⟨b, off + i * 3 + j, none⟩ = some u := hat
      have e0 := hat 0 _ rfl
      have e1 := hat 1 _ rfl
      have e2 := hat 2 _ rfl
      rw [Nat.add_zero] at e0
      have HC2 : Hid (Calls Try.prog fn #[.agg #[.int .i64 x.what, .string x.src, .string x.dst]] wr fun e w' => e = .returned (.bool (p x)) ∧ Below wr.heap.size wr w') := HC1
      clear HC1 hx hat hv
      by_cases hp : p x = true
      · rw [hp] at HC2
        go_wp2_with fail
        refine HC2.out.mono ?_
        rintro e w1 ⟨rfl, hb1⟩
        have HF := Lib.hid (HB.out.trans (hb1.mono HB.out.size))
        clear hb1 HC2
        go_wp2_with fail
        go_ret
        refine ⟨_, rfl, ?_, HF.out⟩
        rw [any_at p l i hlx (by rw [HX.out]; exact hp)]
        exact decide_eq_true (by omega)
      · have hpf : p x = false := by simpa using hp
        rw [hpf] at HC2
        go_wp2_with fail
        refine HC2.out.mono ?_
        rintro e w1 ⟨rfl, hb1⟩
        have HF := Lib.hid (HB.out.trans (hb1.mono HB.out.size))
        clear hb1 HC2
        go_wp2_with fail
        go_roundw
        case rel => exact ⟨i + 1, by go_num, by omega, by rw [any_take p l i hlx, HA.out, HX.out, hpf]; rfl, HF.out⟩
        case measure => simp [intOf]; omega
    · have hlt' : ¬ (i : Int) < (n : Int) := by omega
      go_wp2_with fail
      go_ret
      refine ⟨_, rfl, ?_, HB.out⟩
      have h := HA.out
      rw [List.take_of_length_le (by have := HN.out; omega)] at h
      rw [h]; rfl
set_option maxRecDepth 100000 in
theorem hasSt_any (fn : FuncId) (p : St → Bool) (he : ∀ args (w : World), (callFunc fn args).run Try.prog w = .ok (.enter fn args) w) (h : stK.sl W v l)
    (hc : ∀ W' cs x, x ∈ l → stK.tells W' cs x → Calls Try.prog fn #[.agg cs.toArray] W' fun e w' => e = .returned (.bool (p x)) ∧ Below W'.heap.size W' w') :
    Calls Try.prog 86 #[v, .func (.func fn) #[] #[]] W fun e w' => e = .returned (.bool (l.any p)) ∧ Below W.heap.size W w' := by
  have HI := Lib.hid (idxSt_any fn p he h hc)
  clear h hc
  go_enter Try.func86, Try.ntmps86
  go_wp2_with fail
  refine HI.out.mono ?_
  rintro e w1 ⟨n, rfl, hn, hb⟩
  have HF := Lib.hid (And.intro hn hb)
  clear hn hb HI
  go_wp2_with fail
  go_ret
  exact ⟨by rw [HF.out.1]; rfl, HF.out.2⟩
end
section
variable {W : World} {v : Value} {l : List In}
set_option maxRecDepth 100000 in
theorem idxIn_any (fn : FuncId) (p : In → Bool) (he : ∀ args (w : World), (callFunc fn args).run Try.prog w = .ok (.enter fn args) w) (h : inK.sl W v l)
    (hc : ∀ W' cs x, x ∈ l → inK.tells W' cs x → Calls Try.prog fn #[.agg cs.toArray] W' fun e w' => e = .returned (.bool (p x)) ∧ Below W'.heap.size W' w') :
    Calls Try.prog 114 #[v, .func (.func fn) #[] #[]] W fun e w' => ∃ n : Int, e = .returned (.int .i64 n) ∧ decide (0 ≤ n) = l.any p ∧ Below W.heap.size W w' := by
  obtain ⟨A, c, rfl, hlen⟩ := Kind.sl_form h
  have HS := Lib.hid h
  have HC := Lib.hid hc
  obtain ⟨n, hn⟩ : ∃ n, n = l.length := ⟨_, rfl⟩
  have HN := Lib.hid hn
  rw [← hn] at hlen ⊢
  clear h hc hn
  go_enter Try.func114, Try.ntmps114
  go_wp2
  go_loopw [8] (fun ix wr => ∃ i : Nat, ix = .int .i64 i ∧ i ≤ n ∧ (l.take i).any p = false ∧ Below W.heap.size W wr) (fun ix _ => n - (intOf ix).toNat)
  case atStart => exact ⟨0, rfl, Nat.zero_le _, rfl, Below.refl _ _⟩
  case round =>
    obtain ⟨i, rfl, hi, hany, hb⟩ := hrel
    have HA := Lib.hid hany
    have HB := Lib.hid hb
    clear hany hb
    by_cases hlt : i < n
    · have hlt' : (i : Int) < (n : Int) := by omega
      have hlx : i < l.length := by have := HN.out; omega
      obtain ⟨b, off, c', cs, hv, ht, hat⟩ := Kind.sl_at (Kind.sl_below HS.out HB.out) (by decide) i hlx
      obtain rfl : A = some ⟨b, off, none⟩ := by injection hv
      have HC1 := Lib.hid (HC.out wr cs l[i] (List.getElem_mem hlx) ht)
      generalize hx : l[i] = x at *
      have HX := Lib.hid hx
      obtain ⟨rfl, _⟩ := ht
      have hat : ∀ j u, (#[.int .i64 x.op, .int .i64 x.a, .int .i64 x.b, .int .i64 x.c].toList : List Value)[j]? = some u → wr.cell? ⟨b, off + i * 4 + j, none⟩ = some u := hat
      have e0 := hat 0 _ rfl
      have e1 := hat 1 _ rfl
      have e2 := hat 2 _ rfl
      have e3 := hat 3 _ rfl
      rw [Nat.add_zero] at e0
      have HC2 : Hid (Calls Try.prog fn #[.agg #[.int .i64 x.op, .int .i64 x.a, .int .i64 x.b, .int .i64 x.c]] wr fun e w' => e = .returned (.bool (p x)) ∧ Below wr.heap.size wr w') := HC1
      clear HC1 hx hat hv
      by_cases hp : p x = true
      · rw [hp] at HC2
        go_wp2_with fail
        refine HC2.out.mono ?_
        rintro e w1 ⟨rfl, hb1⟩
        have HF := Lib.hid (HB.out.trans (hb1.mono HB.out.size))
        clear hb1 HC2
        go_wp2_with fail
        go_ret
        refine ⟨_, rfl, ?_, HF.out⟩
        rw [any_at p l i hlx (by rw [HX.out]; exact hp)]
        exact decide_eq_true (by omega)
      · have hpf : p x = false := by simpa using hp
        rw [hpf] at HC2
        go_wp2_with fail
        refine HC2.out.mono ?_
        rintro e w1 ⟨rfl, hb1⟩
        have HF := Lib.hid (HB.out.trans (hb1.mono HB.out.size))
        clear hb1 HC2
        go_wp2_with fail
        go_roundw
        case rel => exact ⟨i + 1, by go_num, by omega, by rw [any_take p l i hlx, HA.out, HX.out, hpf]; rfl, HF.out⟩
        case measure => simp [intOf]; omega
    · have hlt' : ¬ (i : Int) < (n : Int) := by omega
      go_wp2_with fail
      go_ret
      refine ⟨_, rfl, ?_, HB.out⟩
      have h := HA.out
      rw [List.take_of_length_le (by have := HN.out; omega)] at h
      rw [h]; rfl
set_option maxRecDepth 100000 in
theorem hasIn_any (fn : FuncId) (p : In → Bool) (he : ∀ args (w : World), (callFunc fn args).run Try.prog w = .ok (.enter fn args) w) (h : inK.sl W v l)
    (hc : ∀ W' cs x, x ∈ l → inK.tells W' cs x → Calls Try.prog fn #[.agg cs.toArray] W' fun e w' => e = .returned (.bool (p x)) ∧ Below W'.heap.size W' w') :
    Calls Try.prog 89 #[v, .func (.func fn) #[] #[]] W fun e w' => e = .returned (.bool (l.any p)) ∧ Below W.heap.size W w' := by
  have HI := Lib.hid (idxIn_any fn p he h hc)
  clear h hc
  go_enter Try.func89, Try.ntmps89
  go_wp2_with fail
  refine HI.out.mono ?_
  rintro e w1 ⟨n, rfl, hn, hb⟩
  have HF := Lib.hid (And.intro hn hb)
  clear hn hb HI
  go_wp2_with fail
  go_ret
  exact ⟨by rw [HF.out.1]; rfl, HF.out.2⟩
end
end Go.Proofs.Ytcapdmicekialaa
