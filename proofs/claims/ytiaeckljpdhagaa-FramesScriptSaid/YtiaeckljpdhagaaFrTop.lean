/- top, at each of its types. -/
import Derived.Test.YtiaeckljpdhagaaFrOwned
namespace Go.Proofs.Ytiaeckljpdhagaa
open Go.RowKit
attribute [local go_sem] Oper.semAt_some run_store_func run_store_nilFunc
def upT (i : Nat) : Nat := if i ≤ 14 then 0 else 1
theorem topI_nil (x f : Value) (w : World) : Calls Try.prog 36 #[.pointer none, x, f] w fun e w' => e = .returned (.tuple #[x, .int .i64 1]) ∧ w = w' := by
  go_enter Try.func36, Try.ntmps36
  go_wp2_with fail
  refine (none_nil w).mono ?_
  rintro e w' ⟨rfl, rfl⟩
  go_wp2
  go_ret2
  exact ⟨rfl, rfl⟩
theorem topI_unmade (p : Nat) (x f : Value) (w : World) (h : w.cell? ⟨p, 1, none⟩ = some (.int .i64 0)) : Calls Try.prog 36 #[.pointer (some ⟨p, 0, none⟩), x, f] w fun e w' => e = .returned (.tuple #[x, .int .i64 1]) ∧ w = w' := by
  go_enter Try.func36, Try.ntmps36
  go_wp2_with fail
  refine (none_at p 0 w h).mono ?_
  rintro e w' ⟨rfl, rfl⟩
  go_wp2
  go_ret2
  exact ⟨rfl, rfl⟩
set_option maxRecDepth 100000 in
theorem topI_empty (p c : Nat) (A : Option Addr) (most : Int) (x f : Value) (w : World) (hm : (most == 0) = false) (h0 : w.cell? ⟨p, 0, none⟩ = some (.slice A 0 c)) (h : w.cell? ⟨p, 1, none⟩ = some (.int .i64 most)) : Calls Try.prog 36 #[.pointer (some ⟨p, 0, none⟩), x, f] w fun e w' => e = .returned (.tuple #[x, .int .i64 17]) ∧ w = w' := by
  go_enter Try.func36, Try.ntmps36
  go_wp2_with fail
  refine (none_at p most w h).mono ?_
  rintro e w' ⟨rfl, rfl⟩
  go_wp2
  go_ret2
  exact ⟨rfl, rfl⟩
set_option maxRecDepth 100000 in
set_option maxHeartbeats 800000 in
theorem topI_call (p g n c d : Nat) (most : Int) (x : Value) (fn : FuncId) (first cap : Array Value) (w : World) (T : Value → Value → World → Prop) (he : ∀ args (w : World), (callFunc fn args).run Try.prog w = .ok (.enter fn args) w) (hn : n ≤ 1000) (hm : (most == 0) = false) (h0 : w.cell? ⟨p, 0, none⟩ = some (.slice (some ⟨g, 0, none⟩) (n + 1) c)) (h : w.cell? ⟨p, 1, none⟩ = some (.int .i64 most)) (ht : w.cell? ⟨g, n, none⟩ = some (ptrV d))
    (hc : Calls Try.prog fn (first.push (ptrV d) ++ cap) w.drew fun e w' => ∃ y z, e = .returned (.tuple #[y, z]) ∧ T y z w') :
    Calls Try.prog 36 #[.pointer (some ⟨p, 0, none⟩), x, .func (.func fn) first cap] w fun e w' => ∃ y z, e = .returned (.tuple #[y, z]) ∧ T y z w' := by
  have hc' : Calls Try.prog fn (first.push (ptrV d) ++ cap) w.drew fun e w' => ∃ v, e = .returned v ∧ ∃ y z, v = .tuple #[y, z] ∧ T y z w' := hc.mono (by rintro e w' ⟨y, z, rfl, h⟩; exact ⟨_, rfl, y, z, rfl, h⟩)
  have HC := Lib.hid hc'
  have hwr : IntKind.i64.wrap (n : Int) = (n : Int) := IntWalk.i64_in _ (by omega)
  have hnlt : (n : Int) < (n : Int) + 1 := by omega
  clear hc hc'
  go_enter Try.func36, Try.ntmps36
  go_wp2_with fail
  refine (none_at p most w h).mono ?_
  rintro e w' ⟨rfl, rfl⟩
  go_wp2_with fail
  refine wp_region_plan [15] upT _ (.call 15 fn (first.push (ptrV d) ++ cap) (fun v w' => ∃ y z, v = .tuple #[y, z] ∧ T y z w') (fun _ _ => (· = [])) HC.out (fun _ w' _ => .done w')) (by kernel_rfl) (by kernel_rfl) (by kernel_rfl) (by kernel_rfl) (by decide) (by decide) ?_ ?_
  · rintro σ ⟨v, w', τ, _, rfl, rfl⟩; rfl
  intro σ hT hne
  obtain ⟨v, w', τ, ⟨y, z, rfl, hTT⟩, hτ, hσ⟩ := hT
  subst hτ
  have l15 : look σ 15 = some ⟨15, some (fn, first.push (ptrV d) ++ cap), .tuple #[y, z], w'⟩ := by rw [hσ]; rfl
  have lk : ∀ k, k ≠ 15 → look σ k = none := fun k hk => by rw [hσ]; exact if_neg (fun e => hk e.symm)
  have hx5 : ∀ x : Pre upT w.drew σ 5, x.w.cell? ⟨p, 0, none⟩ = some (.slice (some ⟨g, 0, none⟩) (n + 1) c) := fun x => pn_fact (F := fun w => w.cell? ⟨p, 0, none⟩ = _) (by rw [hσ]; exact h0) (lk 5 (by decide)) x
  have hx10 : ∀ x : Pre upT w.drew σ 10, x.w.cell? ⟨p, 0, none⟩ = some (.slice (some ⟨g, 0, none⟩) (n + 1) c) := fun x => pn_fact (F := fun w => w.cell? ⟨p, 0, none⟩ = _) (by rw [hσ]; exact h0) (lk 10 (by decide)) x
  have hx14 : ∀ x : Pre upT w.drew σ 14, x.w.cell? ⟨g, n, none⟩ = some (ptrV d) := fun x => pn_fact (F := fun w => w.cell? ⟨g, n, none⟩ = _) (by rw [hσ]; exact ht) (lk 14 (by decide)) x
  have hlast : ∀ L : Array Bool, L.getD 15 true = true → stageW w.drew σ L = w' := fun L h15 => by
    rw [stage_full, hσ]
    · rfl
    · rw [hσ]; intro c hc; simp at hc; subst hc; exact h15
  have l0 := lk 0 (by decide); have l1 := lk 1 (by decide); have l2 := lk 2 (by decide); have l3 := lk 3 (by decide); have l4 := lk 4 (by decide); have l5 := lk 5 (by decide); have l6 := lk 6 (by decide); have l7 := lk 7 (by decide); have l8 := lk 8 (by decide); have l9 := lk 9 (by decide); have l10 := lk 10 (by decide); have l11 := lk 11 (by decide); have l12 := lk 12 (by decide); have l13 := lk 13 (by decide); have l14 := lk 14 (by decide); have l16 := lk 16 (by decide); have l17 := lk 17 (by decide); have l18 := lk 18 (by decide); have l19 := lk 19 (by decide)
  have n0 := hne 0; have n1 := hne 1; have n2 := hne 2; have n3 := hne 3; have n4 := hne 4; have n5 := hne 5; have n6 := hne 6; have n7 := hne 7; have n8 := hne 8; have n9 := hne 9; have n10 := hne 10; have n11 := hne 11; have n12 := hne 12; have n13 := hne 13; have n14 := hne 14; have n15 := hne 15; have n16 := hne 16; have n17 := hne 17; have n18 := hne 18; have n19 := hne 19
  have HL := Lib.hid hlast
  have HT := Lib.hid hTT
  clear lk hσ hne hlast HC hTT
  repeat (refine wpPn_step (fun K hK => ?_); go_simp; refine hK _ ?_; clear hK K)
  refine wpPn_nil ?_
  rw [HL.out _ (by rfl)]
  go_wp2_with fail
  go_ret2
  exact ⟨y, z, rfl, HT.out⟩
theorem topL_nil (x f : Value) (w : World) : Calls Try.prog 49 #[.pointer none, x, f] w fun e w' => e = .returned (.tuple #[x, .int .i64 1]) ∧ w = w' := by
  go_enter Try.func49, Try.ntmps49
  go_wp2_with fail
  refine (none_nil w).mono ?_
  rintro e w' ⟨rfl, rfl⟩
  go_wp2
  go_ret2
  exact ⟨rfl, rfl⟩
theorem topL_unmade (p : Nat) (x f : Value) (w : World) (h : w.cell? ⟨p, 1, none⟩ = some (.int .i64 0)) : Calls Try.prog 49 #[.pointer (some ⟨p, 0, none⟩), x, f] w fun e w' => e = .returned (.tuple #[x, .int .i64 1]) ∧ w = w' := by
  go_enter Try.func49, Try.ntmps49
  go_wp2_with fail
  refine (none_at p 0 w h).mono ?_
  rintro e w' ⟨rfl, rfl⟩
  go_wp2
  go_ret2
  exact ⟨rfl, rfl⟩
set_option maxRecDepth 100000 in
theorem topL_empty (p c : Nat) (A : Option Addr) (most : Int) (x f : Value) (w : World) (hm : (most == 0) = false) (h0 : w.cell? ⟨p, 0, none⟩ = some (.slice A 0 c)) (h : w.cell? ⟨p, 1, none⟩ = some (.int .i64 most)) : Calls Try.prog 49 #[.pointer (some ⟨p, 0, none⟩), x, f] w fun e w' => e = .returned (.tuple #[x, .int .i64 17]) ∧ w = w' := by
  go_enter Try.func49, Try.ntmps49
  go_wp2_with fail
  refine (none_at p most w h).mono ?_
  rintro e w' ⟨rfl, rfl⟩
  go_wp2
  go_ret2
  exact ⟨rfl, rfl⟩
set_option maxRecDepth 100000 in
set_option maxHeartbeats 800000 in
theorem topL_call (p g n c d : Nat) (most : Int) (x : Value) (fn : FuncId) (first cap : Array Value) (w : World) (T : Value → Value → World → Prop) (he : ∀ args (w : World), (callFunc fn args).run Try.prog w = .ok (.enter fn args) w) (hn : n ≤ 1000) (hm : (most == 0) = false) (h0 : w.cell? ⟨p, 0, none⟩ = some (.slice (some ⟨g, 0, none⟩) (n + 1) c)) (h : w.cell? ⟨p, 1, none⟩ = some (.int .i64 most)) (ht : w.cell? ⟨g, n, none⟩ = some (ptrV d))
    (hc : Calls Try.prog fn (first.push (ptrV d) ++ cap) w.drew fun e w' => ∃ y z, e = .returned (.tuple #[y, z]) ∧ T y z w') :
    Calls Try.prog 49 #[.pointer (some ⟨p, 0, none⟩), x, .func (.func fn) first cap] w fun e w' => ∃ y z, e = .returned (.tuple #[y, z]) ∧ T y z w' := by
  have hc' : Calls Try.prog fn (first.push (ptrV d) ++ cap) w.drew fun e w' => ∃ v, e = .returned v ∧ ∃ y z, v = .tuple #[y, z] ∧ T y z w' := hc.mono (by rintro e w' ⟨y, z, rfl, h⟩; exact ⟨_, rfl, y, z, rfl, h⟩)
  have HC := Lib.hid hc'
  have hwr : IntKind.i64.wrap (n : Int) = (n : Int) := IntWalk.i64_in _ (by omega)
  have hnlt : (n : Int) < (n : Int) + 1 := by omega
  clear hc hc'
  go_enter Try.func49, Try.ntmps49
  go_wp2_with fail
  refine (none_at p most w h).mono ?_
  rintro e w' ⟨rfl, rfl⟩
  go_wp2_with fail
  refine wp_region_plan [15] upT _ (.call 15 fn (first.push (ptrV d) ++ cap) (fun v w' => ∃ y z, v = .tuple #[y, z] ∧ T y z w') (fun _ _ => (· = [])) HC.out (fun _ w' _ => .done w')) (by kernel_rfl) (by kernel_rfl) (by kernel_rfl) (by kernel_rfl) (by decide) (by decide) ?_ ?_
  · rintro σ ⟨v, w', τ, _, rfl, rfl⟩; rfl
  intro σ hT hne
  obtain ⟨v, w', τ, ⟨y, z, rfl, hTT⟩, hτ, hσ⟩ := hT
  subst hτ
  have l15 : look σ 15 = some ⟨15, some (fn, first.push (ptrV d) ++ cap), .tuple #[y, z], w'⟩ := by rw [hσ]; rfl
  have lk : ∀ k, k ≠ 15 → look σ k = none := fun k hk => by rw [hσ]; exact if_neg (fun e => hk e.symm)
  have hx5 : ∀ x : Pre upT w.drew σ 5, x.w.cell? ⟨p, 0, none⟩ = some (.slice (some ⟨g, 0, none⟩) (n + 1) c) := fun x => pn_fact (F := fun w => w.cell? ⟨p, 0, none⟩ = _) (by rw [hσ]; exact h0) (lk 5 (by decide)) x
  have hx10 : ∀ x : Pre upT w.drew σ 10, x.w.cell? ⟨p, 0, none⟩ = some (.slice (some ⟨g, 0, none⟩) (n + 1) c) := fun x => pn_fact (F := fun w => w.cell? ⟨p, 0, none⟩ = _) (by rw [hσ]; exact h0) (lk 10 (by decide)) x
  have hx14 : ∀ x : Pre upT w.drew σ 14, x.w.cell? ⟨g, n, none⟩ = some (ptrV d) := fun x => pn_fact (F := fun w => w.cell? ⟨g, n, none⟩ = _) (by rw [hσ]; exact ht) (lk 14 (by decide)) x
  have hlast : ∀ L : Array Bool, L.getD 15 true = true → stageW w.drew σ L = w' := fun L h15 => by
    rw [stage_full, hσ]
    · rfl
    · rw [hσ]; intro c hc; simp at hc; subst hc; exact h15
  have l0 := lk 0 (by decide); have l1 := lk 1 (by decide); have l2 := lk 2 (by decide); have l3 := lk 3 (by decide); have l4 := lk 4 (by decide); have l5 := lk 5 (by decide); have l6 := lk 6 (by decide); have l7 := lk 7 (by decide); have l8 := lk 8 (by decide); have l9 := lk 9 (by decide); have l10 := lk 10 (by decide); have l11 := lk 11 (by decide); have l12 := lk 12 (by decide); have l13 := lk 13 (by decide); have l14 := lk 14 (by decide); have l16 := lk 16 (by decide); have l17 := lk 17 (by decide); have l18 := lk 18 (by decide); have l19 := lk 19 (by decide)
  have n0 := hne 0; have n1 := hne 1; have n2 := hne 2; have n3 := hne 3; have n4 := hne 4; have n5 := hne 5; have n6 := hne 6; have n7 := hne 7; have n8 := hne 8; have n9 := hne 9; have n10 := hne 10; have n11 := hne 11; have n12 := hne 12; have n13 := hne 13; have n14 := hne 14; have n15 := hne 15; have n16 := hne 16; have n17 := hne 17; have n18 := hne 18; have n19 := hne 19
  have HL := Lib.hid hlast
  have HT := Lib.hid hTT
  clear lk hσ hne hlast HC hTT
  repeat (refine wpPn_step (fun K hK => ?_); go_simp; refine hK _ ?_; clear hK K)
  refine wpPn_nil ?_
  rw [HL.out _ (by rfl)]
  go_wp2_with fail
  go_ret2
  exact ⟨y, z, rfl, HT.out⟩
end Go.Proofs.Ytiaeckljpdhagaa
