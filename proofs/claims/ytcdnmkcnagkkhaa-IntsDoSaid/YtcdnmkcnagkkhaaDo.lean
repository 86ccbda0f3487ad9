/- What ints.Do and its reference come to: contracts over the translation. -/
import Derived.Test.YtcdnmkcnagkkhaaProg
import Derived.Test.YtcdnmkcnagkkhaaMaps
namespace Go.Proofs.Ytcdnmkcnagkkhaa
open Go.RowKit
attribute [local go_sem] run_store_func run_store_nilFunc

def waysE : Array MapEntry := #[⟨.string ⟨#[43]⟩, .agg #[.func (.func 26) #[] #[], .bool false], 0⟩, ⟨.string ⟨#[45]⟩, .agg #[.func (.func 27) #[] #[], .bool false], 1⟩, ⟨.string ⟨#[42]⟩, .agg #[.func (.func 28) #[] #[], .bool false], 2⟩, ⟨.string ⟨#[47]⟩, .agg #[.func (.func 29) #[] #[], .bool true], 3⟩, ⟨.string ⟨#[37]⟩, .agg #[.func (.func 30) #[] #[], .bool true], 4⟩]

theorem ways_any (w : World) : Calls Try.prog 24 #[] w fun e w' => e = .returned (.map (some w.heap.size)) ∧ w.alloc (.map waysE 5) = w' := by
  have hmm := @run_makeMap Try.prog
  go_enter Try.func24, Try.ntmps24
  go_wp2_with (rw [run_insert_new Try.underlying46]; rotate_left 1; (intro _; kernel_rfl); (intro _; kernel_rfl))
  go_ret
  exact ⟨rfl, rfl⟩

def doV (s : ByteArray) (a b : Int) : Int × Int :=
  if s = ⟨#[43]⟩ then (wrap64 (a + b), 0) else if s = ⟨#[45]⟩ then (wrap64 (a - b), 0) else if s = ⟨#[42]⟩ then (wrap64 (a * b), 0) else
  if s = ⟨#[47]⟩ then (if b = 0 then (0, 3) else (wrap64 (a.tdiv b), 0)) else if s = ⟨#[37]⟩ then (if b = 0 then (0, 3) else (a.tmod b, 0)) else (0, 2)

def Res2 (p : Int × Int) (w : World) (e : Ending) (w' : World) : Prop := e = .returned (.tuple #[.int .i64 p.1, .int .i64 p.2]) ∧ Below w.heap.size w w'

theorem below_two (w : World) (o o' : Obj) : Below w.heap.size w ((w.alloc o).alloc o') := ((Below.refl _ _).alloc (Nat.le_refl _) _).alloc (by simp) _

theorem look_of (i : Nat) (k : ByteArray) (v : Value) (w : World) (h : ∀ w, (Instr.findKey 9 (.string k) waysE.toList).run Try.prog w = .ok (some (i, v)) w) :
    (Instr.lookup 46 (.map (some w.heap.size)) (.string k) true).run Try.prog (w.alloc (.map waysE 5)) = .ok (.tuple #[v, .bool true]) (w.alloc (.map waysE 5)) :=
  run_lookup_at Try.underlying46 (heap_alloc_at _ _) (i := i) (fun _ => by kernel_rfl) h true

theorem do_add (a b : Int) (w : World) : Calls Try.prog 14 #[.string ⟨#[43]⟩, .int .i64 a, .int .i64 b] w (Res2 (wrap64 (a + b), 0) w) := by
  have hl := look_of 0 ⟨#[43]⟩ (.agg #[.func (.func 26) #[] #[], .bool false]) w (fun _ => by kernel_rfl)
  go_enter Try.func14, Try.ntmps14
  go_wp2_with (first | (go_at_call 24; refine (ways_any _).mono ?_; rintro e w' ⟨rfl, rfl⟩) | go_in)
  go_ret2
  exact ⟨rfl, below_two _ _ _⟩
theorem do_sub (a b : Int) (w : World) : Calls Try.prog 14 #[.string ⟨#[45]⟩, .int .i64 a, .int .i64 b] w (Res2 (wrap64 (a - b), 0) w) := by
  have hl := look_of 1 ⟨#[45]⟩ (.agg #[.func (.func 27) #[] #[], .bool false]) w (fun _ => by kernel_rfl)
  go_enter Try.func14, Try.ntmps14
  go_wp2_with (first | (go_at_call 24; refine (ways_any _).mono ?_; rintro e w' ⟨rfl, rfl⟩) | go_in)
  go_ret2
  exact ⟨rfl, below_two _ _ _⟩
theorem do_mul (a b : Int) (w : World) : Calls Try.prog 14 #[.string ⟨#[42]⟩, .int .i64 a, .int .i64 b] w (Res2 (wrap64 (a * b), 0) w) := by
  have hl := look_of 2 ⟨#[42]⟩ (.agg #[.func (.func 28) #[] #[], .bool false]) w (fun _ => by kernel_rfl)
  go_enter Try.func14, Try.ntmps14
  go_wp2_with (first | (go_at_call 24; refine (ways_any _).mono ?_; rintro e w' ⟨rfl, rfl⟩) | go_in)
  go_ret2
  exact ⟨rfl, below_two _ _ _⟩
theorem do_quo (a b : Int) (w : World) (hb : (b == 0) = false) : Calls Try.prog 14 #[.string ⟨#[47]⟩, .int .i64 a, .int .i64 b] w (Res2 (wrap64 (a.tdiv b), 0) w) := by
  have hl := look_of 3 ⟨#[47]⟩ (.agg #[.func (.func 29) #[] #[], .bool true]) w (fun _ => by kernel_rfl)
  have hb' : ¬ b = 0 := by simpa using hb
  go_enter Try.func14, Try.ntmps14
  go_wp2_with (first | (go_at_call 24; refine (ways_any _).mono ?_; rintro e w' ⟨rfl, rfl⟩) | go_in)
  go_ret2
  exact ⟨rfl, below_two _ _ _⟩
theorem do_rem (a b : Int) (w : World) (hb : (b == 0) = false) : Calls Try.prog 14 #[.string ⟨#[37]⟩, .int .i64 a, .int .i64 b] w (Res2 (a.tmod b, 0) w) := by
  have hl := look_of 4 ⟨#[37]⟩ (.agg #[.func (.func 30) #[] #[], .bool true]) w (fun _ => by kernel_rfl)
  have hb' : ¬ b = 0 := by simpa using hb
  go_enter Try.func14, Try.ntmps14
  go_wp2_with (first | (go_at_call 24; refine (ways_any _).mono ?_; rintro e w' ⟨rfl, rfl⟩) | go_in)
  go_ret2
  exact ⟨rfl, below_two _ _ _⟩
theorem do_quo0 (a : Int) (w : World) : Calls Try.prog 14 #[.string ⟨#[47]⟩, .int .i64 a, .int .i64 0] w (Res2 (0, 3) w) := by
  have hl := look_of 3 ⟨#[47]⟩ (.agg #[.func (.func 29) #[] #[], .bool true]) w (fun _ => by kernel_rfl)
  go_enter Try.func14, Try.ntmps14
  go_wp2_with (first | (go_at_call 24; refine (ways_any _).mono ?_; rintro e w' ⟨rfl, rfl⟩) | go_in)
  go_ret2
  exact ⟨rfl, below_two _ _ _⟩
theorem do_rem0 (a : Int) (w : World) : Calls Try.prog 14 #[.string ⟨#[37]⟩, .int .i64 a, .int .i64 0] w (Res2 (0, 3) w) := by
  have hl := look_of 4 ⟨#[37]⟩ (.agg #[.func (.func 30) #[] #[], .bool true]) w (fun _ => by kernel_rfl)
  go_enter Try.func14, Try.ntmps14
  go_wp2_with (first | (go_at_call 24; refine (ways_any _).mono ?_; rintro e w' ⟨rfl, rfl⟩) | go_in)
  go_ret2
  exact ⟨rfl, below_two _ _ _⟩
theorem do_none (s : ByteArray) (h1 : s ≠ ⟨#[43]⟩) (h2 : s ≠ ⟨#[45]⟩) (h3 : s ≠ ⟨#[42]⟩) (h4 : s ≠ ⟨#[47]⟩) (h5 : s ≠ ⟨#[37]⟩) (a b : Int) (w : World) :
    Calls Try.prog 14 #[.string s, .int .i64 a, .int .i64 b] w (Res2 (0, 2) w) := by
  have hfn : ∀ w, (Instr.findKey 9 (.string s) waysE.toList).run Try.prog w = .ok none w := by
    intro w
    simp [Instr.findKey, run_underlying Try.underlying9, Sem.run_bind, Result.andThen, waysE, Instr.findNow, Instr.sameNow, ba_ne h1, ba_ne h2, ba_ne h3, ba_ne h4, ba_ne h5]
  have hl : (Instr.lookup 46 (.map (some w.heap.size)) (.string s) true).run Try.prog (w.alloc (.map waysE 5)) = .ok (.tuple #[.agg #[.nilFunc, .bool false], .bool false]) (w.alloc (.map waysE 5)) :=
    run_lookup_none Try.underlying46 (heap_alloc_at _ _) (fun _ => by kernel_rfl) hfn (fun _ => by kernel_rfl) true
  clear hfn h1 h2 h3 h4 h5
  go_enter Try.func14, Try.ntmps14
  go_wp2_with (first | (go_at_call 24; refine (ways_any _).mono ?_; rintro e w' ⟨rfl, rfl⟩) | go_in)
  go_ret2
  exact ⟨rfl, below_two _ _ _⟩

theorem do_any (s : ByteArray) (a b : Int) (w : World) : Calls Try.prog 14 #[.string s, .int .i64 a, .int .i64 b] w (Res2 (doV s a b) w) := by
  unfold doV
  by_cases h1 : s = ⟨#[43]⟩
  · subst h1; rw [if_pos rfl]; exact do_add a b w
  · rw [if_neg h1]
    by_cases h2 : s = ⟨#[45]⟩
    · subst h2; rw [if_pos rfl]; exact do_sub a b w
    · rw [if_neg h2]
      by_cases h3 : s = ⟨#[42]⟩
      · subst h3; rw [if_pos rfl]; exact do_mul a b w
      · rw [if_neg h3]
        by_cases h4 : s = ⟨#[47]⟩
        · subst h4; rw [if_pos rfl]
          by_cases hb : b = 0
          · subst hb; rw [if_pos rfl]; exact do_quo0 a w
          · rw [if_neg hb]; exact do_quo a b w (by simpa using hb)
        · rw [if_neg h4]
          by_cases h5 : s = ⟨#[37]⟩
          · subst h5; rw [if_pos rfl]
            by_cases hb : b = 0
            · subst hb; rw [if_pos rfl]; exact do_rem0 a w
            · rw [if_neg hb]; exact do_rem a b w (by simpa using hb)
          · rw [if_neg h5]; exact do_none s h1 h2 h3 h4 h5 a b w
end Go.Proofs.Ytcdnmkcnagkkhaa
