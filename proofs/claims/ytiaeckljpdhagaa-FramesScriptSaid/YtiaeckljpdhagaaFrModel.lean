/- What frames answer, whatever calls they have. -/
import Derived.Test.YtiaeckljpdhagaaFrFail
import Derived.Test.YtiaeckljpdhagaaFrOf
import Derived.Test.YtiaeckljpdhagaaFrCallM
import Derived.Test.YtiaeckljpdhagaaFrSet
import Derived.Test.YtiaeckljpdhagaaFrPop
import Derived.Test.YtiaeckljpdhagaaFrWhere
import Derived.Test.YtiaeckljpdhagaaFrLocal2
namespace Go.Proofs.Ytiaeckljpdhagaa
open Go.RowKit
set_option linter.unusedVariables false
set_option linter.unusedSimpArgs false
def ftop {α : Type} (fr : List Cal) (d : α) (f : Cal → α) : α := match fr.getLast? with | none => d | some k => f k
def fup (fr : List Cal) (f : Cal → Cal) : List Cal := match fr.getLast? with | none => fr | some k => fr.dropLast ++ [f k]
theorem ftop_nil {α : Type} (d : α) (f : Cal → α) : ftop [] d f = d := rfl
theorem ftop_snoc {α : Type} (fr : List Cal) (k : Cal) (d : α) (f : Cal → α) : ftop (fr ++ [k]) d f = f k := by simp [ftop]
theorem fup_nil (f : Cal → Cal) : fup [] f = [] := rfl
theorem fup_snoc (fr : List Cal) (k : Cal) (f : Cal → Cal) : fup (fr ++ [k]) f = fr ++ [f k] := by simp [fup]
def callE (most : Int) (fr : List Cal) (l : List Val) : Int := if most ≤ (fr.length : Int) then 11 else if 200 < l.length then 12 else 0
def fcall (most : Int) (fr : List Cal) (number : Int) (l : List Val) : List Cal := if callE most fr l = 0 then fr ++ [⟨number, 0, l, []⟩] else fr
section
variable {N : Nat} {w0 W : World} {R : Thing} {p : Nat} {most : Int} {fr : List Cal}
theorem empty_out (H : Lies N w0 W (sepT (framesT p most []) R)) : ∃ T S, IsFail 17 (some ⟨p, 0, none⟩) T ∧ Lies N w0 W (sepT T (sepT S R)) ∧ ∀ {W' : World} {R' : Thing}, Lies N w0 W' (sepT T (sepT S R')) → Lies N w0 W' (sepT (framesT p most []) R') := by
  obtain ⟨sl, cs, hl, hm, H1⟩ := frames_parts H
  obtain ⟨A, c, rfl, _⟩ := own_form H1.drop.row
  obtain rfl : cs = [] := List.length_eq_zero_iff.1 (by simpa using hl)
  refine ⟨_, rowT 78 1 (.slice A 0 c) 0 [], .empty p c A most (by simp; omega), H1.turn ?_, fun {W' R'} h2 => frames_whole (sl := .slice A 0 c) (cs := []) rfl hm (h2.turn ?_)⟩
  · show sepT (blkT p 71 #[.slice A 0 c, .int .i64 most]) (sepT (rowT 78 1 (.slice A 0 c) 0 []) (sepT empT R)) = _
    rw [empT_sep]
  · show _ = sepT (blkT p 71 #[.slice A 0 c, .int .i64 most]) (sepT (rowT 78 1 (.slice A 0 c) 0 []) (sepT empT R'))
    rw [empT_sep]
theorem frames_ok {fr : List Cal} (H : Lies N w0 W (sepT (framesT p most fr) R)) : ∀ k ∈ fr, k.ok := by
  obtain ⟨sl, cs, hl, hm, H1⟩ := frames_parts H
  intro k hk
  obtain ⟨i, hi, rfl⟩ := List.mem_iff_getElem.1 hk
  obtain ⟨S, hS⟩ := callsT_pick (cs := cs) (ks := fr) i (by omega) hi
  obtain ⟨_, _, _, _, h, _⟩ := call_parts (H1.drop.drop.turn (a' := sepT (callT cs[i] fr[i]) (sepT S R)) (by rw [hS]; ac_rfl))
  exact h.1
theorem fr_cases (fr : List Cal) : fr = [] ∨ ∃ f k, fr = f ++ [k] := by
  rcases List.eq_nil_or_concat fr with h | ⟨a, b, h⟩
  · exact .inl h
  · exact .inr ⟨a, b, by rw [h]; simp⟩
theorem return_all (H : Lies N w0 W (sepT (framesT p most fr) R)) : Calls Try.prog 16 #[.pointer (some ⟨p, 0, none⟩)] W fun e w' => e = .returned (.int .i64 (ftop fr 17 fun _ => 0)) ∧ Lies N w0 w' (sepT (framesT p most fr.dropLast) R) := by
  rcases fr_cases fr with rfl | ⟨f, k, rfl⟩
  · obtain ⟨T, S, hT, h, hb⟩ := empty_out H
    exact (return_fail hT h).mono fun e w' ⟨he, h'⟩ => ⟨he, hb h'⟩
  · rw [ftop_snoc, List.dropLast_concat]
    exact return_any H
theorem push_all (v : Val) (x : Value) (H : Lies N w0 W (sepT (framesT p most fr) R)) (hv : VIs W v x) : Calls Try.prog 21 #[.pointer (some ⟨p, 0, none⟩), x] W fun e w' => e = .returned (.int .i64 (ftop fr 17 pushE)) ∧ Lies N w0 w' (sepT (framesT p most (fup fr (·.push v))) R) := by
  obtain ⟨A, c, rfl, hr, hk⟩ := hv
  rcases fr_cases fr with rfl | ⟨f, k, rfl⟩
  · obtain ⟨T, S, hT, h, hb⟩ := empty_out H
    exact (push_fail hT v A c h).mono fun e w' ⟨he, h'⟩ => ⟨he, hb h'⟩
  · rw [ftop_snoc, fup_snoc]
    exact push_any v _ H ⟨A, c, rfl, hr, hk⟩
theorem take_all (n : Int) (H : Lies N w0 W (sepT (framesT p most fr) R)) : Calls Try.prog 22 #[.pointer (some ⟨p, 0, none⟩), .int .i64 n] W fun e w' => ∃ y, e = .returned (.tuple #[y, .int .i64 (ftop fr 17 (·.takeE n))]) ∧ Lies N w0 w' (sepT (valsT (ftop fr [] (·.taken n)) y) (sepT (framesT p most (fup fr (·.take n))) R)) := by
  rcases fr_cases fr with rfl | ⟨f, k, rfl⟩
  · obtain ⟨T, S, hT, h, hb⟩ := empty_out H
    exact (take_fail hT n h).mono fun e w' ⟨he, h'⟩ => ⟨_, he, vals_nil (hb h')⟩
  · rw [ftop_snoc, fup_snoc, ftop_snoc]
    exact take_any n H
theorem pop_all (H : Lies N w0 W (sepT (framesT p most fr) R)) : Calls Try.prog 14 #[.pointer (some ⟨p, 0, none⟩)] W fun e w' => ∃ x, e = .returned (.tuple #[x, .int .i64 (ftop fr 17 (·.takeE 1))]) ∧ Lies N w0 w' (sepT (valT (ftop fr Val.zero Cal.popV) x) (sepT (framesT p most (fup fr (·.take 1))) R)) := by
  rcases fr_cases fr with rfl | ⟨f, k, rfl⟩
  · obtain ⟨T, S, hT, h, hb⟩ := empty_out H
    exact (pop_fail hT h).mono fun e w' ⟨he, h'⟩ => ⟨_, he, zero_in (hb h')⟩
  · rw [ftop_snoc, fup_snoc, ftop_snoc]
    exact pop_any (frames_ok H k (by simp)).2.2.2 H
theorem local_all (i : Int) (H : Lies N w0 W (sepT (framesT p most fr) R)) : Calls Try.prog 12 #[.pointer (some ⟨p, 0, none⟩), .int .i64 i] W fun e w' => ∃ x, e = .returned (.tuple #[x, .int .i64 (ftop fr 17 (·.localE i))]) ∧ Lies N w0 w' (sepT (valT (ftop fr Val.zero (·.localV i)) x) (sepT (framesT p most fr) R)) := by
  rcases fr_cases fr with rfl | ⟨f, k, rfl⟩
  · obtain ⟨T, S, hT, h, hb⟩ := empty_out H
    exact (local_fail hT i h).mono fun e w' ⟨he, h'⟩ => ⟨_, he, zero_in (hb h')⟩
  · rw [ftop_snoc, ftop_snoc]
    exact local_any i H
theorem set_all (i : Int) (v : Val) (x : Value) (H : Lies N w0 W (sepT (framesT p most fr) R)) (hv : VIs W v x) : Calls Try.prog 10 #[.pointer (some ⟨p, 0, none⟩), .int .i64 i, x] W fun e w' => e = .returned (.int .i64 (ftop fr 17 (·.localE i))) ∧ Lies N w0 w' (sepT (framesT p most (fup fr (·.set i v))) R) := by
  obtain ⟨A, c, rfl, hr, hk⟩ := hv
  rcases fr_cases fr with rfl | ⟨f, k, rfl⟩
  · obtain ⟨T, S, hT, h, hb⟩ := empty_out H
    exact (set_fail hT i v A c h).mono fun e w' ⟨he, h'⟩ => ⟨he, hb h'⟩
  · rw [ftop_snoc, fup_snoc]
    exact set_any i v H ⟨A, c, rfl, hr, hk⟩
theorem jump_all (place : Int) (H : Lies N w0 W (sepT (framesT p most fr) R)) : Calls Try.prog 9 #[.pointer (some ⟨p, 0, none⟩), .int .i64 place] W fun e w' => e = .returned (.int .i64 (ftop fr 17 fun _ => jumpE place)) ∧ Lies N w0 w' (sepT (framesT p most (fup fr (·.jump place))) R) := by
  rcases fr_cases fr with rfl | ⟨f, k, rfl⟩
  · obtain ⟨T, S, hT, h, hb⟩ := empty_out H
    exact (jump_fail hT place h).mono fun e w' ⟨he, h'⟩ => ⟨he, hb h'⟩
  · rw [ftop_snoc, fup_snoc]
    exact jump_any place H
theorem where_all (H : Lies N w0 W (sepT (framesT p most fr) R)) : Calls Try.prog 28 #[.pointer (some ⟨p, 0, none⟩)] W fun e w' => e = .returned (.tuple #[.int .i64 (ftop fr 0 (·.number)), .int .i64 (ftop fr 0 (·.place))]) ∧ Lies N w0 w' (sepT (framesT p most fr) R) := by
  rcases fr_cases fr with rfl | ⟨f, k, rfl⟩
  · obtain ⟨T, S, hT, h, hb⟩ := empty_out H
    exact (where_fail hT h).mono fun e w' ⟨he, h'⟩ => ⟨he, hb h'⟩
  · rw [ftop_snoc, ftop_snoc]
    exact where_any H
theorem height_all (H : Lies N w0 W (sepT (framesT p most fr) R)) : Calls Try.prog 24 #[.pointer (some ⟨p, 0, none⟩)] W fun e w' => e = .returned (.int .i64 (ftop fr 0 fun k => (k.stack.length : Int))) ∧ Lies N w0 w' (sepT (framesT p most fr) R) := by
  rcases fr_cases fr with rfl | ⟨f, k, rfl⟩
  · obtain ⟨T, S, hT, h, hb⟩ := empty_out H
    exact (height_fail hT h).mono fun e w' ⟨he, h'⟩ => ⟨he, hb h'⟩
  · rw [ftop_snoc]
    exact height_any H
theorem call_all (number : Int) (l : List AV) (A : Option Addr) (c : Nat) (H : Lies N w0 W (sepT (framesT p most fr) R)) (ha : l.length ≤ 200 → ArgRow W l A) (hlo : l.length ≤ 200 → ∀ y ∈ l, y.1.ok) :
    Calls Try.prog 13 #[.pointer (some ⟨p, 0, none⟩), .int .i64 number, .slice A l.length c] W fun e w' => e = .returned (.int .i64 (callE most fr (l.map (·.1)))) ∧ Lies N w0 w' (sepT (framesT p most (fcall most fr number (l.map (·.1)))) R) := by
  by_cases h1 : most ≤ (fr.length : Int)
  · have e1 : callE most fr (l.map (·.1)) = 11 := if_pos h1
    rw [fcall, e1, if_neg (by decide)]
    exact call_deep number _ H h1
  · by_cases h2 : 200 < l.length
    · have e1 : callE most fr (l.map (·.1)) = 12 := by unfold callE; rw [if_neg h1, if_pos (by rw [List.length_map]; exact h2)]
      rw [fcall, e1, if_neg (by decide)]
      exact call_many number A _ c H (by omega) h2
    · have e1 : callE most fr (l.map (·.1)) = 0 := by unfold callE; rw [if_neg h1, if_neg (by rw [List.length_map]; exact h2)]
      rw [fcall, e1, if_pos rfl]
      exact call_good number l A c H (by omega) (by omega) (ha (by omega)) (hlo (by omega))
end
end Go.Proofs.Ytiaeckljpdhagaa
