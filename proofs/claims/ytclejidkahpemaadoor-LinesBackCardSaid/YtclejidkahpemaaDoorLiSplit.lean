/- strings.SplitSeq at a line feed, as an iterator. -/
import Derived.Test.YtclejidkahpemaaDoorLiCut
namespace Go.Proofs.YtclejidkahpemaaDoor
open Go.RowKit
set_option linter.unusedVariables false
set_option linter.unusedSimpArgs false
attribute [local irreducible] ByteArray.extract ByteArray.toList
attribute [local go_sem] Oper.semAt_some run_store_func run_store_nilFunc
abbrev splW (s : List UInt8) (w : World) : World := ((w.alloc (.cells #[.string (sOf s)] 9)).alloc (.cells #[.string ⟨#[10]⟩] 9)).alloc (.cells #[.int .i64 0] 3)
abbrev splF (n : Nat) : Value := .func (.func 54) #[] #[.pointer (some ⟨n + 1, 0, none⟩), .pointer (some ⟨n, 0, none⟩), .pointer (some ⟨n + 2, 0, none⟩)]
theorem splitSeq_any (s : List UInt8) (w : World) : Calls Tryd.prog 32 #[.string (sOf s), .string ⟨#[10]⟩] w fun e w' => e = .returned (splF w.heap.size) ∧ splW s w = w' := by
  have hmf : ∀ (fn : Fn) (first cap : Array Value) (w : World), (Instr.makeFunc fn first cap).run Tryd.prog w = .ok (.func fn first cap) w := fun _ _ _ _ => rfl
  have h1 : ∀ w, Calls Tryd.prog 44 #[.string (sOf s), .string ⟨#[10]⟩, .int .i64 0] w fun e w' => e = .returned (splF w.heap.size) ∧ splW s w = w' := by
    intro w
    go_enter Tryd.func44, Tryd.ntmps44
    go_wp2_with fail
    go_ret
    exact ⟨rfl, rfl⟩
  have H1 := Lib.hid h1
  clear h1
  go_enter Tryd.func32, Tryd.ntmps32
  go_wp2_with fail
  refine (H1.out _).mono ?_
  rintro e w1 ⟨rfl, rfl⟩
  go_wp2_with fail
  go_ret
  exact ⟨rfl, rfl⟩
/-- What is left of the text. -/
def meaS (B : Nat) (wr : World) : Nat := match wr.cell? ⟨B, 0, none⟩ with | some (.string s) => s.size | _ => 0
theorem meaS_eq {B : Nat} {wr : World} {s : ByteArray} (h : wr.cell? ⟨B, 0, none⟩ = some (.string s)) : meaS B wr = s.size := by unfold meaS; rw [h]
theorem drop_at2 {α : Type} {l : List α} {i : Nat} {x : α} {t : List α} (h : l.drop i = x :: t) : ∃ hi : i < l.length, l[i] = x ∧ l.drop (i + 1) = t := drop_at h
set_option maxRecDepth 100000 in
set_option maxHeartbeats 1600000 in
theorem split_iter (s : List UInt8) (hs : s.length ≤ 140737488351232) (B : Nat) (w0 : World) (hB : B + 2 < w0.heap.size) (hc : w0.cell? ⟨B, 0, none⟩ = some (.string (sOf s))) (hf : w0.frozen? ⟨B, 0, none⟩ = false) (hc1 : w0.cell? ⟨B + 1, 0, none⟩ = some (.string ⟨#[10]⟩)) (hc2 : w0.cell? ⟨B + 2, 0, none⟩ = some (.int .i64 0)) :
    IterC Tryd.prog 54 #[.pointer (some ⟨B + 1, 0, none⟩), .pointer (some ⟨B, 0, none⟩), .pointer (some ⟨B + 2, 0, none⟩)] (splitN s) (fun l => #[.string (sOf l)]) (· = B) (fun b => b = B + 1 ∨ b = B + 2) w0 := by
  intro k l J Jx W hW hkeep hJ hJx hY h0
  have keep : ∀ (A : World), (∀ b, (b = B + 1 ∨ b = B + 2) → A.heap[b]? = w0.heap[b]?) → A.cell? ⟨B + 1, 0, none⟩ = some (.string ⟨#[10]⟩) ∧ A.cell? ⟨B + 2, 0, none⟩ = some (.int .i64 0) := fun A h =>
    ⟨(World.cell?_of_block (w := w0) (h (B + 1) (.inl rfl))).trans hc1, (World.cell?_of_block (w := w0) (h (B + 2) (.inr rfl))).trans hc2⟩
  have Kp := Lib.hid keep
  have hWB : W.heap[B]? = w0.heap[B]? := hkeep B (.inl rfl)
  have hcW : W.cell? ⟨B, 0, none⟩ = some (.string (sOf s)) := (World.cell?_of_block (w := w0) hWB).trans hc
  have hfW : W.frozen? ⟨B, 0, none⟩ = false := (World.frozen?_of_block (w := w0) hWB).trans hf
  have hk2 : ∀ b, (b = B + 1 ∨ b = B + 2) → W.heap[b]? = w0.heap[b]? := fun b h => hkeep b (.inr h)
  obtain ⟨p1, p2⟩ := Kp.out W hk2
  have HI : Hid (∀ (r : List UInt8) (l n : Nat) (A : World), CallsIn (Fence.wide) n Tryd.prog 55 #[.string (sOf r), .string ⟨#[10]⟩] A (RetQ (.int .i64 (ixB r 10)) A)) := Lib.hid fun r l n A => (callsIn_wide (n := n)).2 (six_any r 10 A)
  have HK0 := Lib.hid (And.intro hcW (And.intro hfW hk2))
  clear hc hf hc1 hc2 hkeep keep hWB hcW hfW hk2
  refine callsIn_of_wp Tryd.func54 rfl trivial ?_
  simp only [Tryd.ntmps54, List.size_toArray, List.length_cons, List.length_nil, Nat.reduceAdd, Nat.reduceSub, Array.replicate_succ, Array.replicate_zero, List.push_toArray, List.append_toArray, List.nil_append, List.cons_append]
  gi_wp2
  gi_loopw [] (fun wr => ∃ (i : Nat) (r : List UInt8), J i wr ∧ Hid ((splitN s).drop i = splitN r) ∧ r.length ≤ s.length ∧ wr.cell? ⟨B, 0, none⟩ = some (.string (sOf r)) ∧ wr.frozen? ⟨B, 0, none⟩ = false ∧ (∀ b, (b = B + 1 ∨ b = B + 2) → wr.heap[b]? = w0.heap[b]?)) (fun wr => meaS B wr)
  case atStart => exact ⟨0, s, h0, Lib.hid (by rw [List.drop_zero]), Nat.le_refl _, HK0.out.1, HK0.out.2.1, HK0.out.2.2⟩
  case round =>
    clear p1 p2
    obtain ⟨i, r, hj, HD, hrl, hcr, hfr, hk⟩ := hrel
    obtain ⟨p1, p2⟩ := Kp.out wr hk
    have hrs : (sOf r).size = r.length := sOf_size r
    have HIr := Lib.hid (HI.out r)
    by_cases hlt : (cutL r 10).length < r.length
    · have hix : ixB r 10 = ((cutL r 10).length : Int) := if_pos hlt
      have hst := splitN_step r
      rw [show (r.takeWhile fun c => c != 10) = cutL r 10 from rfl, if_pos hlt] at hst
      have hd := HD.out
      rw [hst] at hd
      obtain ⟨hi, hxi, hdi⟩ := drop_at hd
      obtain ⟨fn, tmps, assign, body, hy, hR⟩ := hY i hi wr hj
      have ex : sOf (splitN s)[i] = (sOf r).extract 0 (cutL r 10).length := by rw [hxi, sOf_take, take_cut]
      have ed : (sOf r).extract ((cutL r 10).length + 1) (sOf r).size = sOf (r.drop ((cutL r 10).length + 1)) := sOf_drop _ _ _ (by rw [sOf_size]; exact Nat.le_refl _)
      rw [ex] at hy
      rw [hix] at HIr
      have HDi := Lib.hid hdi
      have HEd := Lib.hid ed
      clear hst hd hxi hdi ex ed hix
      obtain ⟨j, hjj⟩ : ∃ j, j = (cutL r 10).length := ⟨_, rfl⟩
      rw [← hjj] at hy HIr HDi HEd hlt
      clear hjj
      have hw0 : IntKind.i64.wrap ((j : Int) + 0) = (j : Int) := by rw [Int.add_zero]; exact IntWalk.i64_in _ (by omega)
      have hw1 : IntKind.i64.wrap ((j : Int) + 1) = (j : Int) + 1 := IntWalk.i64_in _ (by omega)
      have hj1 : (j : Int) ≤ ((sOf r).size : Int) := by omega
      have hj2 : (j : Int) + 1 ≤ ((sOf r).size : Int) := by omega
      clear hrs
      gi_wp2
      refine ⟨trivial, (fun h => nomatch h), (HIr.out 0 _ _).mono ?_⟩
      rintro e w' ⟨rfl, rfl⟩
      clear HIr HI
      gi_wp2
      refine ⟨(fun h => nomatch h), hR.mono ?_⟩
      clear hR hy
      intro e W3 hpost
      obtain ⟨hs3, hk3, hpost⟩ := hpost
      rcases hpost with ⟨rfl, hJ3⟩ | ⟨rfl, hJx3⟩
      · have hb3 : W3.heap[B]? = wr.heap[B]? := hk3 B (.inl rfl)
        have hc3 : W3.cell? ⟨B, 0, none⟩ = some (.string (sOf r)) := (World.cell?_of_block (w := wr) hb3).trans hcr
        have hf3 : W3.frozen? ⟨B, 0, none⟩ = false := (World.frozen?_of_block (w := wr) hb3).trans hfr
        have q1 : W3.cell? ⟨B + 1, 0, none⟩ = some (.string ⟨#[10]⟩) := (World.cell?_of_block (w := wr) (hk3 (B + 1) (.inr (.inl rfl)))).trans p1
        have hsetc : (W3.setCell ⟨B, 0, none⟩ (.string ((sOf r).extract (j + 1) (sOf r).size))).cell? ⟨B, 0, none⟩ = some (.string ((sOf r).extract (j + 1) (sOf r).size)) := World.cell?_setCell_same' _ _ _ (by rw [hc3]; rfl)
        have hsetf : (W3.setCell ⟨B, 0, none⟩ (.string ((sOf r).extract (j + 1) (sOf r).size))).frozen? ⟨B, 0, none⟩ = false := by rw [World.frozen?_setCell]; exact hf3
        have hO := Only.setCell (S := (· = B)) W3 ⟨B, 0, none⟩ (.string ((sOf r).extract (j + 1) (sOf r).size)) rfl
        have hJ4 := hJ _ _ _ hJ3 hO
        have hk4 : ∀ b, (b = B + 1 ∨ b = B + 2) → (W3.setCell ⟨B, 0, none⟩ (.string ((sOf r).extract (j + 1) (sOf r).size))).heap[b]? = w0.heap[b]? := fun b hb => by
          rw [Below.heap_setCell _ _ _ _ (by show b ≠ B; omega)]
          exact (hk3 b (.inr hb)).trans (hk b hb)
        have HZ := Lib.hid (And.intro hJ4 (And.intro hsetc (And.intro hsetf hk4)))
        have hmr := meaS_eq hcr
        have HMr := Lib.hid hmr
        have HMs := Lib.hid (meaS_eq hsetc)
        clear hb3 hcr hfr p1 p2 hJ4 hsetc hsetf hk4 hO hmr hk3
        gi_wp2
        refine ⟨⟨i + 1, r.drop (j + 1), HZ.out.1, HDi, by rw [List.length_drop]; omega, by rw [← HEd.out]; exact HZ.out.2.1, HZ.out.2.2.1, HZ.out.2.2.2⟩, ?_⟩
        rw [HMs.out, HMr.out, HEd.out, sOf_size, sOf_size, List.length_drop]
        omega
      · gi_wp2
        refine bodyPost_ret (results_none rfl _ _ _) rfl ?_
        exact ⟨⟨_, rfl⟩, .inr ⟨i + 1, by omega, hJx3⟩⟩
    · have hix : ixB r 10 = -1 := if_neg hlt
      have hst := splitN_step r
      rw [show (r.takeWhile fun c => c != 10) = cutL r 10 from rfl, if_neg hlt, (cut_all hlt).1] at hst
      have hd := HD.out
      rw [hst] at hd
      obtain ⟨hi, hxi, hdi⟩ := drop_at hd
      obtain ⟨fn, tmps, assign, body, hy, hR⟩ := hY i hi wr hj
      rw [hxi] at hy
      rw [hix] at HIr
      have hlast : i + 1 = (splitN s).length := by
        have := List.drop_eq_nil_iff.1 hdi
        omega
      have HLa := Lib.hid hlast
      clear hst hd hxi hdi hix hlast
      gi_wp2
      refine ⟨trivial, (fun h => nomatch h), (HIr.out 0 _ _).mono ?_⟩
      rintro e w' ⟨rfl, rfl⟩
      clear HIr HI
      gi_wp2
      refine ⟨(fun h => nomatch h), hR.mono ?_⟩
      clear hR hy
      intro e W3 hpost
      obtain ⟨hs3, hk3, hpost⟩ := hpost
      rcases hpost with ⟨rfl, hJ3⟩ | ⟨rfl, hJx3⟩
      · clear p1 p2 hcr hfr
        gi_wp2
        go_end0
        exact ⟨⟨_, rfl⟩, .inl (by rw [← HLa.out]; exact hJ3)⟩
      · clear p1 p2 hcr hfr
        gi_wp2
        go_end0
        exact ⟨⟨_, rfl⟩, .inr ⟨i + 1, by omega, hJx3⟩⟩
end Go.Proofs.YtclejidkahpemaaDoor
