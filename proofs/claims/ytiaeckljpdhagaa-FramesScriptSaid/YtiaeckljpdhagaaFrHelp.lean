/- The laws' helpers: at, pops; values compared where they lie. -/
import Derived.Test.YtiaeckljpdhagaaFrModel
namespace Go.Proofs.Ytiaeckljpdhagaa
open Go.RowKit
set_option linter.unusedVariables false
set_option linter.unusedSimpArgs false
attribute [local go_sem] Oper.semAt_some run_store_func run_store_nilFunc
section
variable {N : Nat} {w0 W W' : World} {R : Thing} {p : Nat} {most : Int} {fr : List Cal}
theorem Lies.calm (h : Lies N w0 W R) (hb : Below W.heap.size W W') : Lies N w0 W' R := h.quiet (Only.of_below hb fun b hb hn => by omega)
/-- A row of ints that was just made. -/
theorem ints_new (W : World) (e : TypeId) (xs : List Int) (A : Array Value) (hA : A.toList = xs.map (Value.int .i64)) : Reads (W.alloc (.cells A e)) (W.alloc (.cells A e)).heap.size 1 (some ⟨W.heap.size, 0, none⟩) xs.length (xs.map (Value.int .i64)) :=
  ⟨by simp, fun _ => ⟨_, rfl, by simp, fun j u hu => by
    rw [Addr.add_lit, Nat.zero_add, (Blk.new W e A).cell j, ← hu, ← hA, Array.getElem?_toList]⟩⟩
theorem vi_inj {tag n bits : Int} {s : ByteArray} {lay : List (Bool × ByteArray × Int)} {m : Int} (h : (⟨tag, n, bits, s, lay⟩ : Val) = vi m) : tag = 1 ∧ n = m ∧ bits = 0 ∧ s = ⟨#[]⟩ ∧ lay = [] := by
  injection h with h1 h2 h3 h4 h5
  exact ⟨h1, h2, h3, h4, h5⟩
/-- An int out of those that of told. -/
theorem vi_at {xs : List Int} {y : Value} (H : Lies N w0 W (sepT (valsT (xs.map vi) y) R)) (i : Nat) (hi : i < xs.length) : ∃ b off n A c, y = .slice (some ⟨b, off, none⟩) xs.length n ∧
    (W.cell? ⟨b, off + i * 5, none⟩ = some (.int .i64 1) ∧ W.cell? ⟨b, off + i * 5 + 1, none⟩ = some (.int .i64 xs[i]) ∧ W.cell? ⟨b, off + i * 5 + 2, none⟩ = some (.int .u64 0) ∧ W.cell? ⟨b, off + i * 5 + 3, none⟩ = some (.string ⟨#[]⟩) ∧ W.cell? ⟨b, off + i * 5 + 4, none⟩ = some (.slice A 0 c)) ∧
    VIs W (vi xs[i]) (.agg #[.int .i64 1, .int .i64 xs[i], .int .u64 0, .string ⟨#[]⟩, .slice A 0 c]) := by
  obtain ⟨A, c, la, rfl, hla, hA⟩ := vals_arg H (by intro y hy; obtain ⟨n, _, rfl⟩ := List.mem_map.1 hy; exact vi_ok n)
  have hll : la.length = xs.length := by have := congrArg List.length hla; simpa using this
  obtain ⟨b, off, rfl⟩ := hA.2.1 (by omega)
  obtain ⟨tag, n, bits, s, lay, A1, c1, he, ⟨e0, e1, e2, e3, e4⟩, hv⟩ := rows_at hA i (by omega)
  have hev : (⟨tag, n, bits, s, lay⟩ : Val) = vi xs[i] := by
    have h := congrArg (fun z => z[i]?) hla
    simp [hi, show i < la.length by omega, he] at h
    exact h
  obtain ⟨rfl, rfl, rfl, rfl, rfl⟩ := vi_inj hev
  rw [hll]
  exact ⟨b, off, c, A1, c1, rfl, ⟨e0, e1, e2, e3, e4⟩, hv⟩
theorem sameVs_all {l m : List Val} {x y : Value} (H : Lies N w0 W (sepT (valsT l x) (sepT (valsT m y) R))) (hl : ∀ v ∈ l, v.ok) (hm : ∀ v ∈ m, v.ok) (hn : l.length ≤ 10000000) :
    Calls Try.prog 23 #[x, y] W fun e w' => e = .returned (.bool (decide (l = m))) ∧ Lies N w0 w' (sepT (valsT l x) (sepT (valsT m y) R)) := by
  obtain ⟨A, c, la, rfl, hla, hA⟩ := vals_arg H hl
  obtain ⟨B, d, lb, rfl, hlb, hB⟩ := vals_arg (H.turn (a' := sepT (valsT m y) (sepT (valsT l (.slice A la.length c)) R)) (by ac_rfl)) hm
  have hll : la.length = l.length := by rw [← hla, List.length_map]
  refine (sameVs_any la lb A B c d W hA hB (by omega)).mono ?_
  rintro e w' ⟨rfl, hb⟩
  rw [hla, hlb]
  exact ⟨rfl, H.calm hb⟩
theorem sameV_all {v u : Val} {x y : Value} (H : Lies N w0 W R) (hv : VIs W v x) (hu : VIs W u y) :
    Calls Try.prog 35 #[x, y] W fun e w' => e = .returned (.bool (decide (v = u))) ∧ Lies N w0 w' R := by
  refine (sameV_any v u x y W hv hu).mono ?_
  rintro e w' ⟨rfl, hb⟩
  exact ⟨rfl, H.calm hb⟩
theorem of_all (xs : List Int) (A : Option Addr) (c : Nat) (H : Lies N w0 W R) (hx : Reads W W.heap.size 1 A xs.length (xs.map (Value.int .i64))) (hn : xs.length ≤ 100000) :
    Calls Try.prog 11 #[.slice A xs.length c] W fun e w' => ∃ y, e = .returned y ∧ Lies N w0 w' (sepT (valsT (xs.map vi) y) R) :=
  (of_any xs A c H hx hn).mono fun e w' ⟨y, he, h, _⟩ => ⟨y, he, h⟩
set_option maxRecDepth 100000 in
theorem at_all (number place : Int) (H : Lies N w0 W (sepT (framesT p most fr) R)) : Calls Try.prog 15 #[.pointer (some ⟨p, 0, none⟩), .int .i64 number, .int .i64 place] W fun e w' => e = .returned (.bool (ftop fr 0 (·.number) == number && ftop fr 0 (·.place) == place)) ∧ Lies N w0 w' (sepT (framesT p most fr) R) := by
  have HC := Lib.hid (where_all H)
  generalize ftop fr 0 (·.number) = a at *
  generalize ftop fr 0 (·.place) = b at *
  clear H
  by_cases h1 : a = number
  · subst h1
    simp only [beq_self_eq_true, Bool.true_and]
    go_enter Try.func15, Try.ntmps15
    go_wp2_with fail
    refine HC.out.mono ?_
    rintro e w1 ⟨rfl, h⟩
    have HH := Lib.hid h
    clear h HC
    go_wp2
    go_ret
    exact ⟨rfl, HH.out⟩
  · have h2 : (a == number) = false := by simpa using h1
    rw [h2]
    simp only [Bool.false_and]
    go_enter Try.func15, Try.ntmps15
    go_wp2_with fail
    refine HC.out.mono ?_
    rintro e w1 ⟨rfl, h⟩
    have HH := Lib.hid h
    clear h HC
    go_wp2
    go_ret
    exact ⟨rfl, HH.out⟩
set_option maxRecDepth 100000 in
set_option maxHeartbeats 800000 in
theorem pops_all (n : Int) (H : Lies N w0 W (sepT (framesT p most fr) R)) : Calls Try.prog 17 #[.pointer (some ⟨p, 0, none⟩), .int .i64 n] W fun e w' => e = .returned (.bool (ftop fr 17 (·.takeE 1) == 0 && decide (ftop fr Val.zero Cal.popV = vi n))) ∧ Lies N w0 w' (sepT (framesT p most (fup fr (·.take 1))) R) := by
  have hok : (ftop fr Val.zero Cal.popV).ok := by
    have hk := frames_ok H
    rcases fr_cases fr with rfl | ⟨f, k, rfl⟩
    · exact zero_ok
    · rw [ftop_snoc]
      unfold Cal.popV Cal.taken
      split
      · rename_i h
        cases hd : k.stack.drop (k.stack.length - (1 : Int).toNat) with
        | nil => exact zero_ok
        | cons v l => exact (hk k (by simp)).2.2.2 v (List.mem_of_mem_drop (by rw [hd]; exact List.mem_cons_self ..))
      · exact zero_ok
  have HC := Lib.hid (pop_all H)
  generalize ftop fr 17 (·.takeE 1) = E at *
  generalize ftop fr Val.zero Cal.popV = u at *
  generalize fup fr (·.take 1) = fr2 at *
  have HO := Lib.hid hok
  clear H hok
  by_cases h1 : E = 0
  · subst h1
    simp only [beq_self_eq_true, Bool.true_and]
    go_enter Try.func17, Try.ntmps17
    go_wp2_with fail
    refine HC.out.mono ?_
    rintro e w1 ⟨x, rfl, h⟩
    obtain ⟨A, c, hx, h2⟩ := val_out h
    have hv := val_is h HO.out
    obtain ⟨tag, num, bits, s, lay⟩ := u
    simp only [Val.go] at *
    subst hx
    have HS : Hid (∀ w', Below w1.heap.size w1 w' → Calls Try.prog 35 #[.agg #[.int .i64 tag, .int .i64 num, .int .u64 bits, .string s, .slice A lay.length c], .agg #[.int .i64 1, .int .i64 n, .int .u64 0, .string ⟨#[]⟩, .slice none 0 0]] w' fun e w'' => e = .returned (.bool (decide ((⟨tag, num, bits, s, lay⟩ : Val) = vi n))) ∧ Lies N w0 w'' (sepT (framesT p most fr2) R)) :=
      Lib.hid fun w' hb => sameV_all (h2.drop.calm hb) (hv.quiet (Only.of_below hb fun b hb hn => by omega)) ⟨none, 0, rfl, Reads.none_, vi_ok n⟩
    have hb := (Below.refl w1.heap.size w1).alloc (Nat.le_refl _) (.cells #[.int .i64 tag, .int .i64 num, .int .u64 bits, .string s, .slice A lay.length c] 30)
    have HS2 := Lib.hid (HS.out _ hb)
    clear h h2 hv HC HS hb
    go_wp2_with fail
    refine HS2.out.mono ?_
    rintro e w2 ⟨rfl, h⟩
    have HH := Lib.hid h
    clear h HS2
    go_wp2
    go_ret
    exact ⟨rfl, HH.out⟩
  · have h2 : (E == 0) = false := by simpa using h1
    rw [h2]
    simp only [Bool.false_and]
    go_enter Try.func17, Try.ntmps17
    go_wp2_with fail
    refine HC.out.mono ?_
    rintro e w1 ⟨x, rfl, h⟩
    obtain ⟨A, c, hx, h3⟩ := val_out h
    obtain ⟨tag, num, bits, s, lay⟩ := u
    simp only [Val.go] at *
    subst hx
    have HH := Lib.hid (h3.drop.alloc (.cells #[.int .i64 tag, .int .i64 num, .int .u64 bits, .string s, .slice A lay.length c] 30))
    clear h h3 HC
    go_wp2
    go_ret
    exact ⟨rfl, HH.out⟩
end
end Go.Proofs.Ytiaeckljpdhagaa
