/- Values, calls and frames as things; none, own. -/
import Derived.Test.YtiaeckljpdhagaaFrClone
namespace Go.Proofs.Ytiaeckljpdhagaa
open Go.RowKit
attribute [local go_sem] Oper.semAt_some run_store_func run_store_nilFunc

/-- A value, as the chapters have it. -/
structure Val where
  tag : Int
  n : Int
  bits : Int
  s : ByteArray
  lay : List (Bool × ByteArray × Int)
  deriving DecidableEq
def layV (l : List (Bool × ByteArray × Int)) : List Value := l.flatMap fun x => [.bool x.1, .string x.2.1, .int .i64 x.2.2]
theorem layV_len (l : List (Bool × ByteArray × Int)) : (layV l).length = l.length * 3 := by
  induction l with
  | nil => rfl
  | cons x l ih => simp only [layV, List.flatMap_cons, List.length_append, List.length_cons, List.length_nil] at ih ⊢; rw [ih]; omega
theorem layV_one (l : List (Bool × ByteArray × Int)) : ∀ u ∈ layV l, u.oneCell' = true := by
  intro u hu
  obtain ⟨x, _, hx⟩ := List.mem_flatMap.1 hu
  simp at hx
  rcases hx with rfl | rfl | rfl <;> rfl
/-- The value in Go, its chain there. -/
def Val.go (v : Val) (ch : Value) : Value := .agg #[.int .i64 v.tag, .int .i64 v.n, .int .u64 v.bits, .string v.s, ch]
def Val.cs (v : Val) (ch : Value) : List Value := [.int .i64 v.tag, .int .i64 v.n, .int .u64 v.bits, .string v.s, ch]
def Val.ok (v : Val) : Prop := v.lay.length ≤ 1000000
abbrev AV := Val × Value
def avV (l : List AV) : List Value := l.flatMap fun x => x.1.cs x.2
theorem avV_len (l : List AV) : (avV l).length = l.length * 5 := by
  induction l with
  | nil => rfl
  | cons x l ih => simp only [avV, List.flatMap_cons, List.length_append, Val.cs, List.length_cons, List.length_nil] at ih ⊢; rw [ih]; omega
theorem avV_app (a b : List AV) : avV (a ++ b) = avV a ++ avV b := List.flatMap_append
/-- A chain of the owner's own. -/
def chainT (v : Val) (ch : Value) : Thing := rowT 104 3 ch v.lay.length (layV v.lay)
def chainsT : List AV → Thing
  | [] => empT
  | x :: l => sepT (chainT x.1 x.2) (chainsT l)
theorem chainsT_app (a b : List AV) : chainsT (a ++ b) = sepT (chainsT a) (chainsT b) := by
  induction a with
  | nil => rw [List.nil_append, chainsT, empT_sep]
  | cons x a ih => rw [List.cons_append, chainsT, chainsT, ih, sepT_assoc]
/-- A row of values with their chains. -/
def rowsT (sl : Value) (l : List AV) : Thing := sepT (rowT 30 5 sl l.length (avV l)) (chainsT l)
/-- A call: number, place, locals, stack. -/
structure Cal where
  number : Int
  place : Int
  locals : List Val
  stack : List Val
def Cal.ok (k : Cal) : Prop := k.locals.length ≤ 200 ∧ k.stack.length ≤ 5000 ∧ (∀ v ∈ k.locals, v.ok) ∧ ∀ v ∈ k.stack, v.ok
def callT (c : Nat) (k : Cal) : Thing := someT fun x : (Value × Value) × List AV × List AV => sepT (factT (k.ok ∧ x.2.1.map (·.1) = k.locals ∧ x.2.2.map (·.1) = k.stack))
  (sepT (blkT c 82 #[x.1.1, .int .i64 k.number, .int .i64 k.place, x.1.2]) (sepT (rowsT x.1.2 x.2.1) (rowsT x.1.1 x.2.2)))
def callsT : List Nat → List Cal → Thing
  | c :: cs, k :: ks => sepT (callT c k) (callsT cs ks)
  | _, _ => empT
def ptrV (c : Nat) : Value := .pointer (some ⟨c, 0, none⟩)
/-- Frames: most, and the calls, the one on top last. -/
def framesT (p : Nat) (most : Int) (fr : List Cal) : Thing := someT fun x : Value × List Nat => sepT (factT (x.2.length = fr.length ∧ 1 ≤ most ∧ most ≤ 200 ∧ (fr.length : Int) ≤ most))
  (sepT (blkT p 71 #[x.1, .int .i64 most]) (sepT (rowT 78 1 x.1 fr.length (x.2.map ptrV)) (callsT x.2 fr)))
theorem callsT_snoc : ∀ {cs : List Nat} {ks : List Cal} {c : Nat} {k : Cal}, cs.length = ks.length → callsT (cs ++ [c]) (ks ++ [k]) = sepT (callT c k) (callsT cs ks)
  | [], [], _, _, _ => rfl
  | d :: cs, j :: ks, c, k, h => by
    rw [List.cons_append, List.cons_append, callsT, callsT, callsT_snoc (by simpa using h)]
    ac_rfl
/-- What is handed in: it reads as this value. -/
def VIs (W : World) (v : Val) (x : Value) : Prop := ∃ A c, x = v.go (.slice A v.lay.length c) ∧ Reads W W.heap.size 3 A v.lay.length (layV v.lay) ∧ v.ok
theorem VIs.quiet {W W' : World} {v : Val} {x : Value} (h : VIs W v x) (ho : Only (fun _ => False) W W') : VIs W' v x := by
  obtain ⟨A, c, e, hr, hk⟩ := h
  exact ⟨A, c, e, (hr.keep fun p hp => ho.cell hp (fun x => x)).more ho.size, hk⟩
theorem rowT_at {W : World} {e : TypeId} {size n : Nat} {v : Value} {xs : List Value} {b : Nat} (h : W.ownsRow b e size v n xs) : (rowT e size v n xs).at_ W (fun g => some g = v.ownBlock) := ⟨h.mono (Nat.zero_le _), rfl⟩
/-- A new row beside all else. -/
theorem Lies.newRow {N : Nat} {w0 W W' : World} {R : Thing} (h : Lies N w0 W R) {e : TypeId} {size n : Nat} {v : Value} {xs : List Value} (ho : W'.ownsRow W.heap.size e size v n xs) (hb : Below W.heap.size W W') : Lies N w0 W' (sepT (rowT e size v n xs) R) :=
  h.add _ (Only.of_below hb fun b hb hn => by omega) ⟨_, rowT_at ho, fun b hb' => (World.ownsRow.lt ho b hb'.symm).1⟩

theorem none_nil (w : World) : Calls Try.prog 42 #[.pointer none] w fun e w' => e = .returned (.bool true) ∧ w = w' := by
  go_enter Try.func42, Try.ntmps42
  go_wp2
  go_ret
  exact ⟨rfl, rfl⟩
theorem none_at (p : Nat) (most : Int) (w : World) (h : w.cell? ⟨p, 1, none⟩ = some (.int .i64 most)) : Calls Try.prog 42 #[.pointer (some ⟨p, 0, none⟩)] w fun e w' => e = .returned (.bool (most == 0)) ∧ w = w' := by
  go_enter Try.func42, Try.ntmps42
  go_wp2
  go_ret
  exact ⟨rfl, rfl⟩
theorem own_any (v : Val) (x : Value) (w : World) (h : VIs w v x) :
    Calls Try.prog 39 #[x] w fun e w' => ∃ ch, e = .returned (v.go ch) ∧ w'.ownsRow w.heap.size 104 3 ch v.lay.length (layV v.lay) ∧ Below w.heap.size w w' := by
  obtain ⟨A, c, rfl, hr, hk⟩ := h
  unfold Val.ok at hk
  obtain ⟨tag, n, bits, s, lay⟩ := v
  simp only [Val.go] at *
  have Hr := Lib.hid ((((hr.alloc (Nat.le_refl _) (.cells #[.int .i64 tag, .int .i64 n, .int .u64 bits, .string s, .slice A lay.length c] 30)).more (Nat.le_succ _)).alloc (by simp) (.cells #[.int .i64 0, .int .i64 0, .int .u64 0, .string ⟨#[]⟩, .slice none 0 0] 30)).more (B' := w.heap.size + 2) (by omega))
  clear hr
  go_enter Try.func39, Try.ntmps39
  go_wp2_with fail
  refine (cloneL_any A lay.length c (layV lay) _ (by simpa using Hr.out) (layV_one _) hk).mono ?_
  rintro e w1 ⟨A', c', rfl, hown, hb⟩
  have b0 := Blk.below ((Blk.new w 30 #[.int .i64 tag, .int .i64 n, .int .u64 bits, .string s, .slice A lay.length c]).alloc _) hb (by simp; try omega)
  have b1 := Blk.below (Blk.new (w.alloc _) 30 #[.int .i64 0, .int .i64 0, .int .u64 0, .string ⟨#[]⟩, .slice none 0 0]) hb (by simp; try omega)
  simp at b1
  have c0 := b0.cell 0
  have c1 := b0.cell 1
  have c2 := b0.cell 2
  have c3 := b0.cell 3
  have c4 := b0.cell 4
  have f0 := b0.frozen
  have d0 := b1.cell 0
  have d1 := b1.cell 1
  have d2 := b1.cell 2
  have d3 := b1.cell 3
  have d4 := b1.cell 4
  have f1 := b1.frozen
  simp at c0 c1 c2 c3 c4 d0 d1 d2 d3 d4
  have HO := Lib.hid hown
  have HB := Lib.hid hb
  have B1 := Lib.hid b1
  clear hown hb b0 b1 Hr
  go_wp2
  have hz := HB.out.size
  simp at hz
  refine bodyPost_ret (results_cell_row rfl _ _ (w.heap.size + 1) 30 #[.int .i64 tag, .int .i64 n, .int .u64 bits, .string s, .slice A' lay.length c'] (0, 0) _ rfl ((((((B1.out.far (by simp) _).set_ 0 (.int .i64 tag)).set_ 1 (.int .i64 n)).set_ 2 (.int .u64 bits)).set_ 3 (.string s)).set_ 4 (.slice A' lay.length c')) Try.underlying30 rfl (by kernel_rfl)) rfl ?_
  have ho : Only (fun b => b = w.heap.size ∨ b = w.heap.size + 1) w1 ((((((w1.setCell ⟨w.heap.size, 4, none⟩ (.slice A' lay.length c')).setCell ⟨w.heap.size + 1, 0, none⟩ (.int .i64 tag)).setCell ⟨w.heap.size + 1, 1, none⟩ (.int .i64 n)).setCell ⟨w.heap.size + 1, 2, none⟩ (.int .u64 bits)).setCell ⟨w.heap.size + 1, 3, none⟩ (.string s)).setCell ⟨w.heap.size + 1, 4, none⟩ (.slice A' lay.length c')) :=
    (((((Only.setCell _ _ _ (.inl rfl)).trans (Only.setCell _ _ _ (.inr rfl))).trans (Only.setCell _ _ _ (.inr rfl))).trans (Only.setCell _ _ _ (.inr rfl))).trans (Only.setCell _ _ _ (.inr rfl))).trans (Only.setCell _ _ _ (.inr rfl))
  refine ⟨_, rfl, own_only ho (HO.out.mono (by simp; omega)) (fun g hg hv hs => ?_), ?_⟩
  · have := (World.ownsRow.lt HO.out g hv).1
    simp at this
    omega
  · refine Below.trans ?_ (ho.below (by omega) (fun b hb => by omega))
    exact (((Below.refl _ w).alloc (Nat.le_refl _) _).alloc (by simp) _).trans (HB.out.mono (by simp; omega))
end Go.Proofs.Ytiaeckljpdhagaa
