/- A range over a function, under the wide fence: what the iterator promises (IterC), and the statement's law over it (wp_range). The iterator may write blocks of its own (Sw) and reads blocks (Sr): the loop's body keeps both. -/
import Derived.Test.YtclejidkahpemaaDoorMaps
import Derived.RangeFuncNested
import Derived.RangeFuncBound
import Derived.RangeFuncCalls
import Derived.RangeFuncLeaves
import Derived.OwnWalkIn
import Derived.TacticsInMore
import Derived.LoopNIn
import Derived.LoopIn
namespace Go.Proofs.YtclejidkahpemaaDoor
open Go.RowKit

/-- Of what lay in A nothing has turned but blocks of S; there may be new ones. -/
structure Only (S : Nat → Prop) (A B : World) : Prop where
  os : B.os = A.os
  tape : B.tape = A.tape
  output : B.output = A.output
  size : A.heap.size ≤ B.heap.size
  block : ∀ b, b < A.heap.size → ¬ S b → B.heap[b]? = A.heap[b]?
theorem Only.refl (S : Nat → Prop) (A : World) : Only S A A := ⟨rfl, rfl, rfl, Nat.le_refl _, fun _ _ _ => rfl⟩
theorem Only.trans {S : Nat → Prop} {A B C : World} (h : Only S A B) (k : Only S B C) : Only S A C :=
  ⟨k.os.trans h.os, k.tape.trans h.tape, k.output.trans h.output, Nat.le_trans h.size k.size, fun b hb hs => (k.block b (Nat.lt_of_lt_of_le hb h.size) hs).trans (h.block b hb hs)⟩
theorem Only.mono {S T : Nat → Prop} {A B : World} (h : Only S A B) (hST : ∀ b, S b → T b) : Only T A B :=
  ⟨h.os, h.tape, h.output, h.size, fun b hb hs => h.block b hb (fun k => hs (hST b k))⟩
theorem Only.alloc (S : Nat → Prop) (A : World) (o : Obj) : Only S A (A.alloc o) :=
  ⟨rfl, rfl, rfl, by simp, fun b hb _ => Below.heap_alloc A o b hb⟩
theorem Only.drew (S : Nat → Prop) (A : World) : Only S A A.drew := ⟨rfl, rfl, rfl, Nat.le_refl _, fun _ _ _ => rfl⟩
theorem Only.drewN (S : Nat → Prop) (A : World) (n : Nat) : Only S A (A.drewN n) := ⟨rfl, rfl, rfl, Nat.le_refl _, fun _ _ _ => rfl⟩
theorem Only.setCell {S : Nat → Prop} (A : World) (p : Addr) (v : Value) (h : S p.block) : Only S A (A.setCell p v) :=
  ⟨rfl, rfl, rfl, by simp [World.setCell], fun b _ hs => Below.heap_setCell A p v b (fun e => hs (e ▸ h))⟩
theorem Only.putObj {S : Nat → Prop} (A : World) (r : Nat) (o : Obj) (h : S r) : Only S A (A.putObj r o) :=
  ⟨rfl, rfl, rfl, by simp, fun b _ hs => World.putObj_heap_other (fun e => hs (e ▸ h))⟩
theorem Only.of_below {S : Nat → Prop} {n : Nat} {A B : World} (h : Below n A B) (hS : ∀ b, b < A.heap.size → n ≤ b → S b) : Only S A B :=
  ⟨h.os, h.tape, h.output, h.size, fun b hb hs => h.block b (by rcases Nat.lt_or_ge b n with x | x; exact x; exact absurd (hS b hb x) hs)⟩
theorem Only.below {S : Nat → Prop} {n : Nat} {A B : World} (h : Only S A B) (hn : n ≤ A.heap.size) (hS : ∀ b, S b → n ≤ b) : Below n A B :=
  ⟨h.os, h.tape, h.output, h.size, fun b hb => h.block b (by omega) (fun k => by have := hS b k; omega)⟩
theorem Only.cell {S : Nat → Prop} {A B : World} (h : Only S A B) {p : Addr} (hp : p.block < A.heap.size) (hs : ¬ S p.block) : B.cell? p = A.cell? p :=
  World.cell?_of_block (w := A) (h.block p.block hp hs)
theorem Only.frozen {S : Nat → Prop} {A B : World} (h : Only S A B) {p : Addr} (hp : p.block < A.heap.size) (hs : ¬ S p.block) : B.frozen? p = A.frozen? p :=
  World.frozen?_of_block (w := A) (h.block p.block hp hs)

/-- WHAT AN ITERATOR PROMISES: it hands on xs, one by one, till a round says 'no more'; between two rounds it turns blocks of Sw alone; it wants Sw and Sr kept by the rounds. -/
def IterC {α : Type} (P : Program) (gf : FuncId) (lb : Array Value) (xs : List α) (encs : α → Array Value) (Sw Sr : Nat → Prop) (w0 : World) : Prop :=
  ∀ (n l : Nat) (J Jx : Nat → World → Prop) (W : World), w0.heap.size ≤ W.heap.size → (∀ b, Sw b ∨ Sr b → W.heap[b]? = w0.heap[b]?) →
    (∀ i A B, J i A → Only Sw A B → J i B) → (∀ i A B, Jx i A → Only Sw A B → Jx i B) →
    (∀ (i : Nat) (hi : i < xs.length) (A : World), J i A → YieldAt Fence.wide (n - 1) P l (encs xs[i]) A fun e B =>
      A.heap.size ≤ B.heap.size ∧ (∀ b, Sw b ∨ Sr b → B.heap[b]? = A.heap[b]?) ∧ ((e = .returned (.bool true) ∧ J (i + 1) B) ∨ (e = .returned (.bool false) ∧ Jx (i + 1) B))) →
    J 0 W →
    CallsIn Fence.wide n P gf (#[.func (.yield l) #[] #[]] ++ lb) W fun e W' => (∃ v, e = .returned v) ∧ (J xs.length W' ∨ ∃ i, i ≤ xs.length ∧ Jx i W')

/-- What the body of a round must come to. -/
def roundEnd (K : World → World → Prop) (I : World → Prop) (Ix : Code → World → Prop) (A : World) : Exit → Act → World → Prop
  | .normal, _, B => K A B ∧ I B
  | .ret, _, B => K A B ∧ Ix .ret B
  | .exit id, _, B => K A B ∧ Ix (.exit id) B
  | .goto t, _, B => K A B ∧ Ix (.goto t) B
  | .panic _, _, _ => False
  | .outgrown, _, _ => False

/-- The blocks that a round keeps: the iterator's, the loop's record, the block for deferred calls. -/
def Kept (Sw Sr : Nat → Prop) (D : Nat) (A B : World) : Prop := A.heap.size ≤ B.heap.size ∧ ∀ b, (Sw b ∨ Sr b ∨ b = D ∨ b = D + 1) → B.heap[b]? = A.heap[b]?
theorem Kept.refl (Sw Sr : Nat → Prop) (D : Nat) (A : World) : Kept Sw Sr D A A := ⟨Nat.le_refl _, fun _ _ => rfl⟩
theorem Kept.trans {Sw Sr : Nat → Prop} {D : Nat} {A B C : World} (h : Kept Sw Sr D A B) (k : Kept Sw Sr D B C) : Kept Sw Sr D A C := ⟨Nat.le_trans h.1 k.1, fun b hb => (k.2 b hb).trans (h.2 b hb)⟩
theorem Kept.of_only {Sw Sr S : Nat → Prop} {D : Nat} {A B : World} (h : Only S A B) (hS : ∀ b, (Sw b ∨ Sr b ∨ b = D ∨ b = D + 1) → b < A.heap.size ∧ ¬ S b) : Kept Sw Sr D A B :=
  ⟨h.size, fun b hb => h.block b (hS b hb).1 (hS b hb).2⟩

theorem wp_range {P : Program} {n : Nat} {g : Operand} {ps : Array Tmp} {assign body : Code} {Q : Exit → Act → World → Prop} {a : Act} {w : World} {gf : FuncId} {lb : Array Value} {α : Type} {xs : List α} {encs : α → Array Value} {Sw Sr : Nat → Prop}
    (hg : a.eval g = .func (.func gf) #[] lb) (eg : ∀ args w, (callFunc gf args).run P w = .ok (.enter gf args) w)
    (hit : IterC P gf lb xs encs Sw Sr w) (hS : ∀ b, Sw b ∨ Sr b → b < w.heap.size) (hps : ∀ x, (encs x).size = ps.size)
    (I : Nat → World → Prop) (Ix : Code → Nat → World → Prop)
    (hI : ∀ i A B, I i A → Only (fun b => Sw b ∨ b = w.heap.size ∨ b = w.heap.size + 1) A B → I i B)
    (hIx : ∀ c i A B, Ix c i A → Only (fun b => Sw b ∨ b = w.heap.size ∨ b = w.heap.size + 1) A B → Ix c i B)
    (h0 : I 0 w)
    (hround : ∀ (l i : Nat) (hi : i < xs.length) (W : World), l = w.heap.size + 1 → w.heap.size + 1 < W.heap.size → I i W →
      assign.wpIn (Fence.wide.inRound l) (n - 1 - 1) P (Exit.then (fun a₁ W₁ => Kept Sw Sr w.heap.size W W₁ ∧ I i W₁ ∧ ∀ W2, w.heap.size + 1 < W2.heap.size → I i W2 →
        body.wpIn (Fence.wide.inRound l) (n - 1 - 1) P (roundEnd (Kept Sw Sr w.heap.size) (I (i + 1)) (fun c => Ix c (i + 1)) W2) a₁ W2) (fun _ _ _ => False))
        { tmps := (ps.zip (encs xs[i])).foldl (fun t (p, v) => t.setIfInBounds p v) a.tmps, defers := [] } W)
    (hdone : ∀ (W : World), I xs.length W → w.heap.size + 1 < W.heap.size → W.heap[w.heap.size]? = some (.deferred (some [])) → Q .normal { a with defers := { target := .collected w.heap.size, args := #[] } :: a.defers } W)
    (hstop : ∀ (c : Code) (i : Nat) (W : World), i ≤ xs.length → Ix c i W → w.heap.size + 1 < W.heap.size → W.heap[w.heap.size]? = some (.deferred (some [])) → c.wpIn Fence.wide n P Q { a with defers := { target := .collected w.heap.size, args := #[] } :: a.defers } W) :
    (Code.rangeFunc g ps assign body).wpIn Fence.wide n P Q a w := by
  refine wpIn_rangeFunc ?_
  intro fn hfn
  obtain ⟨rec, hrec⟩ : ∃ rec : LoopState → Option Code → Loop, rec = fun st pe => { state := st, pending := pe, fn, tmps := a.tmps, params := ps, assign, body, defers := w.heap.size } := ⟨_, rfl⟩
  obtain ⟨W1, hW1⟩ : ∃ W1, (w.alloc (.deferred (some []))).alloc (.loop (rec .ready none)) = W1 := ⟨_, rfl⟩
  have hL1 : W1.heap[w.heap.size + 1]? = some (.loop (rec .ready none)) := by
    rw [← hW1]; have := World.alloc_heap_new (w.alloc (.deferred (some []))) (.loop (rec .ready none)); rwa [World.size_alloc] at this
  have hK1 : W1.heap[w.heap.size]? = some (.deferred (some [])) := by
    rw [← hW1]; exact (Below.heap_alloc _ _ _ (by simp)).trans (World.alloc_heap_new w _)
  have hI1 : I 0 W1 := by rw [← hW1]; exact hI _ _ _ (hI _ _ _ h0 (Only.alloc _ _ _)) (Only.alloc _ _ _)
  have hs1 : W1.heap.size = w.heap.size + 1 + 1 := by rw [← hW1]; simp
  have hb1 : ∀ b, Sw b ∨ Sr b → W1.heap[b]? = w.heap[b]? := fun b hb => by
    rw [← hW1]; exact (Below.heap_alloc _ _ _ (by have := hS b hb; simp; omega)).trans (Below.heap_alloc _ _ _ (hS b hb))
  refine ⟨w.heap.size + 1, [{ target := .collected w.heap.size, args := #[] }], W1, { target := .fn (.func gf) lb, args := #[.func (.yield (w.heap.size + 1)) #[] #[]] }, W1, gf,
    #[.func (.yield (w.heap.size + 1)) #[] #[]] ++ lb, W1, ?_, ?_, ?_, ?_, fun h => by simp [Fence.wide] at h, ?_⟩
  · rw [← hW1, hrec]; exact run_enterLoop_outer _ _ _ _ _
  · simp only [resolve, hg]
    simp [go_sem]
  · intro f' _; trivial
  · simp [invoke, go_sem, eg]
  · have nS : ∀ b, b = w.heap.size ∨ b = w.heap.size + 1 → ¬ Sw b := fun b hb hs => by have := hS b (.inl hs); omega
    have keepRec : ∀ {A B : World} {b : Nat} {o : Obj}, Only Sw A B → (b = w.heap.size ∨ b = w.heap.size + 1) → A.heap[b]? = some o → B.heap[b]? = some o := fun h hb ho =>
      (h.block _ (Array.getElem?_eq_some_iff.1 ho).1 (nS _ hb)).trans ho
    refine (hit (n - 1) (w.heap.size + 1)
      (fun i W => I i W ∧ W.heap[w.heap.size + 1]? = some (.loop (rec .ready none)) ∧ W.heap[w.heap.size]? = some (.deferred (some [])))
      (fun i W => ∃ c, Ix c i W ∧ W.heap[w.heap.size + 1]? = some (.loop (rec .done (some c))) ∧ W.heap[w.heap.size]? = some (.deferred (some [])))
      W1 (by omega) hb1
      (fun i A B h ho => ⟨hI i A B h.1 (ho.mono fun b hb => .inl hb), keepRec ho (.inr rfl) h.2.1, keepRec ho (.inl rfl) h.2.2⟩)
      (fun i A B h ho => by obtain ⟨c, hc, hl, hk⟩ := h; exact ⟨c, hIx c i A B hc (ho.mono fun b hb => .inl hb), keepRec ho (.inr rfl) hl, keepRec ho (.inl rfl) hk⟩)
      ?_ ⟨hI1, hL1, hK1⟩).mono ?_
    · rintro i hlen W ⟨hi, hl, hk⟩
      have hlt : w.heap.size + 1 < W.heap.size := (Array.getElem?_eq_some_iff.1 hl).1
      have hy := run_yield (P := P) (args := encs xs[i]) hl (by rw [hrec]; exact hps xs[i])
      rw [hrec] at hy
      refine ⟨fn, _, assign, body, hy, roundIn_of_wpIn hfn (wpIn_mono (hround _ i hlen W rfl hlt hi) ?_)⟩
      intro e a₁ W₁ hp
      cases e with
      | normal =>
        obtain ⟨hk1, hi1, hbody⟩ := hp
        have hl1 : W₁.heap[w.heap.size + 1]? = some (.loop (rec .ready none)) := (hk1.2 _ (.inr (.inr (.inr rfl)))).trans hl
        have hd1 : W₁.heap[w.heap.size]? = some (.deferred (some [])) := (hk1.2 _ (.inr (.inr (.inl rfl)))).trans hk
        have hlt1 : w.heap.size + 1 < W₁.heap.size := (Array.getElem?_eq_some_iff.1 hl1).1
        refine ⟨_, run_beginRound hl1 (by rw [hrec]), ?_⟩
        have hl2 : (W₁.putObj (w.heap.size + 1) (.loop { rec .ready none with state := .busy })).heap[w.heap.size + 1]? = some (.loop { rec .ready none with state := .busy }) := World.putObj_heap_same hlt1
        have hd2 : (W₁.putObj (w.heap.size + 1) (.loop { rec .ready none with state := .busy })).heap[w.heap.size]? = some (.deferred (some [])) := (World.putObj_heap_other (by omega)).trans hd1
        have hput : ∀ (A : World) (o : Obj), Only (fun b => Sw b ∨ b = w.heap.size ∨ b = w.heap.size + 1) A (A.putObj (w.heap.size + 1) o) := fun A o => Only.putObj A _ o (.inr (.inr rfl))
        have nSr : ∀ b, Sw b ∨ Sr b → b ≠ w.heap.size + 1 := fun b hb e => by have := hS b hb; omega
        have two : ∀ (B : World) (o : Obj), Kept Sw Sr w.heap.size (W₁.putObj (w.heap.size + 1) (.loop { rec .ready none with state := .busy })) B →
            W.heap.size ≤ (B.putObj (w.heap.size + 1) o).heap.size ∧ ∀ b, Sw b ∨ Sr b → (B.putObj (w.heap.size + 1) o).heap[b]? = W.heap[b]? := fun B o hB => by
          refine ⟨?_, fun b hb => ?_⟩
          · rw [World.putObj_size]; have := hB.1; rw [World.putObj_size] at this; exact Nat.le_trans hk1.1 this
          · have hb' : Sw b ∨ Sr b ∨ b = w.heap.size ∨ b = w.heap.size + 1 := by rcases hb with h | h; exact .inl h; exact .inr (.inl h)
            exact (World.putObj_heap_other (nSr b hb)).trans ((hB.2 b hb').trans ((World.putObj_heap_other (nSr b hb)).trans (hk1.2 b hb')))
        have fin : ∀ (jump : Option Code) (W3 : World), Kept Sw Sr w.heap.size (W₁.putObj (w.heap.size + 1) (.loop { rec .ready none with state := .busy })) W3 →
            (Instr.endRound (w.heap.size + 1) jump).run P W3 = .ok (.bool jump.isNone) (W3.putObj (w.heap.size + 1) (.loop (rec (if jump.isNone then .ready else .done) jump))) ∧
            (W3.putObj (w.heap.size + 1) (.loop (rec (if jump.isNone then .ready else .done) jump))).heap[w.heap.size + 1]? = some (.loop (rec (if jump.isNone then .ready else .done) jump)) ∧
            (W3.putObj (w.heap.size + 1) (.loop (rec (if jump.isNone then .ready else .done) jump))).heap[w.heap.size]? = some (.deferred (some [])) := fun jump W3 hk3 => by
          have hl3 := (hk3.2 _ (.inr (.inr (.inr rfl)))).trans hl2
          have hd3 := (hk3.2 _ (.inr (.inr (.inl rfl)))).trans hd2
          have := run_endRound (P := P) jump hl3
          rw [hrec] at this ⊢
          exact ⟨this, World.putObj_heap_same (Array.getElem?_eq_some_iff.1 hl3).1, (World.putObj_heap_other (by omega)).trans hd3⟩
        refine wpIn_mono (hbody _ (by rw [World.putObj_size]; exact hlt1) (hI _ _ _ hi1 (hput _ _))) ?_
        intro e a3 W3 hp
        cases e with
        | normal =>
          obtain ⟨hk3, hi3⟩ := hp
          obtain ⟨hr, hl4, hk4⟩ := fin none W3 hk3
          exact ⟨_, _, hr, (two W3 _ hk3).1, (two W3 _ hk3).2, .inl ⟨rfl, hI _ _ _ hi3 (hput _ _), hl4, hk4⟩⟩
        | ret =>
          obtain ⟨hk3, hi3⟩ := hp
          obtain ⟨hr, hl4, hk4⟩ := fin (some .ret) W3 hk3
          exact ⟨_, _, hr, (two W3 _ hk3).1, (two W3 _ hk3).2, .inr ⟨rfl, .ret, hIx _ _ _ _ hi3 (hput _ _), hl4, hk4⟩⟩
        | exit id =>
          obtain ⟨hk3, hi3⟩ := hp
          obtain ⟨hr, hl4, hk4⟩ := fin (some (.exit id)) W3 hk3
          exact ⟨_, _, hr, (two W3 _ hk3).1, (two W3 _ hk3).2, .inr ⟨rfl, .exit id, hIx _ _ _ _ hi3 (hput _ _), hl4, hk4⟩⟩
        | goto t =>
          obtain ⟨hk3, hi3⟩ := hp
          obtain ⟨hr, hl4, hk4⟩ := fin (some (.goto t)) W3 hk3
          exact ⟨_, _, hr, (two W3 _ hk3).1, (two W3 _ hk3).2, .inr ⟨rfl, .goto t, hIx _ _ _ _ hi3 (hput _ _), hl4, hk4⟩⟩
        | panic ch => exact hp.elim
        | outgrown => exact hp.elim
      | ret => exact hp.elim
      | exit id => exact hp.elim
      | goto t => exact hp.elim
      | panic ch => exact hp.elim
      | outgrown => exact hp.elim
    · have hput : ∀ (A : World) (o : Obj), Only (fun b => Sw b ∨ b = w.heap.size ∨ b = w.heap.size + 1) A (A.putObj (w.heap.size + 1) o) := fun A o => Only.putObj A _ o (.inr (.inr rfl))
      rintro e W2 ⟨⟨v, rfl⟩, (⟨hi, hl, hk⟩ | ⟨i, hile, c, hi, hl, hk⟩)⟩
      · have hlt : w.heap.size + 1 < W2.heap.size := (Array.getElem?_eq_some_iff.1 hl).1
        exact ⟨none, _, by have := run_endLoop (P := P) hl (by rw [hrec]; simp); rw [hrec] at this; exact this, hdone _ (hI _ _ _ hi (hput _ _)) (by rw [World.putObj_size]; exact hlt) ((World.putObj_heap_other (by omega)).trans hk)⟩
      · have hlt : w.heap.size + 1 < W2.heap.size := (Array.getElem?_eq_some_iff.1 hl).1
        exact ⟨some c, _, by have := run_endLoop (P := P) hl (by rw [hrec]; simp); rw [hrec] at this; exact this, hstop c i _ hile (hIx _ _ _ _ hi (hput _ _)) (by rw [World.putObj_size]; exact hlt) ((World.putObj_heap_other (by omega)).trans hk)⟩

theorem enters_fn {P : Program} {f : FuncId} {fn : Func} {c : Code} (hf : P.funcs[f]? = some fn) (hname : (fn.name == "runtime.NumGoroutine") = false) (hb : fn.body = some c) (args : Array Value) (w : World) : (callFunc f args).run P w = .ok (.enter f args) w := by
  have h1 : fn.name ≠ "runtime.NumGoroutine" := by simpa using hname
  simp [callFunc, hf, h1, hb, mark]
theorem cell_new1 (W : World) (v : Value) (t : TypeId) : (W.alloc (.cells #[v] t)).cell? ⟨W.heap.size, 0, none⟩ = some v ∧ (W.alloc (.cells #[v] t)).frozen? ⟨W.heap.size, 0, none⟩ = false := by
  have h := World.alloc_heap_new W (.cells #[v] t)
  constructor
  · unfold World.cell?; rw [h]; rfl
  · unfold World.frozen?; rw [h]; simp
theorem lt_of_cell {W : World} {a : Addr} {v : Value} (h : W.cell? a = some v) : a.block < W.heap.size := by
  unfold World.cell? at h
  rcases Nat.lt_or_ge a.block W.heap.size with k | k
  · exact k
  · rw [Array.getElem?_eq_none (by omega)] at h; simp at h
theorem cell_alloc1 {W : World} {a : Addr} {v : Value} (o : Obj) (h : W.cell? a = some v) : (W.alloc o).cell? a = some v := ((Only.alloc (fun _ => False) W o).cell (lt_of_cell h) (fun k => k)).trans h
theorem frozen_alloc1 {W : World} {a : Addr} {v : Value} (o : Obj) (h : W.cell? a = some v) (hf : W.frozen? a = false) : (W.alloc o).frozen? a = false := ((Only.alloc (fun _ => False) W o).frozen (lt_of_cell h) (fun k => k)).trans hf

theorem below_putObj {n r : Nat} {w W : World} (h : Below n w W) (hr : n ≤ r) (hn : n ≤ W.heap.size) (o : Obj) : Below n w (W.putObj r o) :=
  h.trans ((Only.putObj (S := (· = r)) W r o rfl).below hn (fun b hb => by omega))

/-- At the function's end, behind one loop: its mark is taken off. -/
theorem leaves_mark {P : Program} {n : Nat} {fn : Func} {tmps : Array Value} {R : Ending → World → Prop} {D : Nat} {ds : List Deferred} {W : World} (hK : W.heap[D]? = some (.deferred (some [])))
    (h : LeavesInM Fence.wide n P fn tmps R ds .returning (W.putObj D (.deferred none))) : LeavesInM Fence.wide n P fn tmps R ({ target := .collected D, args := #[] } :: ds) .returning W :=
  ⟨by simp, .inl ⟨_, _, rfl, run_takeDeferred hK, h⟩⟩
theorem leaves_nil {P : Program} {n : Nat} {fn : Func} {tmps : Array Value} {R : Ending → World → Prop} {W : World} {v : Value} (hr : (results fn tmps).run P W = .ok v W) (h : R (.returned v) W) :
    LeavesInM Fence.wide n P fn tmps R [] .returning W := ⟨_, hr, h⟩
end Go.Proofs.YtclejidkahpemaaDoor
