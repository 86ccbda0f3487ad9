/- OctetWrites, walked. -/
import Derived.Test.YtcapdmicekialaaGreatOcAwake
import Derived.Test.YtcapdmicekialaaGreatPhase
namespace Go.Proofs.YtcapdmicekialaaGreat
open Go.RowKit
attribute [local go_sem] Oper.semAt_some run_store_func run_store_nilFunc
/-- An item of the law: its kind, its number, its text. -/
structure Item where
  k : Int
  n : Int
  s : ByteArray
/-- The items of a list, as they lie in memory. -/
structure ItemsAt (w : World) (b off : Nat) (its : List Item) : Prop where
  k : ∀ (i : Nat) (h : i < its.length), w.cell? ⟨b, off + i * 3, none⟩ = some (.int .i64 its[i].k)
  n : ∀ (i : Nat) (h : i < its.length), w.cell? ⟨b, off + i * 3 + 1, none⟩ = some (.int .i64 its[i].n)
  s : ∀ (i : Nat) (h : i < its.length), w.cell? ⟨b, off + i * 3 + 2, none⟩ = some (.string its[i].s)
/-- A slice of items. -/
def Items (w : World) (A : Option Addr) (its : List Item) : Prop := 0 < its.length → ∃ b off, A = some ⟨b, off, none⟩ ∧ b < w.heap.size ∧ ItemsAt w b off its
/-- What is known of each item. -/
def ItemsOk (its : List Item) : Prop := ∀ (i : Nat) (h : i < its.length), -9223372036854775808 ≤ its[i].n ∧ its[i].n ≤ 9223372036854775807
theorem ItemsAt.below {w w' : World} {b off k : Nat} {its : List Item} (h : ItemsAt w b off its) (hb : Below k w w') (hk : b < k) : ItemsAt w' b off its :=
  ⟨fun i hi => (hb.cell (p := ⟨b, off + i * 3, none⟩) hk).trans (h.k i hi), fun i hi => (hb.cell (p := ⟨b, off + i * 3 + 1, none⟩) hk).trans (h.n i hi), fun i hi => (hb.cell (p := ⟨b, off + i * 3 + 2, none⟩) hk).trans (h.s i hi)⟩
def RetLong (its : List Item) (w : World) (e : Ending) (w' : World) : Prop := ∃ r : Bool, e = .returned (.bool r) ∧ w = w' ∧ (r = false → its.length ≤ 40 ∧ ∀ (i : Nat) (h : i < its.length), its[i].s.size ≤ 100)
theorem Hold.len {N : Nat} {w0 W : World} {l : List Thing} (H : Hold N w0 W l) (i : Nat) {p : Nat} {most : Int} {r : List UInt8 × Int} (hi : l[i]? = some (wrT p most r)) : r.1.length ≤ 2147483647 := by
  obtain ⟨F, ⟨v, hv, rfl⟩, _⟩ := H.get i _ hi
  have h1 := hv.m1
  have h2 := hv.m2
  omega
/-- Both writers, each behind an item or still ahead of it. -/
def PairR (N : Nat) (w0 : World) (p q : Nat) (most : Int) (r r' : List UInt8 × Int) (d1 d2 : Bool) (W : World) : Prop := Hold N w0 W [wrT p most (if d1 then r' else r), rwT q most (if d2 then r' else r)]
theorem PairR.w {N : Nat} {w0 : World} {p q : Nat} {most : Int} {r r' : List UInt8 × Int} {f : FuncId} {args : Array Value} (h : ∀ W l, Hold N w0 W l → l[0]? = some (wrT p most r) → Calls Tryz.prog f args W fun e W' => e = .returned (.int .i64 r'.2) ∧ Hold N w0 W' (l.set 0 (wrT p most r'))) :
    ∀ d W, PairR N w0 p q most r r' false d W → Calls Tryz.prog f args W fun e W' => e = .returned (.int .i64 r'.2) ∧ PairR N w0 p q most r r' true d W' := fun _ W H => h W _ H rfl
theorem PairR.x {N : Nat} {w0 : World} {p q : Nat} {most : Int} {r r' : List UInt8 × Int} {f : FuncId} {args : Array Value} (h : ∀ W l, Hold N w0 W l → l[1]? = some (rwT q most r) → Calls Tryz.prog f args W fun e W' => e = .returned (.int .i64 r'.2) ∧ Hold N w0 W' (l.set 1 (rwT q most r'))) :
    ∀ d W, PairR N w0 p q most r r' d false W → Calls Tryz.prog f args W fun e W' => e = .returned (.int .i64 r'.2) ∧ PairR N w0 p q most r r' d true W' := fun _ W H => h W _ H rfl
theorem PairR.cell {N : Nat} {w0 : World} {p q : Nat} {most : Int} {r r' : List UInt8 × Int} {i j : Nat} {a : Addr} {v : Value} (ha : a.block < N) (hc : w0.cell? a = some v) (k : Nat) (x : Still (two i j (PairR N w0 p q most r r')) k) : x.w.cell? a = some v :=
  two_fact (F := fun W => W.cell? a = some v) (fun _ _ _ H => (H.old ha).trans hc) x
end Go.Proofs.YtcapdmicekialaaGreat
