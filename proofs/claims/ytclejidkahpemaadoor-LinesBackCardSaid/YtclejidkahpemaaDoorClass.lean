/- Regions that draw their order and hold calls that make memory: one walk, in the order of the text, in a class of worlds (a predicate that every operation and every call keeps). Over any program. -/
import Derived.Test.YtclejidkahpemaaDoorRange
import Derived.BigQuiet
namespace Go.Proofs.YtclejidkahpemaaDoor
open Go.RowKit

/-- The worlds of a class. -/
def InC (I : World → Prop) : Type := { w : World // I w }
/-- The class is not empty. -/
structure Has (I : World → Prop) : Prop where
  some : ∃ w, I w
theorem wp_region_in {P : Program} {id : Nat} {Q : Exit → Act → World → Prop} {a : Act} {w : World} {l : List Oper} (I : World → Prop) (hm : P.follows .mixedOrders = true) (hB : Region.lexB .any l.toArray = true) (hw : I w.drew)
    (h : Nonempty (InC I) → wpQuiet P l.toArray (fun w' => ∃ x : InC I, w' = x.1) (fun a' => ∀ w', (∃ x : InC I, w' = x.1) → Q .normal a' w') l a) : (Code.region id l.toArray true).wp P Q a w :=
  wp_region_quiet (C := fun w' => ∃ x : InC I, w' = x.1) hm hB ⟨⟨w.drew, hw⟩, rfl⟩ (by simpa using h ⟨⟨w.drew, hw⟩⟩)
/-- A call in such a region. -/
theorem call_in {P : Program} {f : FuncId} {args : Array Value} {I : World → Prop} {v : Value} (x : InC I) (h : ∀ w, I w → Calls P f args w fun e w' => e = .returned v ∧ I w') :
    Calls P f args x.1 fun e w' => e = .returned v ∧ ∃ y : InC I, w' = y.1 := (h x.1 x.2).mono fun _ w' k => ⟨k.1, ⟨w', k.2⟩, rfl⟩
end Go.Proofs.YtclejidkahpemaaDoor
