/- Words: the reserved words, and how a text falls into fields. No Go. -/
import GoSem.Claim
namespace Go.Proofs.YtohnhnomlkcfjaaDoor

/-- All reserved words, as they stand in the program. -/
def allB : List UInt8 := [99, 108, 97, 115, 115, 32, 100, 101, 102, 32, 118, 97, 114, 32, 109, 97, 105, 110, 32, 108, 101, 116, 32, 105, 102, 32, 101, 108, 115, 101, 32, 119, 104, 105, 108, 101, 32, 110, 101, 119, 32, 110, 111, 110, 101, 32, 116, 104, 105, 115, 32, 115, 117, 112, 101, 114].append [32, 114, 101, 97, 100, 32, 112, 114, 105, 110, 116, 32, 116, 114, 117, 101, 32, 102, 97, 108, 115, 101, 32, 110, 97, 110, 32, 105, 110, 102, 32, 105, 110, 116, 32, 114, 101, 97, 108, 32, 98, 111, 111, 108, 32, 115, 116, 114, 32, 117, 110, 105, 116, 32, 108, 101, 110]
def allS : ByteArray := ⟨allB.toArray⟩
/-- A byte's place in asciiSpace. -/
def spaceV (c : Nat) : Int := if (9 ≤ c ∧ c ≤ 13) ∨ c = 32 then 1 else 0
/-- Where the field at a place begins (-1: none), and how many fields are behind. -/
def fieldAt : Nat → Int × Nat
  | 0 => (-1, 0)
  | i + 1 => let (s, n) := fieldAt i
    if spaceV (allS.data.getD i 0).toNat = 1 then (if 0 ≤ s then (-1, n + 1) else (-1, n)) else (if s < 0 then (i, n) else (s, n))
def stA (i : Nat) : Int := (fieldAt i).1
def ctA (i : Nat) : Nat := (fieldAt i).2
/-- The words themselves. -/
def resW : List ByteArray := [⟨#[99, 108, 97, 115, 115]⟩, ⟨#[100, 101, 102]⟩, ⟨#[118, 97, 114]⟩, ⟨#[109, 97, 105, 110]⟩, ⟨#[108, 101, 116]⟩, ⟨#[105, 102]⟩, ⟨#[101, 108, 115, 101]⟩, ⟨#[119, 104, 105, 108, 101]⟩, ⟨#[110, 101, 119]⟩, ⟨#[110, 111, 110, 101]⟩, ⟨#[116, 104, 105, 115]⟩, ⟨#[115, 117, 112, 101, 114]⟩, ⟨#[114, 101, 97, 100]⟩, ⟨#[112, 114, 105, 110, 116]⟩, ⟨#[116, 114, 117, 101]⟩, ⟨#[102, 97, 108, 115, 101]⟩, ⟨#[110, 97, 110]⟩, ⟨#[105, 110, 102]⟩, ⟨#[105, 110, 116]⟩, ⟨#[114, 101, 97, 108]⟩, ⟨#[98, 111, 111, 108]⟩, ⟨#[115, 116, 114]⟩, ⟨#[117, 110, 105, 116]⟩, ⟨#[108, 101, 110]⟩]

/-- One place's share of what the walk asks. -/
def stepB (i : Nat) : Bool :=
  let c := (allS.data.getD i 0).toNat
  decide (c < 128) && decide (-1 ≤ stA i) && decide (stA i ≤ i) && decide (ctA i ≤ 24) &&
  (if spaceV c = 1 then (if 0 ≤ stA i then decide (ctA i < 24) && ((resW.getD (ctA i) ⟨#[]⟩).data == (allS.extract (stA i).toNat i).data) && decide (stA (i + 1) = -1) && decide (ctA (i + 1) = ctA i + 1) else decide (stA (i + 1) = -1) && decide (ctA (i + 1) = ctA i))
   else decide (spaceV c = 0) && (if stA i < 0 then decide (stA (i + 1) = i) && decide (ctA (i + 1) = ctA i) else decide (stA (i + 1) = stA i) && decide (ctA (i + 1) = ctA i)))
theorem steps_ok : (List.range 113).all stepB = true := by decide +kernel
theorem all_size : allS.size = 113 := by decide +kernel
theorem end_ok : 0 ≤ stA 113 ∧ stA 113 ≤ 113 ∧ ctA 113 = 23 ∧ (resW.getD 23 ⟨#[]⟩).data = (allS.extract (stA 113).toNat 113).data := by decide +kernel
theorem resW_len : resW.length = 24 := rfl
end Go.Proofs.YtohnhnomlkcfjaaDoor
