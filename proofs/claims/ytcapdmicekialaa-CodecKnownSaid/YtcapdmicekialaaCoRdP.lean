/- What codec's reader tells, as plain Lean. -/
import Derived.Test.YtcapdmicekialaaCoTypes
import Derived.Test.YtcapdmicekialaaOcThings
namespace Go.Proofs.Ytcapdmicekialaa
open Go.RowKit
set_option linter.unusedVariables false
/-- A reader that may end with a fault. -/
abbrev Rdr (α : Type) := RS → Except (Int × Int) (α × RS)
def Rdr.bind {α β : Type} (r : Rdr α) (f : α → Rdr β) : Rdr β := fun s => match r s with | .ok (a, s') => f a s' | .error e => .error e
def Rdr.pure {α : Type} (a : α) : Rdr α := fun s => .ok (a, s)
def numR (bs : List UInt8) : Rdr (Nat × Nat) := fun s => if (rNum bs s).2.2.1 = 0 then .ok (((rNum bs s).1, s.1), (rNum bs s).2) else .error (rNum bs s).2.2
def wordR (bs : List UInt8) : Rdr ByteArray := fun s => if (rWord bs s 1000).2.2.1 = 0 then .ok (strB (rWord bs s 1000).1, (rWord bs s 1000).2) else .error (rWord bs s 1000).2.2
def mustR (b : Bool) (e at_ : Int) : Rdr Unit := fun s => if b then .ok ((), s) else .error (e, at_)
def timesR {α : Type} (one : Rdr α) : Nat → List α → Rdr (List α)
  | 0, acc => Rdr.pure acc
  | n + 1, acc => one.bind fun a => timesR one n (acc ++ [a])
def listR {α : Type} (bs : List UInt8) (most : Nat) (one : Rdr α) : Rdr (List α) := (numR bs).bind fun n => (mustR (decide (n.1 ≤ most)) 12 n.2).bind fun _ => timesR one n.1 []
def justR (bs : List UInt8) (want : Nat) : Rdr Unit := (numR bs).bind fun n => mustR (n.1 == want) 5 n.2
def vrR (bs : List UInt8) : Rdr Vr := (wordR bs).bind fun a => (wordR bs).bind fun b => Rdr.pure (a, b)
def sgR (bs : List UInt8) : Rdr Sg := (wordR bs).bind fun a => (listR bs 8 (vrR bs)).bind fun l => (wordR bs).bind fun b => Rdr.pure ⟨a, l, b⟩
def clR (bs : List UInt8) : Rdr Cl := (wordR bs).bind fun a => (wordR bs).bind fun b => (listR bs 20 (vrR bs)).bind fun f => (listR bs 20 (sgR bs)).bind fun m => Rdr.pure ⟨a, b, f, m⟩
def stR (bs : List UInt8) : Rdr St := (numR bs).bind fun n => (wordR bs).bind fun a => (wordR bs).bind fun b => Rdr.pure ⟨n.1, a, b⟩
def opR (bs : List UInt8) : Rdr Int := (numR bs).bind fun s => (mustR (decide (s.1 ≤ 1)) 5 s.2).bind fun _ => (numR bs).bind fun n => Rdr.pure (if s.1 = 1 then -1 - (n.1 : Int) else (n.1 : Int))
def inR (bs : List UInt8) : Rdr In := (numR bs).bind fun n => (opR bs).bind fun a => (opR bs).bind fun b => (opR bs).bind fun c => Rdr.pure ⟨n.1, a, b, c⟩
def fuR (bs : List UInt8) : Rdr Fu := (wordR bs).bind fun a => (wordR bs).bind fun b => (listR bs 200 (wordR bs)).bind fun l => (listR bs 20000 (inR bs)).bind fun c => Rdr.pure ⟨a, b, l, c⟩
def mdR (bs : List UInt8) : Rdr Md := (justR bs 67).bind fun _ => (justR bs 1).bind fun _ => (listR bs 40 (clR bs)).bind fun t => (listR bs 5000 (stR bs)).bind fun s => (listR bs 2000 (wordR bs)).bind fun p => (listR bs 1000 (fuR bs)).bind fun f => Rdr.pure ⟨t, s, p, f⟩
def noMd : Md := ⟨[], [], [], []⟩
/-- What Decode tells. -/
def decM (bs : List UInt8) : Md × (Int × Int) := match mdR bs (0, 0, 0) with
  | .error f => (noMd, f)
  | .ok (m, s) => if rEnd bs s = (0, 0) then (m, (0, 0)) else (noMd, rEnd bs s)
end Go.Proofs.Ytcapdmicekialaa
