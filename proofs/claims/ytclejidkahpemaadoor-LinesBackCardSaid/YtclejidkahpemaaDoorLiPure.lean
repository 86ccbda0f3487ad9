/- Scripts as lines: plain lists of bytes, no Go. -/
import Derived.Test.YtclejidkahpemaaDoorInPure
namespace Go.Proofs.YtclejidkahpemaaDoor
structure Cm where
  word : List UInt8
  text : List UInt8
  n : Int
deriving DecidableEq
def noC : Cm := ⟨[], [], 0⟩
def wsText : List (List UInt8) := [[108, 105, 110, 101], [105, 110, 112, 117, 116]]
def wsHex : List (List UInt8) := [[108, 111, 97, 100]]
def wsNum : List (List UInt8) := [[104, 101, 97, 112], [114, 117, 110], [109, 111, 100, 101, 108], [116, 114, 97, 99, 101]]
def wsBare : List (List UInt8) := [[99, 108, 101, 97, 114], [112, 97, 114, 115, 101], [101, 108, 97, 98], [99, 111, 100, 101], [118, 101, 114, 105, 102, 121], [115, 105, 116, 101, 115], [115, 97, 118, 101], [111, 117, 116]]
def wsAll : List (List UInt8) := wsText ++ wsHex ++ wsNum ++ wsBare
/-- What belongs to a word. -/
def kindL (w : List UInt8) : Nat := if w ∈ wsText then 1 else if w ∈ wsHex then 2 else if w ∈ wsNum then 3 else if w ∈ wsBare then 4 else 0
def mayL (k : Nat) (c : UInt8) : Bool := if k = 1 then decide (32 ≤ c.toNat) && decide (c.toNat ≤ 126) else if k = 2 then isDig c || (decide (97 ≤ c.toNat) && decide (c.toNat ≤ 102)) else isDig c
def fitsL (k : Nat) (s : List UInt8) : Bool := if k = 1 then decide (s.length ≤ 4000) else if k = 2 then decide (s.length ≤ 4000) && decide (s.length % 2 = 0) else decide ((readV s).2 = 0) && decide (0 ≤ (readV s).1) && decide ((readV s).1 ≤ 1000000)
def restL (c : Cm) : List UInt8 := if kindL c.word = 3 then textL c.n else c.text
def checkL (c : Cm) : Int :=
  if kindL c.word = 0 ∨ (kindL c.word ≠ 3 ∧ c.n ≠ 0) ∨ ((kindL c.word = 3 ∨ kindL c.word = 4) ∧ c.text ≠ []) then 2 else if kindL c.word = 4 then 0 else
  if (restL c).all (mayL (kindL c.word)) && fitsL (kindL c.word) (restL c) then 0 else 2
def lineL (c : Cm) : List UInt8 × Int := if checkL c ≠ 0 then ([], 2) else if kindL c.word = 4 then (c.word, 0) else (c.word ++ 32 :: restL c, 0)
def wordOf (s : List UInt8) : List UInt8 := s.takeWhile fun c => c != 32
/-- Where the first byte stands that may not. -/
def badAt (k : Nat) (s : List UInt8) : Nat := (s.takeWhile (mayL k)).length
def parseL (s : List UInt8) : Cm × (Int × Int) :=
  if 4100 < s.length then (noC, (4, 4100)) else
  if kindL (wordOf s) = 0 then (noC, (5, 0)) else
  if decide (kindL (wordOf s) = 4) ≠ decide ((wordOf s).length = s.length) then (noC, (5, (wordOf s).length)) else
  if kindL (wordOf s) = 4 then (⟨wordOf s, [], 0⟩, (0, 0)) else
  if badAt (kindL (wordOf s)) (s.drop ((wordOf s).length + 1)) < (s.drop ((wordOf s).length + 1)).length then (noC, (5, ((wordOf s).length + 1 + badAt (kindL (wordOf s)) (s.drop ((wordOf s).length + 1)) : Nat))) else
  if fitsL (kindL (wordOf s)) (s.drop ((wordOf s).length + 1)) = false then (noC, (5, ((wordOf s).length + 1 : Nat))) else
  (⟨wordOf s, if kindL (wordOf s) = 3 then [] else s.drop ((wordOf s).length + 1), if kindL (wordOf s) = 3 then (readV (s.drop ((wordOf s).length + 1))).1 else 0⟩, (0, 0))
/-- A text's lines. -/
def splitN : List UInt8 → List (List UInt8)
  | [] => [[]]
  | c :: l => if c = 10 then [] :: splitN l else match splitN l with
    | h :: t => (c :: h) :: t
    | [] => [[c]]
/-- Is a line more than a comment? -/
def told (l : List UInt8) : Bool := !l.isEmpty && l.head? != some 35
def allGo (pos : Nat) (out : List Cm) : List (List UInt8) → List Cm × (Int × Int)
  | [] => (out, (0, 0))
  | l :: ls => if told l then (if (parseL l).2.1 ≠ 0 then ([], ((parseL l).2.1, (parseL l).2.2 + pos)) else allGo (pos + l.length + 1) (out ++ [(parseL l).1]) ls) else allGo (pos + l.length + 1) out ls
def allL (s : List UInt8) : List Cm × (Int × Int) := allGo 0 [] (splitN s)

theorem splitN_nl (l : List UInt8) : splitN (10 :: l) = [] :: splitN l := by rw [splitN, if_pos rfl]
theorem splitN_ne (s : List UInt8) : splitN s ≠ [] := by
  cases s with
  | nil => simp [splitN]
  | cons c l =>
    unfold splitN
    split
    · simp
    · split <;> simp
theorem splitN_cons {c : UInt8} {l h : List UInt8} {t : List (List UInt8)} (hc : c ≠ 10) (hl : splitN l = h :: t) : splitN (c :: l) = (c :: h) :: t := by rw [splitN, if_neg hc, hl]
/-- The first line, and what is behind it. -/
theorem splitN_step (s : List UInt8) : splitN s = (s.takeWhile fun c => c != 10) :: (if (s.takeWhile fun c => c != 10).length < s.length then splitN (s.drop ((s.takeWhile fun c => c != 10).length + 1)) else []) := by
  induction s with
  | nil => rfl
  | cons c l ih =>
    by_cases h : c = 10
    · subst h
      rw [splitN_nl, List.takeWhile_cons_of_neg (by simp), List.length_nil, if_pos (by simp)]
      rfl
    · rw [splitN_cons h ih, List.takeWhile_cons_of_pos (by simpa using h)]
      simp only [List.length_cons, Nat.add_lt_add_iff_right, List.drop_succ_cons]
theorem kind_le (w : List UInt8) : kindL w ≤ 4 := by
  unfold kindL
  repeat' split
  all_goals omega
theorem kind_len {w : List UInt8} (h : kindL w ≠ 0) : 0 < w.length ∧ w.length ≤ 6 := by
  have hall : ∀ w ∈ wsAll, 0 < w.length ∧ w.length ≤ 6 := by decide
  have hm : w ∈ wsAll := by
    unfold kindL at h
    unfold wsAll
    simp only [List.mem_append]
    by_cases h1 : w ∈ wsText
    · exact .inl (.inl (.inl h1))
    · by_cases h2 : w ∈ wsHex
      · exact .inl (.inl (.inr h2))
      · by_cases h3 : w ∈ wsNum
        · exact .inl (.inr h3)
        · by_cases h4 : w ∈ wsBare
          · exact .inr h4
          · simp [h1, h2, h3, h4] at h
  exact hall w hm
end Go.Proofs.YtclejidkahpemaaDoor
