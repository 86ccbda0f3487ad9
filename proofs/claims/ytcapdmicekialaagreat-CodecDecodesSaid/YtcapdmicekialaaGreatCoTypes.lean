/- Modules: as data, and by their cells. -/
import Derived.Test.YtcapdmicekialaaGreatNest
namespace Go.Proofs.YtcapdmicekialaaGreat
open Go.RowKit
set_option linter.unusedVariables false
abbrev Vr := ByteArray × ByteArray
structure Sg where
  name : ByteArray
  params : List Vr
  result : ByteArray
deriving DecidableEq
structure Cl where
  name : ByteArray
  super : ByteArray
  fields : List Vr
  methods : List Sg
deriving DecidableEq
structure St where
  what : Int
  src : ByteArray
  dst : ByteArray
deriving DecidableEq
structure In where
  op : Int
  a : Int
  b : Int
  c : Int
deriving DecidableEq
structure Fu where
  cls : ByteArray
  name : ByteArray
  locals : List ByteArray
  code : List In
deriving DecidableEq
structure Md where
  table : List Cl
  sites : List St
  pool : List ByteArray
  funcs : List Fu
deriving DecidableEq
/-- A text that may be in memory; a number of an int. -/
def sz (s : ByteArray) : Prop := s.size ≤ 140737488351232
def iz (n : Int) : Prop := -9223372036854775808 ≤ n ∧ n ≤ 9223372036854775807
def txK : Kind ByteArray where
  size := 1
  told _ cs s := cs = [.string s] ∧ sz s
  len := by rintro _ _ _ ⟨rfl, _⟩; rfl
  keep h _ := h
def vrK : Kind Vr where
  size := 2
  told _ cs x := cs = [.string x.1, .string x.2] ∧ sz x.1 ∧ sz x.2
  len := by rintro _ _ _ ⟨rfl, _⟩; rfl
  keep h _ := h
def stK : Kind St where
  size := 3
  told _ cs x := cs = [.int .i64 x.what, .string x.src, .string x.dst] ∧ iz x.what ∧ sz x.src ∧ sz x.dst
  len := by rintro _ _ _ ⟨rfl, _⟩; rfl
  keep h _ := h
def inK : Kind In where
  size := 4
  told _ cs x := cs = [.int .i64 x.op, .int .i64 x.a, .int .i64 x.b, .int .i64 x.c] ∧ iz x.op ∧ iz x.a ∧ iz x.b ∧ iz x.c
  len := by rintro _ _ _ ⟨rfl, _⟩; rfl
  keep h _ := h
def sgK : Kind Sg where
  size := 3
  told S cs x := ∃ ps, cs = [.string x.name, ps, .string x.result] ∧ sz x.name ∧ sz x.result ∧ vrK.slS S ps x.params
  len := by rintro _ _ _ ⟨_, rfl, _⟩; rfl
  keep := by rintro S S' cs a ⟨ps, h1, h2, h3, h4⟩ hb; exact ⟨ps, h1, h2, h3, Kind.sl_keep h4 hb⟩
def clK : Kind Cl where
  size := 4
  told S cs x := ∃ fs ms, cs = [.string x.name, .string x.super, fs, ms] ∧ sz x.name ∧ sz x.super ∧ vrK.slS S fs x.fields ∧ sgK.slS S ms x.methods
  len := by rintro _ _ _ ⟨_, _, rfl, _⟩; rfl
  keep := by rintro S S' cs a ⟨fs, ms, h1, h2, h3, h4, h5⟩ hb; exact ⟨fs, ms, h1, h2, h3, Kind.sl_keep h4 hb, Kind.sl_keep h5 hb⟩
def fuK : Kind Fu where
  size := 4
  told S cs x := ∃ ls cd, cs = [.string x.cls, .string x.name, ls, cd] ∧ sz x.cls ∧ sz x.name ∧ txK.slS S ls x.locals ∧ inK.slS S cd x.code
  len := by rintro _ _ _ ⟨_, _, rfl, _⟩; rfl
  keep := by rintro S S' cs a ⟨ls, cd, h1, h2, h3, h4, h5⟩ hb; exact ⟨ls, cd, h1, h2, h3, Kind.sl_keep h4 hb, Kind.sl_keep h5 hb⟩
def mdK : Kind Md where
  size := 4
  told S cs x := ∃ t s p f, cs = [t, s, p, f] ∧ clK.slS S t x.table ∧ stK.slS S s x.sites ∧ txK.slS S p x.pool ∧ fuK.slS S f x.funcs
  len := by rintro _ _ _ ⟨_, _, _, _, rfl, _⟩; rfl
  keep := by rintro S S' cs a ⟨t, s, p, f, h1, h2, h3, h4, h5⟩ hb; exact ⟨t, s, p, f, h1, Kind.sl_keep h2 hb, Kind.sl_keep h3 hb, Kind.sl_keep h4 hb, Kind.sl_keep h5 hb⟩
end Go.Proofs.YtcapdmicekialaaGreat
