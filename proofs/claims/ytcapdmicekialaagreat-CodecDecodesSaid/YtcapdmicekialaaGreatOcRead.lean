/- octet.Reader: what it holds; take; keep. -/
import Derived.Test.YtcapdmicekialaaGreatOcKit
import Derived.Defers
import Derived.Recover
import Derived.Laws.Pointers
import Derived.WalkLawsBesides
namespace Go.Proofs.YtcapdmicekialaaGreat
open Go.RowKit
attribute [local go_sem] Oper.semAt_some run_store_func run_store_nilFunc

/-- A reader that was made. -/
structure Rd (w : World) (p : Nat) (bs : List UInt8) (at_ : Nat) (err eat : Int) (v : Value) : Prop where
  blk : Blk w p 152 #[v, .int .i64 at_, .int .i64 err, .int .i64 eat, .bool true]
  own : w.ownsRow 0 5 1 v bs.length (bytesV bs)
  le : at_ ≤ bs.length
  small : bs.length ≤ 140737488355328
theorem Rd.keep {w w' : World} {p at_ : Nat} {err eat : Int} {bs : List UInt8} {v : Value} {S : Nat → Prop} (h : Rd w p bs at_ err eat v) (ho : Only S w w') (hS : ∀ b, foot p v b → ¬ S b) : Rd w' p bs at_ err eat v :=
  ⟨(ho.block p h.blk.lt (hS p (.inl rfl))).trans h.blk, own_only ho h.own (fun g _ hg => hS g (.inr hg.symm)), h.le, h.small⟩
theorem Rd.drewN {w : World} {p at_ : Nat} {err eat : Int} {bs : List UInt8} {v : Value} (h : Rd w p bs at_ err eat v) (n : Nat) : Rd (w.drewN n) p bs at_ err eat v := h.keep (Only.drewN (fun _ => False) w n) (fun _ _ h => h)
theorem Rd.at_set {w : World} {p at_ : Nat} {err eat : Int} {bs : List UInt8} {v : Value} (h : Rd w p bs at_ err eat v) (k : Nat) (hk : k ≤ bs.length) : Rd (w.setCell ⟨p, 1, none⟩ (.int .i64 k)) p bs k err eat v := by
  have ho := Only.setCell (S := (· = p)) w ⟨p, 1, none⟩ (.int .i64 k) rfl
  have hne := own_blk_ne h.own h.blk (by decide)
  exact ⟨h.blk.set_ 1 _, own_only ho h.own (fun g _ hg e => hne (by rw [hg, e])), hk, h.small⟩
/-- The reader where it stands, and nothing else turned. -/
def RdAt (p : Nat) (bs : List UInt8) (at_ : Nat) (err eat : Int) (v : Value) (w w' : World) : Prop := Rd w' p bs at_ err eat v ∧ Only (· = p) w w'
theorem rdnone_made (p : Nat) (w : World) (h : w.cell? ⟨p, 4, none⟩ = some (.bool true)) : Calls Tryz.prog 110 #[.pointer (some ⟨p, 0, none⟩)] w fun e w' => e = .returned (.bool false) ∧ w = w' := by
  go_enter Tryz.func110, Tryz.ntmps110
  go_wp2
  go_ret
  exact ⟨rfl, rfl⟩
/-- A fault on its way up. -/
def brk (e : Int) : Value := .iface 180 (.agg #[.int .i64 e])
set_option maxHeartbeats 800000 in
theorem take_end (p : Nat) (bs : List UInt8) (at_ : Nat) (err eat : Int) (v : Value) (w : World) (h : Rd w p bs at_ err eat v) (ha : at_ = bs.length) :
    Calls Tryz.prog 137 #[.pointer (some ⟨p, 0, none⟩)] w fun e w' => e = .panicked [{ v := brk 13, recovered := false }] ∧ RdAt p bs at_ err eat v w w' := by
  subst ha
  obtain ⟨Av, cv, rfl, _⟩ := own_form h.own
  have c0 := h.blk.cell 0
  have c1 := h.blk.cell 1
  simp at c0 c1
  have H := Lib.hid h
  clear h
  go_enter Tryz.func137, Tryz.ntmps137
  go_wp2_with fail
  go_quiet (fail)
  go_wp2_with fail
  exact ⟨rfl, rfl, H.out.drewN nq, Only.drewN _ _ _⟩
set_option maxHeartbeats 800000 in
theorem take_one (p : Nat) (bs : List UInt8) (at_ : Nat) (err eat : Int) (v : Value) (w : World) (h : Rd w p bs at_ err eat v) (ha : at_ < bs.length) :
    Calls Tryz.prog 137 #[.pointer (some ⟨p, 0, none⟩)] w fun e w' => e = .returned (.int .u8 bs[at_].toNat) ∧ RdAt p bs (at_ + 1) err eat v w w' := by
  obtain ⟨g, cv, rfl, _, _⟩ := h.own.form (by omega)
  have c0 := h.blk.cell 0
  have c1 := h.blk.cell 1
  have f1 := h.blk.frozen 1
  simp at c0 c1
  have H := Lib.hid h
  have hne : ((at_ : Int) == (bs.length : Int)) = false := by rw [beq_eq_false_iff_ne]; omega
  have hs := h.small
  clear h
  go_enter Tryz.func137, Tryz.ntmps137
  go_wp2_with fail
  go_quiet (fail)
  go_wp2_with fail
  have h1 := (H.out.drewN nq).at_set (at_ + 1) (by omega)
  have h2 : Only (· = p) w ((w.drewN nq).setCell ⟨p, 1, none⟩ (.int .i64 ((at_ + 1 : Nat) : Int))) := (Only.drewN _ w nq).trans (Only.setCell (S := (· = p)) _ ⟨p, 1, none⟩ _ rfl)
  rw [Int.natCast_add] at h1 h2
  change Code.wp _ _ _ _ ((w.drewN nq).setCell ⟨p, 1, none⟩ (.int .i64 ((at_ : Int) + ((1 : Nat) : Int))))
  clear c0 c1 f1 hne H
  generalize ((w.drewN nq).setCell ⟨p, 1, none⟩ (.int .i64 ((at_ : Int) + ((1 : Nat) : Int)))) = W1 at *
  have c0 := h1.blk.cell 0
  have c1 := h1.blk.cell 1
  simp at c0 c1
  have hc := World.ownsRow.cellAt h1.own at_ (by omega)
  rw [show (bytesV bs)[at_]? = some (.int .u8 (bs[at_].toNat : Int)) from by unfold bytesV; rw [List.getElem?_map, List.getElem?_eq_getElem ha]; rfl] at hc
  have hw1 : IntKind.i64.wrap (at_ : Int) = at_ := IntWalk.i64_in _ (by omega)
  have hlt : (at_ : Int) < (bs.length : Int) := by omega
  have H1 := Lib.hid h1
  clear h1
  go_quiet (fail)
  go_wp2_with fail
  go_ret
  exact ⟨rfl, H1.out.drewN nq, h2.trans (Only.drewN _ _ _)⟩
end Go.Proofs.YtcapdmicekialaaGreat
