/- codec.writer: variable, method, class, site, ins, function. -/
import Derived.Test.YtcapdmicekialaaCoPut
namespace Go.Proofs.Ytcapdmicekialaa
open Go.RowKit
set_option linter.unusedVariables false
set_option linter.unusedSimpArgs false
attribute [local go_sem] Oper.semAt_some run_store_func run_store_nilFunc
def vrC (st : CS) (x : Vr) : CS := wordsC st [x.1, x.2]
def sgC (st : CS) (x : Sg) : CS := wordC (putC vrC (wordC st x.name) x.params) x.result
def clC (st : CS) (x : Cl) : CS := putC sgC (putC vrC (wordsC st [x.name, x.super]) x.fields) x.methods
def stC (st : CS) (x : St) : CS := wordsC (numC st x.what) [x.src, x.dst]
def inC (st : CS) (x : In) : CS := opC (opC (opC (numC st x.op) x.a) x.b) x.c
def fuC (st : CS) (x : Fu) : CS := putC inC (putC wordC (wordsC st [x.cls, x.name]) x.locals) x.code
section
variable {N : Nat} {w0 W : World} {R M : Thing} {p : Nat} {st : CS}
theorem tx2 (b : Nat) (e : TypeId) (s t : ByteArray) (hs : sz s) (ht : sz t) : txK.slS (At N w0 (blkT b e #[.string s, .string t])) (.slice (some ⟨b, 0, none⟩) 2 2) [s, t] := by
  refine ⟨_, 2, [[.string s], [.string t]], rfl, ?_, ⟨⟨rfl, hs⟩, ⟨rfl, ht⟩, trivial⟩, by simp⟩
  rintro W ⟨R, h⟩
  refine ⟨rfl, fun _ => ⟨_, rfl, h.blk.1.lt, fun j u hu => ?_⟩⟩
  rw [Addr.add_lit, Nat.zero_add, h.blk.1.cell j, ← hu]
  match j with
  | 0 => rfl
  | 1 => rfl
  | j + 2 => rfl
/-- w.words(s, t). -/
theorem cwords2 (b : Nat) (e : TypeId) (s t : ByteArray) (hs : sz s) (ht : sz t) (H : Lies N w0 W (sepT (cwT p st) (sepT (blkT b e #[.string s, .string t]) R))) : Calls Try.prog 91 #[.pointer (some ⟨p, 0, none⟩), .slice (some ⟨b, 0, none⟩) 2 2] W fun e W' => e = .returned (.tuple #[]) ∧ Lies N w0 W' (sepT (cwT p (wordsC st [s, t])) R) :=
  (cwords_any [s, t] _ (tx2 b e s t hs ht) H).mono fun e W' ⟨he, h⟩ => ⟨he, (h.turn (a' := sepT (blkT b _ #[.string s, .string t]) (sepT (cwT p (wordsC st [s, t])) R)) (by ac_rfl)).drop⟩
set_option maxRecDepth 100000 in
theorem cvar_any {S : World → Prop} (cs : List Value) (x : Vr) (h : vrK.told S cs x) (H : Lies N w0 W (sepT (cwT p st) R)) : Calls Try.prog 93 #[.pointer (some ⟨p, 0, none⟩), .agg cs.toArray] W fun e W' => e = .returned (.tuple #[]) ∧ Lies N w0 W' (sepT (cwT p (vrC st x)) R) := by
  obtain ⟨rfl, h1, h2⟩ := h
  have hb := (H.alloc (.cells #[.string x.1, .string x.2] 151)).newBlk 9 #[.string x.1, .string x.2]
  have hsz : (W.alloc (.cells #[.string x.1, .string x.2] 151)).heap.size = W.heap.size + 1 := by simp
  rw [hsz] at hb
  have HC := Lib.hid (cwords2 _ _ _ _ h1 h2 (hb.turn (a' := sepT (cwT p st) (sepT (blkT (W.heap.size + 1) 9 #[.string x.1, .string x.2]) R)) (by ac_rfl)))
  clear H hb h1 h2 hsz
  show Calls Try.prog 93 #[.pointer (some ⟨p, 0, none⟩), .agg #[.string x.1, .string x.2]] W _
  go_enter Try.func93, Try.ntmps93
  go_wp2_with fail
  refine HC.out.mono ?_
  rintro e w1 ⟨rfl, h⟩
  have HF := Lib.hid h
  clear h HC
  go_wp2_with fail
  go_end0
  exact ⟨rfl, HF.out⟩
set_option maxRecDepth 100000 in
theorem csite_any {S : World → Prop} (cs : List Value) (x : St) (h : stK.told S cs x) (H : Lies N w0 W (sepT (cwT p st) R)) : Calls Try.prog 57 #[.pointer (some ⟨p, 0, none⟩), .agg cs.toArray] W fun e W' => e = .returned (.tuple #[]) ∧ Lies N w0 W' (sepT (cwT p (stC st x)) R) := by
  obtain ⟨rfl, h1, h2, h3⟩ := h
  have hb := (H.newBlk 99 #[.int .i64 x.what, .string x.src, .string x.dst]).turn (a' := sepT (cwT p st) (sepT (blkT W.heap.size 99 #[.int .i64 x.what, .string x.src, .string x.dst]) R)) (by ac_rfl)
  obtain ⟨o, c0, hc⟩ := cw_num hb.drew
  have HC := Lib.hid (hc x.what h1)
  have HZ := Lib.hid (And.intro h2 h3)
  have HN := Lib.hid (fun n => (cw_num (hb.drewN n)))
  clear H hb h1 h2 h3 hc
  show Calls Try.prog 57 #[.pointer (some ⟨p, 0, none⟩), .agg #[.int .i64 x.what, .string x.src, .string x.dst]] W _
  go_enter Try.func57, Try.ntmps57
  go_wp2_with fail
  refine wp_region_text [6] (fun _ => 0) (fun i => if i = 6 then 1 else 0) (by kernel_rfl) (by kernel_rfl) (by kernel_rfl) (by kernel_rfl) (by kernel_rfl) ?_
  repeat (refine wpTx_now (by rfl) (by rfl) (by rfl) (fun K hK => ?_); go_simp; refine hK _ ?_; clear hK K)
  refine wpTx_eff (by rfl) (fun K hK => ?_)
  go_simp
  refine HC.out.mono ?_
  rintro e w1 ⟨⟨E, rfl⟩, h⟩
  have hbl := (h.turn (a' := sepT (blkT W.heap.size 99 #[.int .i64 x.what, .string x.src, .string x.dst]) (sepT (cwT p (numC st x.what)) R)) (by ac_rfl))
  have d1 := hbl.blk.1.cell 1
  have d2 := hbl.blk.1.cell 2
  simp at d1 d2
  have HC2 := Lib.hid (cwords2 _ _ _ _ HZ.out.1 HZ.out.2 ((hbl.drop.newBlk 9 #[.string x.src, .string x.dst]).turn (a' := sepT (cwT p (numC st x.what)) (sepT (blkT w1.heap.size 9 #[.string x.src, .string x.dst]) R)) (by ac_rfl)))
  refine ⟨_, rfl, hK _ _ (by simp [lateOK]) ?_⟩
  clear hK K h hbl HC HN c0
  refine wpTx_nil ?_
  go_wp2_with fail
  refine HC2.out.mono ?_
  rintro e w2 ⟨rfl, h⟩
  have HF := Lib.hid h
  clear h HC2
  go_wp2_with fail
  go_end0
  exact ⟨rfl, HF.out⟩
set_option maxRecDepth 100000 in
set_option maxHeartbeats 800000 in
theorem cmeth_any (cs : List Value) (x : Sg) (h : sgK.told (At N w0 M) cs x) (H : Lies N w0 W (sepT (cwT p st) (sepT M R))) : Calls Try.prog 95 #[.pointer (some ⟨p, 0, none⟩), .agg cs.toArray] W fun e W' => e = .returned (.tuple #[]) ∧ Lies N w0 W' (sepT (cwT p (sgC st x)) (sepT M R)) := by
  obtain ⟨ps, rfl, h1, h2, h3⟩ := h
  obtain ⟨A, c, rfl, hl⟩ := Kind.sl_form h3
  have hb := (H.newBlk 136 #[.string x.name, .slice A x.params.length c, .string x.result]).turn (a' := sepT (cwT p st) (sepT M (sepT (blkT W.heap.size 136 #[.string x.name, .slice A x.params.length c, .string x.result]) R))) (by ac_rfl)
  have HC := Lib.hid (cword_any x.name h1 hb)
  have HS := Lib.hid h3
  have HZ := Lib.hid h2
  have hmf : ∀ fn first cap (w : World), (Instr.makeFunc fn first cap).run Try.prog w = .ok (.func fn first cap) w := fun _ _ _ _ => rfl
  clear H hb h1 h2 h3
  show Calls Try.prog 95 #[.pointer (some ⟨p, 0, none⟩), .agg #[.string x.name, .slice A x.params.length c, .string x.result]] W _
  go_enter Try.func95, Try.ntmps95
  go_wp2_with fail
  refine HC.out.mono ?_
  rintro e w1 ⟨rfl, h⟩
  have d1 := (h.turn (a' := sepT (blkT W.heap.size 136 #[.string x.name, .slice A x.params.length c, .string x.result]) (sepT (cwT p (wordC st x.name)) (sepT M R))) (by ac_rfl)).blk.1.cell 1
  simp at d1
  have HC2 := Lib.hid (putVr_any 93 vrC (fun _ _ => rfl) x.params _ HS.out (fun W' st' cs y _ hy h => cvar_any cs y hy h) h)
  clear h HC
  go_wp2_with fail
  refine HC2.out.mono ?_
  rintro e w2 ⟨rfl, h⟩
  have d2 := (h.turn (a' := sepT (blkT W.heap.size 136 #[.string x.name, .slice A x.params.length c, .string x.result]) (sepT (cwT p (putC vrC (wordC st x.name) x.params)) (sepT M R))) (by ac_rfl)).blk.1.cell 2
  simp at d2
  have HC3 := Lib.hid (cword_any x.result HZ.out h)
  clear h HC2 d1
  go_wp2_with fail
  refine HC3.out.mono ?_
  rintro e w3 ⟨rfl, h⟩
  have HF := Lib.hid ((h.turn (a' := sepT (blkT W.heap.size 136 #[.string x.name, .slice A x.params.length c, .string x.result]) (sepT (cwT p (sgC st x)) (sepT M R))) (by unfold sgC; ac_rfl)).drop)
  clear h HC3 d2
  go_wp2_with fail
  go_end0
  exact ⟨rfl, HF.out⟩
set_option maxRecDepth 100000 in
set_option maxHeartbeats 800000 in
theorem ccls_any (cs : List Value) (x : Cl) (h : clK.told (At N w0 M) cs x) (H : Lies N w0 W (sepT (cwT p st) (sepT M R))) : Calls Try.prog 55 #[.pointer (some ⟨p, 0, none⟩), .agg cs.toArray] W fun e W' => e = .returned (.tuple #[]) ∧ Lies N w0 W' (sepT (cwT p (clC st x)) (sepT M R)) := by
  obtain ⟨fs, ms, rfl, h1, h2, h3, h4⟩ := h
  obtain ⟨A, c, rfl, hl⟩ := Kind.sl_form h3
  obtain ⟨B, d, rfl, hl2⟩ := Kind.sl_form h4
  have hb := (H.newBlk 95 #[.string x.name, .string x.super, .slice A x.fields.length c, .slice B x.methods.length d]).newBlk 9 #[.string x.name, .string x.super]
  have hsz : (W.alloc (.cells #[.string x.name, .string x.super, .slice A x.fields.length c, .slice B x.methods.length d] 95)).heap.size = W.heap.size + 1 := by simp
  rw [hsz] at hb
  have HC := Lib.hid (cwords2 _ _ _ _ h1 h2 (hb.turn (a' := sepT (cwT p st) (sepT (blkT (W.heap.size + 1) 9 #[.string x.name, .string x.super]) (sepT M (sepT (blkT W.heap.size 95 #[.string x.name, .string x.super, .slice A x.fields.length c, .slice B x.methods.length d]) R)))) (by ac_rfl)))
  have HS := Lib.hid h3
  have HS2 := Lib.hid h4
  have hmf : ∀ fn first cap (w : World), (Instr.makeFunc fn first cap).run Try.prog w = .ok (.func fn first cap) w := fun _ _ _ _ => rfl
  clear H hb hsz h1 h2 h3 h4
  show Calls Try.prog 55 #[.pointer (some ⟨p, 0, none⟩), .agg #[.string x.name, .string x.super, .slice A x.fields.length c, .slice B x.methods.length d]] W _
  go_enter Try.func55, Try.ntmps55
  go_wp2_with fail
  refine HC.out.mono ?_
  rintro e w1 ⟨rfl, h⟩
  have d2 := (h.turn (a' := sepT (blkT W.heap.size 95 #[.string x.name, .string x.super, .slice A x.fields.length c, .slice B x.methods.length d]) (sepT (cwT p (wordsC st [x.name, x.super])) (sepT M R))) (by ac_rfl)).blk.1.cell 2
  simp at d2
  have HC2 := Lib.hid (putVr_any 93 vrC (fun _ _ => rfl) x.fields _ HS.out (fun W' st' cs y _ hy h => cvar_any cs y hy h) h)
  clear h HC
  go_wp2_with fail
  refine HC2.out.mono ?_
  rintro e w2 ⟨rfl, h⟩
  have d3 := (h.turn (a' := sepT (blkT W.heap.size 95 #[.string x.name, .string x.super, .slice A x.fields.length c, .slice B x.methods.length d]) (sepT (cwT p (putC vrC (wordsC st [x.name, x.super]) x.fields)) (sepT M R))) (by ac_rfl)).blk.1.cell 3
  simp at d3
  have HC3 := Lib.hid (putSg_any 95 sgC (fun _ _ => rfl) x.methods _ HS2.out (fun W' st' cs y _ hy h => cmeth_any cs y hy h) h)
  clear h HC2 d2
  go_wp2_with fail
  refine HC3.out.mono ?_
  rintro e w3 ⟨rfl, h⟩
  have HF := Lib.hid ((h.turn (a' := sepT (blkT W.heap.size 95 #[.string x.name, .string x.super, .slice A x.fields.length c, .slice B x.methods.length d]) (sepT (cwT p (clC st x)) (sepT M R))) (by unfold clC; ac_rfl)).drop)
  clear h HC3 d3
  go_wp2_with fail
  go_end0
  exact ⟨rfl, HF.out⟩
theorem aidx0 (a b c : Int) (w : World) : (Instr.index 174 (.agg #[.int .i64 a, .int .i64 b, .int .i64 c]) (.int .i64 0)).run Try.prog w = .ok (.int .i64 a) w := by kernel_rfl
theorem aidx1 (a b c : Int) (w : World) : (Instr.index 174 (.agg #[.int .i64 a, .int .i64 b, .int .i64 c]) (.int .i64 1)).run Try.prog w = .ok (.int .i64 b) w := by kernel_rfl
theorem aidx2 (a b c : Int) (w : World) : (Instr.index 174 (.agg #[.int .i64 a, .int .i64 b, .int .i64 c]) (.int .i64 2)).run Try.prog w = .ok (.int .i64 c) w := by kernel_rfl
set_option maxRecDepth 100000 in
set_option maxHeartbeats 1600000 in
theorem cins_any {S : World → Prop} (cs : List Value) (x : In) (h : inK.told S cs x) (H : Lies N w0 W (sepT (cwT p st) R)) : Calls Try.prog 97 #[.pointer (some ⟨p, 0, none⟩), .agg cs.toArray] W fun e W' => e = .returned (.tuple #[]) ∧ Lies N w0 W' (sepT (cwT p (inC st x)) R) := by
  obtain ⟨rfl, h1, h2, h3, h4⟩ := h
  obtain ⟨op, a, b, c⟩ := x
  have hb := (H.newBlk 146 #[.int .i64 op, .int .i64 a, .int .i64 b, .int .i64 c]).turn (a' := sepT (cwT p st) (sepT (blkT W.heap.size 146 #[.int .i64 op, .int .i64 a, .int .i64 b, .int .i64 c]) R)) (by ac_rfl)
  obtain ⟨o, c0, hc⟩ := cw_num hb.drew
  have HC := Lib.hid (hc op h1)
  have HZ := Lib.hid (And.intro h2 (And.intro h3 h4))
  clear H hb h1 h2 h3 h4 hc
  show Calls Try.prog 97 #[.pointer (some ⟨p, 0, none⟩), .agg #[.int .i64 op, .int .i64 a, .int .i64 b, .int .i64 c]] W _
  go_enter Try.func97, Try.ntmps97
  go_wp2_with fail
  refine wp_region_text [6] (fun _ => 0) (fun i => if i = 6 then 1 else 0) (by kernel_rfl) (by kernel_rfl) (by kernel_rfl) (by kernel_rfl) (by kernel_rfl) ?_
  repeat (refine wpTx_now (by rfl) (by rfl) (by rfl) (fun K hK => ?_); go_simp; refine hK _ ?_; clear hK K)
  refine wpTx_eff (by rfl) (fun K hK => ?_)
  go_simp
  refine HC.out.mono ?_
  rintro e w1 ⟨⟨E, rfl⟩, h⟩
  have hbl := (h.turn (a' := sepT (blkT W.heap.size 146 #[.int .i64 op, .int .i64 a, .int .i64 b, .int .i64 c]) (sepT (cwT p (numC st op)) R)) (by ac_rfl))
  have d1 := hbl.blk.1.cell 1
  have d2 := hbl.blk.1.cell 2
  have d3 := hbl.blk.1.cell 3
  simp at d1 d2 d3
  have HH := Lib.hid hbl.drop
  refine ⟨_, rfl, hK _ _ (by simp [lateOK]) ?_⟩
  clear hK K h hbl HC c0
  refine wpTx_nil ?_
  have x0 := aidx0
  have x1 := aidx1
  have x2 := aidx2
  go_wp2_with fail
  go_loopw [20] (fun ix wr => (ix = .int .i64 0 ∧ Lies N w0 wr (sepT (cwT p (numC st op)) R)) ∨ (ix = .int .i64 1 ∧ Lies N w0 wr (sepT (cwT p (opC (numC st op) a)) R)) ∨ (ix = .int .i64 2 ∧ Lies N w0 wr (sepT (cwT p (opC (opC (numC st op) a) b)) R)) ∨ (ix = .int .i64 3 ∧ Lies N w0 wr (sepT (cwT p (inC st ⟨op, a, b, c⟩)) R))) (fun ix _ => 3 - (intOf ix).toNat)
  case atStart => exact .inl ⟨rfl, HH.out⟩
  case round =>
    clear HH d1 d2 d3
    rcases hrel with ⟨rfl, hh⟩ | ⟨rfl, hh⟩ | ⟨rfl, hh⟩ | ⟨rfl, hh⟩
    · have HC := Lib.hid (cop_any a HZ.out.1 hh)
      clear hh
      go_wp2_with fail
      refine HC.out.mono ?_
      rintro e w2 ⟨rfl, h⟩
      have HF := Lib.hid h
      clear h HC
      go_wp2_with fail
      go_roundw
      case rel => exact .inr (.inl ⟨rfl, HF.out⟩)
      case measure => simp [intOf]
    · have HC := Lib.hid (cop_any b HZ.out.2.1 hh)
      clear hh
      go_wp2_with fail
      refine HC.out.mono ?_
      rintro e w2 ⟨rfl, h⟩
      have HF := Lib.hid h
      clear h HC
      go_wp2_with fail
      go_roundw
      case rel => exact .inr (.inr (.inl ⟨rfl, HF.out⟩))
      case measure => simp [intOf]
    · have HC := Lib.hid (cop_any c HZ.out.2.2 hh)
      clear hh
      go_wp2_with fail
      refine HC.out.mono ?_
      rintro e w2 ⟨rfl, h⟩
      have HF := Lib.hid h
      clear h HC
      go_wp2_with fail
      go_roundw
      case rel => exact .inr (.inr (.inr ⟨rfl, HF.out⟩))
      case measure => simp [intOf]
    · have HF := Lib.hid hh
      clear hh
      go_wp2_with fail
      go_end0
      exact ⟨rfl, HF.out⟩
set_option maxRecDepth 100000 in
set_option maxHeartbeats 800000 in
theorem cfun_any (cs : List Value) (x : Fu) (h : fuK.told (At N w0 M) cs x) (H : Lies N w0 W (sepT (cwT p st) (sepT M R))) : Calls Try.prog 61 #[.pointer (some ⟨p, 0, none⟩), .agg cs.toArray] W fun e W' => e = .returned (.tuple #[]) ∧ Lies N w0 W' (sepT (cwT p (fuC st x)) (sepT M R)) := by
  obtain ⟨fs, ms, rfl, h1, h2, h3, h4⟩ := h
  obtain ⟨A, c, rfl, hl⟩ := Kind.sl_form h3
  obtain ⟨B, d, rfl, hl2⟩ := Kind.sl_form h4
  have hb := (H.newBlk 106 #[.string x.cls, .string x.name, .slice A x.locals.length c, .slice B x.code.length d]).newBlk 9 #[.string x.cls, .string x.name]
  have hsz : (W.alloc (.cells #[.string x.cls, .string x.name, .slice A x.locals.length c, .slice B x.code.length d] 106)).heap.size = W.heap.size + 1 := by simp
  rw [hsz] at hb
  have HC := Lib.hid (cwords2 _ _ _ _ h1 h2 (hb.turn (a' := sepT (cwT p st) (sepT (blkT (W.heap.size + 1) 9 #[.string x.cls, .string x.name]) (sepT M (sepT (blkT W.heap.size 106 #[.string x.cls, .string x.name, .slice A x.locals.length c, .slice B x.code.length d]) R)))) (by ac_rfl)))
  have HS := Lib.hid h3
  have HS2 := Lib.hid h4
  have hmf : ∀ fn first cap (w : World), (Instr.makeFunc fn first cap).run Try.prog w = .ok (.func fn first cap) w := fun _ _ _ _ => rfl
  clear H hb hsz h1 h2 h3 h4
  show Calls Try.prog 61 #[.pointer (some ⟨p, 0, none⟩), .agg #[.string x.cls, .string x.name, .slice A x.locals.length c, .slice B x.code.length d]] W _
  go_enter Try.func61, Try.ntmps61
  go_wp2_with fail
  refine HC.out.mono ?_
  rintro e w1 ⟨rfl, h⟩
  have d2 := (h.turn (a' := sepT (blkT W.heap.size 106 #[.string x.cls, .string x.name, .slice A x.locals.length c, .slice B x.code.length d]) (sepT (cwT p (wordsC st [x.cls, x.name])) (sepT M R))) (by ac_rfl)).blk.1.cell 2
  simp at d2
  have HC2 := Lib.hid (putTx_any 59 wordC (fun _ _ => rfl) x.locals _ HS.out (fun W' st' cs y _ hy h => cword_any y hy.2 h) h)
  clear h HC
  go_wp2_with fail
  refine HC2.out.mono ?_
  rintro e w2 ⟨rfl, h⟩
  have d3 := (h.turn (a' := sepT (blkT W.heap.size 106 #[.string x.cls, .string x.name, .slice A x.locals.length c, .slice B x.code.length d]) (sepT (cwT p (putC wordC (wordsC st [x.cls, x.name]) x.locals)) (sepT M R))) (by ac_rfl)).blk.1.cell 3
  simp at d3
  have HC3 := Lib.hid (putIn_any 97 inC (fun _ _ => rfl) x.code _ HS2.out (fun W' st' cs y _ hy h => cins_any cs y hy h) h)
  clear h HC2 d2
  go_wp2_with fail
  refine HC3.out.mono ?_
  rintro e w3 ⟨rfl, h⟩
  have HF := Lib.hid ((h.turn (a' := sepT (blkT W.heap.size 106 #[.string x.cls, .string x.name, .slice A x.locals.length c, .slice B x.code.length d]) (sepT (cwT p (fuC st x)) (sepT M R))) (by unfold fuC; ac_rfl)).drop)
  clear h HC3 d3
  go_wp2_with fail
  go_end0
  exact ⟨rfl, HF.out⟩
end
end Go.Proofs.Ytcapdmicekialaa
