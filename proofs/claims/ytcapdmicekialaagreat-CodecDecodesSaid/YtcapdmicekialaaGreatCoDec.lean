/- codec.Decode: what it tells, or why none. -/
import Derived.Test.YtcapdmicekialaaGreatCoRdAll
import Derived.Test.YtcapdmicekialaaGreatOcRdr3
namespace Go.Proofs.YtcapdmicekialaaGreat
open Go.RowKit
set_option linter.unusedVariables false
set_option linter.unusedSimpArgs false
attribute [local go_sem] Oper.semAt_some run_store_func run_store_nilFunc
theorem results_cells2 {fn : Func} {P : Program} {p q : Tmp} {ty ty' : TypeId} (h : fn.results = #[.cell p ty, .cell q ty']) (tmps : Array Value) (w : World) (g g' : Nat) (t t' : TypeId) (cs cs' : Array Value) (fr fr' : Nat × Nat) (d d' : TypeDesc)
    (hp : tmps.getD p undef = .pointer (some ⟨g, 0, none⟩)) (hg : w.heap[g]? = some (.cells cs t fr)) (hu : P.underlying ty = some d) (hd : (match d with | .struct _ | .array _ _ => true | _ => false) = true) (hi : (P.info? ty).map (·.size) = some cs.size)
    (hp2 : tmps.getD q undef = .pointer (some ⟨g', 0, none⟩)) (hg2 : w.heap[g']? = some (.cells cs' t' fr')) (hu2 : P.underlying ty' = some d') (hd2 : (match d' with | .struct _ | .array _ _ => true | _ => false) = true) (hi2 : (P.info? ty').map (·.size) = some cs'.size) :
    (results fn tmps).run P w = .ok (.tuple #[.agg cs, .agg cs']) w := by
  have hp' : tmps[p]?.getD undef = .pointer (some ⟨g, 0, none⟩) := by simpa using hp
  have hp2' : tmps[q]?.getD undef = .pointer (some ⟨g', 0, none⟩) := by simpa using hp2
  simp [results, h, hp', hp2', asAddr, run_loadVar_row w g t ty cs fr d hg hu hd hi, run_loadVar_row w g' t' ty' cs' fr' d' hg2 hu2 hd2 hi2, Sem.run_bind]
theorem assert_wrong (f : Int × Int) (w : World) : (Instr.typeAssert (wrongV f) 20 88 true).run Tryz.prog w = .ok (.tuple #[.agg #[.int .i64 f.1, .int .i64 f.2], .bool true]) w := by kernel_rfl
theorem dkeep_idle (p q : Nat) (w : World) :
    CallsD Tryz.prog 46 #[.pointer (some ⟨p, 0, none⟩), .pointer (some ⟨q, 0, none⟩)] .returning w fun e u' w' => e = .returned (.tuple #[]) ∧ u' = .returning ∧ w = w' := by
  refine callsD_of_wpS Tryz.func46 rfl fun c₀ cs hu => ?_
  apply wpS_seq
  apply wpS_region
  simp [wpOpsS, go_sem, recoverD, hu, Tryz.ntmps46, Exit.thenS]
  refine wpS_of_wp ?_
  simp only [Array.replicate_succ, Array.replicate_zero, List.push_toArray, List.append_toArray, List.nil_append, List.cons_append, List.setIfInBounds_toArray, List.set_cons_succ, List.set_cons_zero]
  go_wp2_with fail
  obtain ⟨c1, c2, c3, c4, c5, c6, c7⟩ := c₀
  simp only at hu
  subst hu
  simp [bodyPostS, results, Tryz.results46]
def loKe (i : Nat) : Nat := [0, 0, 0, 0, 1].getD i 0
def upKe (i : Nat) : Nat := [0, 1, 1, 1, 2].getD i 0
section
variable {N : Nat} {w0 W : World} {R M : Thing} {p q : Nat} {bs : List UInt8} {s : RS}
abbrev z4 : Array Value := #[.slice none 0 0, .slice none 0 0, .slice none 0 0, .slice none 0 0]
set_option maxRecDepth 100000 in
set_option maxHeartbeats 1600000 in
theorem dkeep_panic (f : Int × Int) (older : List PanicEntry) (a b c d e0 e1 : Value) (H : Lies N w0 W (sepT (blkT p 27 #[a, b, c, d]) (sepT (blkT q 40 #[e0, e1]) R))) :
    CallsD Tryz.prog 46 #[.pointer (some ⟨p, 0, none⟩), .pointer (some ⟨q, 0, none⟩)] (.panicking ({ v := wrongV f, recovered := false } :: older)) W fun e' u' w' =>
      e' = .returned (.tuple #[]) ∧ u' = .panicking ({ v := wrongV f, recovered := true } :: older) ∧ Lies N w0 w' (sepT (blkT p 27 z4) (sepT (blkT q 40 #[.int .i64 f.1, .int .i64 f.2]) R)) := by
  have h1 := (H.alloc (.cells #[.int .i64 f.1, .int .i64 f.2] 88))
  have hp := h1.blk.1
  have h2 := h1.turn (a' := sepT (blkT q 40 #[e0, e1]) (sepT (blkT p 27 #[a, b, c, d]) R)) (by ac_rfl)
  have hq := h2.blk.1
  have c0 := hp.cell 0
  have c1 := hp.cell 1
  have c2 := hp.cell 2
  have c3 := hp.cell 3
  have f0 := hp.frozen 0
  have f1 := hp.frozen 1
  have f2 := hp.frozen 2
  have f3 := hp.frozen 3
  have d0 := hq.cell 0
  have d1 := hq.cell 1
  have g0 := hq.frozen 0
  have g1 := hq.frozen 1
  simp at c0 c1 c2 c3 d0 d1
  have hpq : ¬ p = q := fun e => by
    subst e
    exact Blk.ne_ (t := 27) (t' := 40) hp hq (by decide) rfl
  have hqp : ¬ q = p := fun e => hpq e.symm
  have hlp : p < W.heap.size := H.blk.1.lt
  have hlq : q < W.heap.size := (H.turn (a' := sepT (blkT q 40 #[e0, e1]) (sepT (blkT p 27 #[a, b, c, d]) R)) (by ac_rfl)).blk.1.lt
  have hnp : ¬ W.heap.size = p := by omega
  have hnq : ¬ W.heap.size = q := by omega
  have hnp' : ¬ p = W.heap.size := by omega
  have hnq' : ¬ q = W.heap.size := by omega
  have HF : Hid (Lies N w0 _ (sepT (blkT q 40 #[.int .i64 f.1, .int .i64 f.2]) (sepT (blkT p 27 z4) R))) := Lib.hid (((((((h1.setBlk 0 (.slice none 0 0)).setBlk 1 (.slice none 0 0)).setBlk 2 (.slice none 0 0)).setBlk 3 (.slice none 0 0)).turn (a' := sepT (blkT q 40 #[e0, e1]) (sepT (blkT p 27 z4) R)) (by show sepT (blkT p 27 z4) _ = _; ac_rfl)).setBlk 0 (.int .i64 f.1)).setBlk 1 (.int .i64 f.2)).drew
  clear H h1 h2 hp hq hlp hlq
  refine callsD_of_wpS Tryz.func46 rfl fun c₀ cs hu => ?_
  apply wpS_seq
  apply wpS_region
  simp [wpOpsS, go_sem, recoverD, hu, Tryz.ntmps46, Exit.thenS]
  refine wpS_of_wp ?_
  simp only [Array.replicate_succ, Array.replicate_zero, List.push_toArray, List.append_toArray, List.nil_append, List.cons_append, List.setIfInBounds_toArray, List.set_cons_succ, List.set_cons_zero]
  have hta := assert_wrong f
  unfold wrongV at hta ⊢
  go_wp2_with fail
  refine wp_region_text [3, 4] loKe upKe (by kernel_rfl) (by kernel_rfl) (by kernel_rfl) (by kernel_rfl) (by kernel_rfl) ?_
  repeat (first | (refine wpTx_now (by rfl) (by rfl) (by rfl) (fun K hK => ?_); go_simp; refine hK _ ?_; clear hK K) | (refine wpTx_late [] (by rfl) (by rfl) (by rfl) (fun K hK => ?_); go_simp; refine hK _ _ ?_; clear hK K))
  refine wpTx_eff (by rfl) (fun K hK => ?_)
  go_simp
  refine hK _ _ ?_ ?_
  · repeat (first | exact lateOK_nil | refine lateOK_skip (by rfl) ?_ | refine lateOK_cons (by go_simp) ?_)
  clear hK K
  refine wpTx_eff (by rfl) (fun K hK => ?_)
  go_simp
  refine hK _ _ ?_ ?_
  · repeat (first | exact lateOK_nil | refine lateOK_skip (by rfl) ?_ | refine lateOK_cons (by go_simp) ?_)
  clear hK K
  refine wpTx_nil ?_
  go_wp2_with fail
  refine ⟨rfl, _, rfl, .tuple #[], by simp [results, Tryz.results46], rfl, rfl, HF.out.turn (by ac_rfl)⟩
/-- What Decode comes to. -/
def DecE (N : Nat) (w0 : World) (R : Thing) (bs : List UInt8) (e : Ending) (w' : World) : Prop :=
  ∃ cs, e = .returned (.tuple #[.agg cs.toArray, .agg #[.int .i64 (decM bs).2.1, .int .i64 (decM bs).2.2]]) ∧ Lies N w0 w' (sepT (mdT.el cs (decM bs).1) R)
theorem justR_ok {want : Nat} {s' : RS} {u : Unit} (h : justR bs want s = .ok (u, s')) : s'.2.1 = 0 := by
  unfold justR at h
  rcases h1 : numR bs s with f | ⟨⟨a, at_⟩, s1⟩
  · rw [bind_err h1] at h; cases h
  · rw [bind_ok h1] at h
    have h2 := (numR_ok h1).2
    by_cases hd : a = want
    · rw [show (a == want) = true by simpa using hd] at h
      change Except.ok ((), s1) = _ at h
      injection h with h
      injection h with _ h
      exact h ▸ h2
    · rw [show (a == want) = false by simpa using hd] at h
      change Except.error _ = _ at h
      cases h
theorem md_in {x : Md} {A B C D : Option Addr} {a b c d : Nat} (H : Lies N w0 W (sepT (clT.slT 66 (.slice A x.table.length a) x.table) (sepT (stT.slT 70 (.slice B x.sites.length b) x.sites) (sepT (txT.slT 9 (.slice C x.pool.length c) x.pool) (sepT (fuT.slT 48 (.slice D x.funcs.length d) x.funcs) R))))) : Lies N w0 W (sepT (mdT.el [.slice A x.table.length a, .slice B x.sites.length b, .slice C x.pool.length c, .slice D x.funcs.length d] x) R) := by
  refine Lies.intro (.slice A x.table.length a, .slice B x.sites.length b, .slice C x.pool.length c, .slice D x.funcs.length d) ?_
  rw [factT_true rfl, empT_sep]
  exact H.turn (by ac_rfl)
theorem dec_err {f : Int × Int} (h : mdR bs (0, 0, 0) = .error f) : decM bs = (noMd, f) := by unfold decM; rw [h]
theorem no_in (H : Lies N w0 W R) : Lies N w0 W (sepT (mdT.el z4.toList noMd) R) := by
  refine Lies.intro (.slice none 0 0, .slice none 0 0, .slice none 0 0, .slice none 0 0) ?_
  rw [factT_true rfl, empT_sep]
  have h1 := clT.gro_sl (by decide) (clT.gro_nil 66 H)
  have h2 := stT.gro_sl (by decide) (stT.gro_nil 70 h1)
  have h3 := txT.gro_sl (by decide) (txT.gro_nil 9 h2)
  have h4 := fuT.gro_sl (by decide) (fuT.gro_nil 48 h3)
  exact h4.turn (by show _ = sepT (sepT (clT.slT 66 (.slice none 0 0) []) (sepT (stT.slT 70 (.slice none 0 0) []) (sepT (txT.slT 9 (.slice none 0 0) []) (fuT.slT 48 (.slice none 0 0) [])))) R; ac_rfl)
theorem dec_fault (f : Int × Int) (tmps : Array Value) (a b c d e0 e1 : Value) (h2 : tmps.getD 2 undef = .pointer (some ⟨p, 0, none⟩)) (h3 : tmps.getD 3 undef = .pointer (some ⟨q, 0, none⟩)) (hE : decM bs = (noMd, f))
    (H : Lies N w0 W (sepT (blkT p 27 #[a, b, c, d]) (sepT (blkT q 40 #[e0, e1]) R))) :
    bodyPostD Tryz.prog Tryz.f14 (DecE N w0 R bs) (.panic [{ v := wrongV f, recovered := false }]) { tmps := tmps, defers := [{ target := .fn (.func 46) #[.pointer (some ⟨p, 0, none⟩), .pointer (some ⟨q, 0, none⟩)], args := #[] }] } W := by
  show Leaves _ _ _ _ _ _ _
  refine leaves_cons (f := 46) (args := #[.pointer (some ⟨p, 0, none⟩), .pointer (some ⟨q, 0, none⟩)]) (by simp) (by simp [go_sem]) ?_
  refine (dkeep_panic f [] a b c d e0 e1 H).mono ?_
  rintro e u' w2 ⟨rfl, rfl, h⟩
  refine ⟨_, results_cells2 rfl _ _ p q 27 40 z4 #[.int .i64 f.1, .int .i64 f.2] (0, 0) (0, 0) _ _ h2 h.blk.1 Tryz.underlying27 rfl (by kernel_rfl) h3 (h.turn (a' := sepT (blkT q 40 #[.int .i64 f.1, .int .i64 f.2]) (sepT (blkT p 27 z4) R)) (by ac_rfl)).blk.1 Tryz.underlying40 rfl (by kernel_rfl), ?_⟩
  refine ⟨z4.toList, by rw [hE], ?_⟩
  rw [hE]
  exact no_in h.drop.drop
theorem dec_done (m : Md) (tmps : Array Value) (a b c d : Value) (h2 : tmps.getD 2 undef = .pointer (some ⟨p, 0, none⟩)) (h3 : tmps.getD 3 undef = .pointer (some ⟨q, 0, none⟩)) (hE : decM bs = (m, (0, 0)))
    (H : Lies N w0 W (sepT (blkT p 27 #[a, b, c, d]) (sepT (blkT q 40 #[.int .i64 0, .int .i64 0]) (sepT (mdT.el [a, b, c, d] m) R)))) :
    bodyPostD Tryz.prog Tryz.f14 (DecE N w0 R bs) .ret { tmps := tmps, defers := [{ target := .fn (.func 46) #[.pointer (some ⟨p, 0, none⟩), .pointer (some ⟨q, 0, none⟩)], args := #[] }] } W := by
  show Leaves _ _ _ _ _ _ _
  refine leaves_cons (f := 46) (args := #[.pointer (some ⟨p, 0, none⟩), .pointer (some ⟨q, 0, none⟩)]) (by simp) (by simp [go_sem]) ?_
  refine (dkeep_idle p q W).mono ?_
  rintro e u' w2 ⟨rfl, rfl, rfl⟩
  refine ⟨_, results_cells2 rfl _ _ p q 27 40 #[a, b, c, d] #[.int .i64 0, .int .i64 0] (0, 0) (0, 0) _ _ h2 H.blk.1 Tryz.underlying27 rfl (by kernel_rfl) h3 (H.turn (a' := sepT (blkT q 40 #[.int .i64 0, .int .i64 0]) (sepT (blkT p 27 #[a, b, c, d]) (sepT (mdT.el [a, b, c, d] m) R))) (by ac_rfl)).blk.1 Tryz.underlying40 rfl (by kernel_rfl), ?_⟩
  refine ⟨[a, b, c, d], by rw [hE], ?_⟩
  rw [hE]
  exact H.drop.drop
set_option maxRecDepth 100000 in
set_option maxHeartbeats 3200000 in
theorem dec_any (A : Option Addr) (c : Nat) (bs : List UInt8) (hx : Reads W W.heap.size 1 A bs.length (bytesV bs)) (hl : bs.length ≤ 140737488355328) (H : Lies N w0 W R) :
    Calls Tryz.prog 14 #[.slice A bs.length c] W (DecE N w0 R bs) := by
  have h0 := ((H.newBlk 27 z4).newBlk 40 #[.int .i64 0, .int .i64 0])
  have hz : (W.alloc (.cells z4 27)).heap.size = W.heap.size + 1 := by simp
  rw [hz] at h0
  have b2 : Below W.heap.size W ((W.alloc (.cells z4 27)).alloc (.cells #[.int .i64 0, .int .i64 0] 40)) := ((Only.alloc (fun _ => False) W _).trans (Only.alloc _ _ _)).below (Nat.le_refl _) (fun _ hb => hb.elim)
  have HC := Lib.hid (h0.hold1.dnew (c := c) ((hx.below b2).more b2.size) hl)
  have hmf : ∀ fn first cap (w : World), (Instr.makeFunc fn first cap).run Tryz.prog w = .ok (.func fn first cap) w := fun _ _ _ _ => rfl
  clear H h0 b2 hx hz
  go_enter_defers Tryz.func14, Tryz.ntmps14
  go_wp2_with fail
  refine HC.out.mono ?_
  rintro e w1 ⟨o, rfl, h⟩
  have h := cr_in (p := w1.heap.size) ((((Hold.lies h).newBlk 94 #[.pointer (some ⟨o, 0, none⟩), .int .i64 bs.length]).turn (a' := sepT (rdT o bs (0, 0, 0)) (sepT (blkT w1.heap.size 94 #[.pointer (some ⟨o, 0, none⟩), .int .i64 bs.length]) (sepT (blkT W.heap.size 27 z4) (sepT (blkT (W.heap.size + 1) 40 #[.int .i64 0, .int .i64 0]) R)))) (by ac_rfl)))
  have HJ := Lib.hid (just_any 67 rfl h)
  clear h HC
  have HC := HJ
  clear HJ
  go_wp2_with fail
  refine HC.out.mono ?_
  intro e w2 hr
  clear HC
  unfold RdP at hr
  rcases h1 : justR bs 67 (0, 0, 0) with f | ⟨⟨⟩, s1⟩ <;> rw [h1] at hr
  · obtain ⟨rfl, k, h⟩ := hr
    have HE : Hid (decM bs = (noMd, f)) := Lib.hid (dec_err (by unfold mdR; rw [bind_err h1]))
    have HF := Lib.hid (h.turn (a' := (sepT (crT w1.heap.size bs k) (sepT (blkT W.heap.size 27 #[.slice none 0 0, .slice none 0 0, .slice none 0 0, .slice none 0 0]) (sepT (blkT (W.heap.size + 1) 40 #[.int .i64 0, .int .i64 0]) R)))) (by ac_rfl)).drop
    clear h h1
    go_wp2_with fail
    exact dec_fault f _ _ _ _ _ _ _ rfl rfl HE.out HF.out
  · have H1 := Lib.hid h1
    obtain ⟨rfl, h⟩ := hr
    have HC := Lib.hid (just_any 1 (justR_ok h1) h)
    clear h h1
    go_wp2_with fail
    refine HC.out.mono ?_
    intro e w3 hr
    clear HC
    unfold RdP at hr
    rcases h1 : justR bs 1 s1 with f | ⟨⟨⟩, s2⟩ <;> rw [h1] at hr
    · obtain ⟨rfl, k, h⟩ := hr
      have HE : Hid (decM bs = (noMd, f)) := Lib.hid (dec_err (by unfold mdR; rw [bind_ok H1.out, bind_err h1]))
      have HF := Lib.hid (h.turn (a' := (sepT (crT w1.heap.size bs k) (sepT (blkT W.heap.size 27 #[.slice none 0 0, .slice none 0 0, .slice none 0 0, .slice none 0 0]) (sepT (blkT (W.heap.size + 1) 40 #[.int .i64 0, .int .i64 0]) R)))) (by ac_rfl)).drop
      clear h h1
      go_wp2_with fail
      exact dec_fault f _ _ _ _ _ _ _ rfl rfl HE.out HF.out
    · have H2 := Lib.hid h1
      obtain ⟨rfl, h⟩ := hr
      have hz := justR_ok h1
      have HC := Lib.hid (listCl_any 50 (clR bs) 40 (by decide) (fun _ _ => rfl) (fun W' s' R' h0 h => rcls_any h0 h) hz (h.turn (a' := (sepT (crT w1.heap.size bs s2) (sepT (blkT W.heap.size 27 #[.slice none 0 0, .slice none 0 0, .slice none 0 0, .slice none 0 0]) (sepT (blkT (W.heap.size + 1) 40 #[.int .i64 0, .int .i64 0]) R)))) (by ac_rfl)))
      clear h h1 hz
      go_wp2_with fail
      refine HC.out.mono ?_
      intro e w4 hr
      clear HC
      unfold RdS at hr
      rcases h1 : listR bs 40 (clR bs) s2 with f | ⟨l3, s3⟩ <;> rw [h1] at hr
      · obtain ⟨rfl, k, h⟩ := hr
        have HE : Hid (decM bs = (noMd, f)) := Lib.hid (dec_err (by unfold mdR; rw [bind_ok H1.out, bind_ok H2.out, bind_err h1]))
        have HF := Lib.hid (h.turn (a' := (sepT (crT w1.heap.size bs k) (sepT (blkT W.heap.size 27 #[.slice none 0 0, .slice none 0 0, .slice none 0 0, .slice none 0 0]) (sepT (blkT (W.heap.size + 1) 40 #[.int .i64 0, .int .i64 0]) R)))) (by ac_rfl)).drop
        clear h h1
        go_wp2_with fail
        exact dec_fault f _ _ _ _ _ _ _ rfl rfl HE.out HF.out
      · have H3 := Lib.hid h1
        obtain ⟨hz, A3, c3, rfl, h⟩ := hr
        have h := h.turn (a' := (sepT (blkT W.heap.size 27 #[.slice none 0 0, .slice none 0 0, .slice none 0 0, .slice none 0 0]) (sepT (crT w1.heap.size bs s3) (sepT (clT.slT 66 (.slice A3 l3.length c3) l3) (sepT (blkT (W.heap.size + 1) 40 #[.int .i64 0, .int .i64 0]) R))))) (by ac_rfl)
        have hb := h.blk.1
        have e0 := hb.cell 0
        have f0 := hb.frozen 0
        have e1 := hb.cell 1
        have f1 := hb.frozen 1
        have e2 := hb.cell 2
        have f2 := hb.frozen 2
        have e3 := hb.cell 3
        have f3 := hb.frozen 3
        simp at e0 e1 e2 e3
        clear hb
        have h := h.setBlk 0 (.slice A3 l3.length c3)
        have HC := Lib.hid (listSt_any 52 (stR bs) 5000 (by decide) (fun _ _ => rfl) (fun W' s' R' h0 h => rsite_any h0 h) hz (h.turn (a' := (sepT (crT w1.heap.size bs s3) (sepT (clT.slT 66 (.slice A3 l3.length c3) l3) (sepT (blkT W.heap.size 27 #[.slice A3 l3.length c3, .slice none 0 0, .slice none 0 0, .slice none 0 0]) (sepT (blkT (W.heap.size + 1) 40 #[.int .i64 0, .int .i64 0]) R))))) (by ac_rfl)))
        clear h h1 hz
        go_wp2_with fail
        refine HC.out.mono ?_
        intro e w5 hr
        clear HC
        unfold RdS at hr
        rcases h1 : listR bs 5000 (stR bs) s3 with f | ⟨l4, s4⟩ <;> rw [h1] at hr
        · obtain ⟨rfl, k, h⟩ := hr
          have HE : Hid (decM bs = (noMd, f)) := Lib.hid (dec_err (by unfold mdR; rw [bind_ok H1.out, bind_ok H2.out, bind_ok H3.out, bind_err h1]))
          have HF := Lib.hid (h.turn (a' := (sepT (crT w1.heap.size bs k) (sepT (clT.slT 66 (.slice A3 l3.length c3) l3) (sepT (blkT W.heap.size 27 #[.slice A3 l3.length c3, .slice none 0 0, .slice none 0 0, .slice none 0 0]) (sepT (blkT (W.heap.size + 1) 40 #[.int .i64 0, .int .i64 0]) R))))) (by ac_rfl)).drop.drop
          clear h h1
          go_wp2_with fail
          exact dec_fault f _ _ _ _ _ _ _ rfl rfl HE.out HF.out
        · have H4 := Lib.hid h1
          obtain ⟨hz, A4, c4, rfl, h⟩ := hr
          have h := h.turn (a' := (sepT (blkT W.heap.size 27 #[.slice A3 l3.length c3, .slice none 0 0, .slice none 0 0, .slice none 0 0]) (sepT (crT w1.heap.size bs s4) (sepT (clT.slT 66 (.slice A3 l3.length c3) l3) (sepT (stT.slT 70 (.slice A4 l4.length c4) l4) (sepT (blkT (W.heap.size + 1) 40 #[.int .i64 0, .int .i64 0]) R)))))) (by ac_rfl)
          have hb := h.blk.1
          have e0 := hb.cell 0
          have f0 := hb.frozen 0
          have e1 := hb.cell 1
          have f1 := hb.frozen 1
          have e2 := hb.cell 2
          have f2 := hb.frozen 2
          have e3 := hb.cell 3
          have f3 := hb.frozen 3
          simp at e0 e1 e2 e3
          clear hb
          have h := h.setBlk 1 (.slice A4 l4.length c4)
          have HC := Lib.hid (listTx_any 54 (wordR bs) 2000 (by decide) (fun _ _ => rfl) (fun W' s' R' _ h => rword_t h) hz (h.turn (a' := (sepT (crT w1.heap.size bs s4) (sepT (clT.slT 66 (.slice A3 l3.length c3) l3) (sepT (stT.slT 70 (.slice A4 l4.length c4) l4) (sepT (blkT W.heap.size 27 #[.slice A3 l3.length c3, .slice A4 l4.length c4, .slice none 0 0, .slice none 0 0]) (sepT (blkT (W.heap.size + 1) 40 #[.int .i64 0, .int .i64 0]) R)))))) (by ac_rfl)))
          clear h h1 hz
          go_wp2_with fail
          refine HC.out.mono ?_
          intro e w6 hr
          clear HC
          unfold RdS at hr
          rcases h1 : listR bs 2000 (wordR bs) s4 with f | ⟨l5, s5⟩ <;> rw [h1] at hr
          · obtain ⟨rfl, k, h⟩ := hr
            have HE : Hid (decM bs = (noMd, f)) := Lib.hid (dec_err (by unfold mdR; rw [bind_ok H1.out, bind_ok H2.out, bind_ok H3.out, bind_ok H4.out, bind_err h1]))
            have HF := Lib.hid (h.turn (a' := (sepT (crT w1.heap.size bs k) (sepT (clT.slT 66 (.slice A3 l3.length c3) l3) (sepT (stT.slT 70 (.slice A4 l4.length c4) l4) (sepT (blkT W.heap.size 27 #[.slice A3 l3.length c3, .slice A4 l4.length c4, .slice none 0 0, .slice none 0 0]) (sepT (blkT (W.heap.size + 1) 40 #[.int .i64 0, .int .i64 0]) R)))))) (by ac_rfl)).drop.drop.drop
            clear h h1
            go_wp2_with fail
            exact dec_fault f _ _ _ _ _ _ _ rfl rfl HE.out HF.out
          · have H5 := Lib.hid h1
            obtain ⟨hz, A5, c5, rfl, h⟩ := hr
            have h := h.turn (a' := (sepT (blkT W.heap.size 27 #[.slice A3 l3.length c3, .slice A4 l4.length c4, .slice none 0 0, .slice none 0 0]) (sepT (crT w1.heap.size bs s5) (sepT (clT.slT 66 (.slice A3 l3.length c3) l3) (sepT (stT.slT 70 (.slice A4 l4.length c4) l4) (sepT (txT.slT 9 (.slice A5 l5.length c5) l5) (sepT (blkT (W.heap.size + 1) 40 #[.int .i64 0, .int .i64 0]) R))))))) (by ac_rfl)
            have hb := h.blk.1
            have e0 := hb.cell 0
            have f0 := hb.frozen 0
            have e1 := hb.cell 1
            have f1 := hb.frozen 1
            have e2 := hb.cell 2
            have f2 := hb.frozen 2
            have e3 := hb.cell 3
            have f3 := hb.frozen 3
            simp at e0 e1 e2 e3
            clear hb
            have h := h.setBlk 2 (.slice A5 l5.length c5)
            have HC := Lib.hid (listFu_any 56 (fuR bs) 1000 (by decide) (fun _ _ => rfl) (fun W' s' R' h0 h => rfun_any h0 h) hz (h.turn (a' := (sepT (crT w1.heap.size bs s5) (sepT (clT.slT 66 (.slice A3 l3.length c3) l3) (sepT (stT.slT 70 (.slice A4 l4.length c4) l4) (sepT (txT.slT 9 (.slice A5 l5.length c5) l5) (sepT (blkT W.heap.size 27 #[.slice A3 l3.length c3, .slice A4 l4.length c4, .slice A5 l5.length c5, .slice none 0 0]) (sepT (blkT (W.heap.size + 1) 40 #[.int .i64 0, .int .i64 0]) R))))))) (by ac_rfl)))
            clear h h1 hz
            go_wp2_with fail
            refine HC.out.mono ?_
            intro e w7 hr
            clear HC
            unfold RdS at hr
            rcases h1 : listR bs 1000 (fuR bs) s5 with f | ⟨l6, s6⟩ <;> rw [h1] at hr
            · obtain ⟨rfl, k, h⟩ := hr
              have HE : Hid (decM bs = (noMd, f)) := Lib.hid (dec_err (by unfold mdR; rw [bind_ok H1.out, bind_ok H2.out, bind_ok H3.out, bind_ok H4.out, bind_ok H5.out, bind_err h1]))
              have HF := Lib.hid (h.turn (a' := (sepT (crT w1.heap.size bs k) (sepT (clT.slT 66 (.slice A3 l3.length c3) l3) (sepT (stT.slT 70 (.slice A4 l4.length c4) l4) (sepT (txT.slT 9 (.slice A5 l5.length c5) l5) (sepT (blkT W.heap.size 27 #[.slice A3 l3.length c3, .slice A4 l4.length c4, .slice A5 l5.length c5, .slice none 0 0]) (sepT (blkT (W.heap.size + 1) 40 #[.int .i64 0, .int .i64 0]) R))))))) (by ac_rfl)).drop.drop.drop.drop
              clear h h1
              go_wp2_with fail
              exact dec_fault f _ _ _ _ _ _ _ rfl rfl HE.out HF.out
            · have H6 := Lib.hid h1
              obtain ⟨hz, A6, c6, rfl, h⟩ := hr
              have h := h.turn (a' := (sepT (blkT W.heap.size 27 #[.slice A3 l3.length c3, .slice A4 l4.length c4, .slice A5 l5.length c5, .slice none 0 0]) (sepT (crT w1.heap.size bs s6) (sepT (clT.slT 66 (.slice A3 l3.length c3) l3) (sepT (stT.slT 70 (.slice A4 l4.length c4) l4) (sepT (txT.slT 9 (.slice A5 l5.length c5) l5) (sepT (fuT.slT 48 (.slice A6 l6.length c6) l6) (sepT (blkT (W.heap.size + 1) 40 #[.int .i64 0, .int .i64 0]) R)))))))) (by ac_rfl)
              have hb := h.blk.1
              have e0 := hb.cell 0
              have f0 := hb.frozen 0
              have e1 := hb.cell 1
              have f1 := hb.frozen 1
              have e2 := hb.cell 2
              have f2 := hb.frozen 2
              have e3 := hb.cell 3
              have f3 := hb.frozen 3
              simp at e0 e1 e2 e3
              clear hb
              have h := h.setBlk 3 (.slice A6 l6.length c6)
              obtain ⟨o2, h⟩ := cr_out (h.turn (a' := (sepT (crT w1.heap.size bs s6) (sepT (clT.slT 66 (.slice A3 l3.length c3) l3) (sepT (stT.slT 70 (.slice A4 l4.length c4) l4) (sepT (txT.slT 9 (.slice A5 l5.length c5) l5) (sepT (fuT.slT 48 (.slice A6 l6.length c6) l6) (sepT (blkT W.heap.size 27 #[.slice A3 l3.length c3, .slice A4 l4.length c4, .slice A5 l5.length c5, .slice A6 l6.length c6]) (sepT (blkT (W.heap.size + 1) 40 #[.int .i64 0, .int .i64 0]) R)))))))) (by ac_rfl))
              have hc := (h.turn (a' := (sepT (blkT w1.heap.size 94 #[.pointer (some ⟨o2, 0, none⟩), .int .i64 bs.length]) (sepT (rdT o2 bs s6) (sepT (clT.slT 66 (.slice A3 l3.length c3) l3) (sepT (stT.slT 70 (.slice A4 l4.length c4) l4) (sepT (txT.slT 9 (.slice A5 l5.length c5) l5) (sepT (fuT.slT 48 (.slice A6 l6.length c6) l6) (sepT (blkT W.heap.size 27 #[.slice A3 l3.length c3, .slice A4 l4.length c4, .slice A5 l5.length c5, .slice A6 l6.length c6]) (sepT (blkT (W.heap.size + 1) 40 #[.int .i64 0, .int .i64 0]) R))))))))) (by ac_rfl)).blk.1
              have d0 := hc.cell 0
              simp at d0
              clear hc
              have HC := Lib.hid (h.hold.dend 0 rfl)
              have HM : Hid (mdR bs (0, 0, 0) = .ok (⟨l3, l4, l5, l6⟩, s6)) := Lib.hid (by unfold mdR; rw [bind_ok H1.out, bind_ok H2.out, bind_ok H3.out, bind_ok H4.out, bind_ok H5.out, bind_ok H6.out]; rfl)
              clear h h1 hz
              go_wp2_with fail
              refine HC.out.mono ?_
              rintro e w8 ⟨rfl, h⟩
              have h := h.lies
              clear HC d0 e0 e1 e2 e3 f0 f1 f2 f3
              by_cases hE : rEnd bs s6 = (0, 0)
              · have HE : Hid (decM bs = (⟨l3, l4, l5, l6⟩, (0, 0))) := Lib.hid (by unfold decM; rw [HM.out]; exact if_pos hE)
                rw [hE]
                have h := (h.newBlk 40 #[.int .i64 0, .int .i64 0]).turn (a' := (sepT (blkT W.heap.size 27 #[.slice A3 l3.length c3, .slice A4 l4.length c4, .slice A5 l5.length c5, .slice A6 l6.length c6]) (sepT (blkT w8.heap.size 40 #[.int .i64 0, .int .i64 0]) (sepT (rdT o2 bs s6) (sepT (blkT w1.heap.size 94 #[.pointer (some ⟨o2, 0, none⟩), .int .i64 bs.length]) (sepT (clT.slT 66 (.slice A3 l3.length c3) l3) (sepT (stT.slT 70 (.slice A4 l4.length c4) l4) (sepT (txT.slT 9 (.slice A5 l5.length c5) l5) (sepT (fuT.slT 48 (.slice A6 l6.length c6) l6) (sepT (blkT (W.heap.size + 1) 40 #[.int .i64 0, .int .i64 0]) R)))))))))) (by ac_rfl)
                have hb := h.blk.1
                have e0 := hb.cell 0
                have f0 := hb.frozen 0
                have e1 := hb.cell 1
                have f1 := hb.frozen 1
                have e2 := hb.cell 2
                have f2 := hb.frozen 2
                have e3 := hb.cell 3
                have f3 := hb.frozen 3
                simp at e0 e1 e2 e3
                clear hb
                have hq := (h.turn (a' := (sepT (blkT (W.heap.size + 1) 40 #[.int .i64 0, .int .i64 0]) (sepT (blkT W.heap.size 27 #[.slice A3 l3.length c3, .slice A4 l4.length c4, .slice A5 l5.length c5, .slice A6 l6.length c6]) (sepT (blkT w8.heap.size 40 #[.int .i64 0, .int .i64 0]) (sepT (rdT o2 bs s6) (sepT (blkT w1.heap.size 94 #[.pointer (some ⟨o2, 0, none⟩), .int .i64 bs.length]) (sepT (clT.slT 66 (.slice A3 l3.length c3) l3) (sepT (stT.slT 70 (.slice A4 l4.length c4) l4) (sepT (txT.slT 9 (.slice A5 l5.length c5) l5) (sepT (fuT.slT 48 (.slice A6 l6.length c6) l6) R)))))))))) (by ac_rfl)).blk.1
                have g0 := hq.cell 0
                have k0 := hq.frozen 0
                have g1 := hq.cell 1
                have k1 := hq.frozen 1
                simp at g0 g1
                clear hq
                have HF : Hid (Lies N w0 _ (sepT (blkT (W.heap.size + 1) 40 #[.int .i64 0, .int .i64 0]) (sepT (blkT W.heap.size 27 #[.slice A3 l3.length c3, .slice A4 l4.length c4, .slice A5 l5.length c5, .slice A6 l6.length c6]) (sepT (blkT w8.heap.size 40 #[.int .i64 0, .int .i64 0]) (sepT (rdT o2 bs s6) (sepT (blkT w1.heap.size 94 #[.pointer (some ⟨o2, 0, none⟩), .int .i64 bs.length]) (sepT (clT.slT 66 (.slice A3 l3.length c3) l3) (sepT (stT.slT 70 (.slice A4 l4.length c4) l4) (sepT (txT.slT 9 (.slice A5 l5.length c5) l5) (sepT (fuT.slT 48 (.slice A6 l6.length c6) l6) R)))))))))) := Lib.hid ((((((h.setBlk 0 (.slice A3 l3.length c3)).setBlk 1 (.slice A4 l4.length c4)).setBlk 2 (.slice A5 l5.length c5)).setBlk 3 (.slice A6 l6.length c6)).turn (a' := (sepT (blkT (W.heap.size + 1) 40 #[.int .i64 0, .int .i64 0]) (sepT (blkT W.heap.size 27 #[.slice A3 l3.length c3, .slice A4 l4.length c4, .slice A5 l5.length c5, .slice A6 l6.length c6]) (sepT (blkT w8.heap.size 40 #[.int .i64 0, .int .i64 0]) (sepT (rdT o2 bs s6) (sepT (blkT w1.heap.size 94 #[.pointer (some ⟨o2, 0, none⟩), .int .i64 bs.length]) (sepT (clT.slT 66 (.slice A3 l3.length c3) l3) (sepT (stT.slT 70 (.slice A4 l4.length c4) l4) (sepT (txT.slT 9 (.slice A5 l5.length c5) l5) (sepT (fuT.slT 48 (.slice A6 l6.length c6) l6) R)))))))))) (by show sepT (blkT W.heap.size 27 #[.slice A3 l3.length c3, .slice A4 l4.length c4, .slice A5 l5.length c5, .slice A6 l6.length c6]) _ = _; ac_rfl)).setBlk 0 (.int .i64 0) |>.setBlk 1 (.int .i64 0))
                clear h hE
                go_wp2_with fail
                have h := (HF.out.turn (a' := (sepT (blkT w8.heap.size 40 #[.int .i64 0, .int .i64 0]) (sepT (rdT o2 bs s6) (sepT (blkT w1.heap.size 94 #[.pointer (some ⟨o2, 0, none⟩), .int .i64 bs.length]) (sepT (clT.slT 66 (.slice A3 l3.length c3) l3) (sepT (stT.slT 70 (.slice A4 l4.length c4) l4) (sepT (txT.slT 9 (.slice A5 l5.length c5) l5) (sepT (fuT.slT 48 (.slice A6 l6.length c6) l6) (sepT (blkT W.heap.size 27 #[.slice A3 l3.length c3, .slice A4 l4.length c4, .slice A5 l5.length c5, .slice A6 l6.length c6]) (sepT (blkT (W.heap.size + 1) 40 #[.int .i64 0, .int .i64 0]) R)))))))))) (by ac_rfl)).drop.drop.drop
                have h := (md_in (x := ⟨l3, l4, l5, l6⟩) h).turn (a' := (sepT (blkT W.heap.size 27 #[.slice A3 l3.length c3, .slice A4 l4.length c4, .slice A5 l5.length c5, .slice A6 l6.length c6]) (sepT (blkT (W.heap.size + 1) 40 #[.int .i64 0, .int .i64 0]) (sepT (mdT.el [.slice A3 l3.length c3, .slice A4 l4.length c4, .slice A5 l5.length c5, .slice A6 l6.length c6] ⟨l3, l4, l5, l6⟩) R)))) (by ac_rfl)
                exact dec_done ⟨l3, l4, l5, l6⟩ _ _ _ _ _ rfl rfl HE.out h
              · have HE : Hid (decM bs = (noMd, rEnd bs s6)) := Lib.hid (by unfold decM; rw [HM.out]; exact if_neg hE)
                have h := (h.newBlk 40 #[.int .i64 (rEnd bs s6).1, .int .i64 (rEnd bs s6).2]).turn (a' := (sepT (blkT w8.heap.size 40 #[.int .i64 (rEnd bs s6).1, .int .i64 (rEnd bs s6).2]) (sepT (rdT o2 bs s6) (sepT (blkT w1.heap.size 94 #[.pointer (some ⟨o2, 0, none⟩), .int .i64 bs.length]) (sepT (clT.slT 66 (.slice A3 l3.length c3) l3) (sepT (stT.slT 70 (.slice A4 l4.length c4) l4) (sepT (txT.slT 9 (.slice A5 l5.length c5) l5) (sepT (fuT.slT 48 (.slice A6 l6.length c6) l6) (sepT (blkT W.heap.size 27 #[.slice A3 l3.length c3, .slice A4 l4.length c4, .slice A5 l5.length c5, .slice A6 l6.length c6]) (sepT (blkT (W.heap.size + 1) 40 #[.int .i64 0, .int .i64 0]) R)))))))))) (by ac_rfl)
                have hb := h.blk.1
                have e0 := hb.cell 0
                have e1 := hb.cell 1
                simp at e0 e1
                clear hb
                have HF := Lib.hid (h.turn (a' := (sepT (blkT w8.heap.size 40 #[.int .i64 (rEnd bs s6).1, .int .i64 (rEnd bs s6).2]) (sepT (rdT o2 bs s6) (sepT (blkT w1.heap.size 94 #[.pointer (some ⟨o2, 0, none⟩), .int .i64 bs.length]) (sepT (clT.slT 66 (.slice A3 l3.length c3) l3) (sepT (stT.slT 70 (.slice A4 l4.length c4) l4) (sepT (txT.slT 9 (.slice A5 l5.length c5) l5) (sepT (fuT.slT 48 (.slice A6 l6.length c6) l6) (sepT (blkT W.heap.size 27 #[.slice A3 l3.length c3, .slice A4 l4.length c4, .slice A5 l5.length c5, .slice A6 l6.length c6]) (sepT (blkT (W.heap.size + 1) 40 #[.int .i64 0, .int .i64 0]) R)))))))))) (by ac_rfl)).drop.drop.drop.drop.drop.drop.drop
                clear h
                generalize rEnd bs s6 = r at *
                obtain ⟨r1, r2⟩ := r
                have hE1 : (r1 = 0 → ¬ r2 = 0) := fun a b => hE (by rw [a, b])
                clear hE
                by_cases hr : r1 = 0
                · subst hr
                  have hr2 := hE1 rfl
                  clear hE1
                  go_wp2_with fail
                  exact dec_fault _ _ _ _ _ _ _ _ rfl rfl HE.out HF.out
                · clear hE1
                  go_wp2_with fail
                  exact dec_fault _ _ _ _ _ _ _ _ rfl rfl HE.out HF.out
end
end Go.Proofs.YtcapdmicekialaaGreat
