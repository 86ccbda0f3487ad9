/- The law's helpers: writes, reads. -/
import Derived.Test.YtcapdmicekialaaOcBackP
import Derived.Test.YtcapdmicekialaaPhase
namespace Go.Proofs.Ytcapdmicekialaa
open Go.RowKit
attribute [local go_sem] Oper.semAt_some run_store_func run_store_nilFunc
/-- An item as a value. -/
def itV (it : Item) : List Value := [.int .i64 it.k, .int .i64 it.n, .string it.s]
theorem set_same {α : Type} {l : List α} {i : Nat} {x : α} (h : l[i]? = some x) : l.set i x = l := by
  obtain ⟨h', rfl⟩ := List.getElem?_eq_some_iff.1 h
  exact List.set_getElem_self h'
section
variable {N : Nat} {w0 W : World} {l : List Thing}
theorem Hold.writes (H : Hold N w0 W l) (i : Nat) {p : Nat} {most : Int} {r : List UInt8 × Int} (hi : l[i]? = some (wrT p most r)) (it : Item) (h0 : -9223372036854775808 ≤ it.n) (h1 : it.n ≤ 9223372036854775807) (hs : it.s.size ≤ 140737488351232) (hz : r.2 = 0) :
    Calls Try.prog 32 #[.pointer (some ⟨p, 0, none⟩), .agg #[.int .i64 it.k, .int .i64 it.n, .string it.s]] W fun e W' => e = .returned (.int .i64 (wrI most r it).2) ∧ Hold N w0 W' (l.set i (wrT p most (wrI most r it))) := by
  obtain ⟨k, n, s⟩ := it
  have HB := Lib.hid ((H.alloc (.cells #[.int .i64 k, .int .i64 n, .string s] 33)))
  have hset : l.set i (wrT p most r) = l := set_same hi
  have HS := Lib.hid hset
  clear hset
  have HZ := Lib.hid hz
  simp only at h0 h1 hs ⊢
  clear H hz
  by_cases k0 : k = 0
  · subst k0
    have HC := Lib.hid (HB.out.wnum i hi n h0 h1)
    go_enter Try.func32, Try.ntmps32
    go_wp2_with fail
    refine HC.out.mono ?_
    rintro e w1 ⟨rfl, h⟩
    have H1 := Lib.hid h
    clear h
    go_wp2_with fail
    go_ret
    exact ⟨rfl, H1.out⟩
  · have k0' : (k == 0) = false := by simpa using k0
    by_cases k1 : k = 1
    · subst k1
      have HC := Lib.hid (HB.out.wwhole i hi n h0 h1)
      go_enter Try.func32, Try.ntmps32
      go_wp2_with fail
      refine HC.out.mono ?_
      rintro e w1 ⟨rfl, h⟩
      have H1 := Lib.hid h
      clear h
      go_wp2_with fail
      go_ret
      exact ⟨rfl, H1.out⟩
    · have k1' : (k == 1) = false := by simpa using k1
      by_cases k2 : k = 2
      · subst k2
        have HC := Lib.hid (HB.out.wword i hi s hs)
        go_enter Try.func32, Try.ntmps32
        go_wp2_with fail
        refine HC.out.mono ?_
        rintro e w1 ⟨rfl, h⟩
        have H1 := Lib.hid h
        clear h
        go_wp2_with fail
        go_ret
        exact ⟨rfl, H1.out⟩
      · have k2' : (k == 2) = false := by simpa using k2
        have HW : Hid (wrI most r ⟨k, n, s⟩ = r) := by unfold wrI; rw [if_neg k0, if_neg k1, if_neg k2]; exact rfl
        clear k0 k1 k2
        go_enter Try.func32, Try.ntmps32
        go_wp2_with fail
        go_ret
        exact ⟨by rw [HW.out, HZ.out]; rfl, by rw [HW.out, HS.out]; exact HB.out⟩
/-- Reading an item: the thing at place j is o behind the call; the item lies in a block of its own. -/
def ReadR (N : Nat) (w0 : World) (l : List Thing) (j : Nat) (o : Thing) (b : Nat) (t : TypeId) (cs : Array Value) (d _ : Bool) (W : World) : Prop := Hold N w0 W ((if d then l.set j o else l) ++ [blkT b t cs])
theorem ReadR.len {l : List Thing} {j : Nat} {o : Thing} {d : Bool} : (if d then l.set j o else l).length = l.length := by cases d <;> simp
theorem ReadR.cell {N : Nat} {w0 : World} {l : List Thing} {j : Nat} {o : Thing} {b : Nat} {t : TypeId} {cs : Array Value} {i : Nat} (m : Nat) {v : Value} (hv : cs[m]? = some v) (k : Nat) (x : Still (two i 99 (ReadR N w0 l j o b t cs)) k) : x.w.cell? ⟨b, m, none⟩ = some v :=
  two_fact (F := fun W => W.cell? ⟨b, m, none⟩ = some v) (fun d _ W H => ((Hold.blk (t := t) (cs := cs) (b := b) H l.length (by rw [List.getElem?_append_right (by rw [ReadR.len]; exact Nat.le_refl _), ReadR.len]; simp)).cell m).trans hv) x
theorem ReadR.done {N : Nat} {w0 : World} {l : List Thing} {j : Nat} {o : Thing} {b : Nat} {t : TypeId} {cs : Array Value} {W : World} {d : Bool} (h : ReadR N w0 l j o b t cs true d W) : Hold N w0 W (l.set j o) := by
  have := Hold.take h l.length
  rwa [if_pos rfl, List.take_left' (by simp)] at this
theorem ReadR.call {N : Nat} {w0 : World} {l : List Thing} {j : Nat} {o o1 : Thing} {b : Nat} {t : TypeId} {cs : Array Value} {f : FuncId} {args : Array Value} {v : Value} (hj : l[j]? = some o1) (h : ∀ W l, Hold N w0 W l → l[j]? = some o1 → Calls Try.prog f args W fun e W' => e = .returned v ∧ Hold N w0 W' (l.set j o)) :
    ∀ d W, ReadR N w0 l j o b t cs false d W → Calls Try.prog f args W fun e W' => e = .returned v ∧ ReadR N w0 l j o b t cs true d W' := fun d W H => by
  have hl : j < l.length := (List.getElem?_eq_some_iff.1 hj).1
  refine (h W _ H (by rw [List.getElem?_append_left (by simpa using hl)]; exact hj)).mono fun e W' ⟨he, hh⟩ => ⟨he, ?_⟩
  rw [List.set_append_left _ _ (by simpa using hl)] at hh
  exact hh
set_option maxRecDepth 100000 in
set_option maxHeartbeats 1600000 in
theorem Hold.reads_ (H : Hold N w0 W l) (i : Nat) {p : Nat} {bs : List UInt8} {s : RS} (hi : l[i]? = some (rdT p bs s)) (it : Item) (hs : it.s.size ≤ 140737488351232) :
    Calls Try.prog 33 #[.pointer (some ⟨p, 0, none⟩), .agg #[.int .i64 it.k, .int .i64 it.n, .string it.s]] W fun e W' => e = .returned (.bool (rdI bs s it).1) ∧ Hold N w0 W' (l.set i (rdT p bs (rdI bs s it).2)) := by
  obtain ⟨k, n, t⟩ := it
  have HB := Lib.hid (H.newBlk 33 #[.int .i64 k, .int .i64 n, .string t])
  simp only at hs ⊢
  clear H
  by_cases k0 : k = 0
  · subst k0
    have HR : Hid (rdI bs s ⟨0, n, t⟩ = (((rNum bs s).1 : Int) == n, (rNum bs s).2)) := rdI0 rfl
    have hc := fun k => ReadR.cell (i := 1) (l := l) (j := i) (o := rdT p bs (rNum bs s).2) (t := 33) (cs := #[.int .i64 0, .int .i64 n, .string t]) (w0 := w0) (N := N) (b := W.heap.size) 1 (v := .int .i64 n) rfl k
    go_enter Try.func33, Try.ntmps33
    go_wp2_with fail
    refine wp_region_phase (two 1 99 (ReadR N w0 l i (rdT p bs (rNum bs s).2) W.heap.size 33 #[.int .i64 0, .int .i64 n, .string t])) [1, 99] (two_looks _ _ _) (by kernel_rfl) (by kernel_rfl) HB.out.drew ?_
    intro hne
    have n0 := hne 0 (by decide); have n1 := hne 1 (by decide); have n2 := hne 2 (by decide); have n3 := hne 3 (by decide); have n4 := hne 4 (by decide); have n5 := hne 5 (by decide)
    clear hne
    repeat (refine wpPhase_step (fun K hK => ?_); go_simp; refine hK _ ?_; clear hK K)
    refine wpPhase_step (fun K hK => ?_)
    go_simp
    refine ⟨_, fun x => two_call1 (by decide) x (ReadR.call hi (fun W l H hl => H.dnum i hl)), hK _ ?_⟩
    clear hK K
    repeat (refine wpPhase_step (fun K hK => ?_); go_simp; refine hK _ ?_; clear hK K)
    refine wpPhase_nil ?_
    intro w4 h4
    have h5 : ReadR N w0 l i (rdT p bs (rNum bs s).2) W.heap.size 33 #[.int .i64 0, .int .i64 n, .string t] true true w4 := h4
    have h6 := h5.done
    clear h4 h5 hc
    go_wp2_with fail
    go_ret
    rw [HR.out]
    exact ⟨by simp, h6⟩
  · have k0' : (k == 0) = false := by simpa using k0
    by_cases k1 : k = 1
    · subst k1
      have HR : Hid (rdI bs s ⟨1, n, t⟩ = ((rWhole bs s).1 == n, (rWhole bs s).2)) := rdI1 (show ¬ (1 : Int) = 0 by decide) rfl
      have hc := fun k => ReadR.cell (i := 1) (l := l) (j := i) (o := rdT p bs (rWhole bs s).2) (t := 33) (cs := #[.int .i64 1, .int .i64 n, .string t]) (w0 := w0) (N := N) (b := W.heap.size) 1 (v := .int .i64 n) rfl k
      go_enter Try.func33, Try.ntmps33
      go_wp2_with fail
      refine wp_region_phase (two 1 99 (ReadR N w0 l i (rdT p bs (rWhole bs s).2) W.heap.size 33 #[.int .i64 1, .int .i64 n, .string t])) [1, 99] (two_looks _ _ _) (by kernel_rfl) (by kernel_rfl) HB.out.drew ?_
      intro hne
      have n0 := hne 0 (by decide); have n1 := hne 1 (by decide); have n2 := hne 2 (by decide); have n3 := hne 3 (by decide); have n4 := hne 4 (by decide); have n5 := hne 5 (by decide)
      clear hne
      repeat (refine wpPhase_step (fun K hK => ?_); go_simp; refine hK _ ?_; clear hK K)
      refine wpPhase_step (fun K hK => ?_)
      go_simp
      refine ⟨_, fun x => two_call1 (by decide) x (ReadR.call hi (fun W l H hl => H.dwhole i hl)), hK _ ?_⟩
      clear hK K
      repeat (refine wpPhase_step (fun K hK => ?_); go_simp; refine hK _ ?_; clear hK K)
      refine wpPhase_nil ?_
      intro w4 h4
      have h5 : ReadR N w0 l i (rdT p bs (rWhole bs s).2) W.heap.size 33 #[.int .i64 1, .int .i64 n, .string t] true true w4 := h4
      have h6 := h5.done
      clear h4 h5 hc
      go_wp2_with fail
      go_ret
      rw [HR.out]
      exact ⟨by simp, h6⟩
    · have k1' : (k == 1) = false := by simpa using k1
      by_cases k2 : k = 2
      · subst k2
        have HR : Hid (rdI bs s ⟨2, n, t⟩ = (decide ((rWord bs s t.size).1 = t.data.toList), (rWord bs s t.size).2)) := rdI2 (show ¬ (2 : Int) = 0 by decide) (show ¬ (2 : Int) = 1 by decide) rfl
        have hse : ((strB (rWord bs s t.size).1).toList == t.toList) = decide ((rWord bs s t.size).1 = t.data.toList) := by
          have := @strB_inj (rWord bs s t.size).1 t.data.toList
          rwa [show strB t.data.toList = t from rfl] at this
        have HSE := Lib.hid hse
        clear hse
        have hc := fun k => ReadR.cell (i := 4) (l := l) (j := i) (o := rdT p bs (rWord bs s t.size).2) (t := 33) (cs := #[.int .i64 2, .int .i64 n, .string t]) (w0 := w0) (N := N) (b := W.heap.size) 2 (v := .string t) rfl k
        go_enter Try.func33, Try.ntmps33
        go_wp2_with fail
        refine wp_region_phase (two 4 99 (ReadR N w0 l i (rdT p bs (rWord bs s t.size).2) W.heap.size 33 #[.int .i64 2, .int .i64 n, .string t])) [4, 99] (two_looks _ _ _) (by kernel_rfl) (by kernel_rfl) HB.out.drew ?_
        intro hne
        have n0 := hne 0 (by decide); have n1 := hne 1 (by decide); have n2 := hne 2 (by decide); have n3 := hne 3 (by decide); have n4 := hne 4 (by decide); have n5 := hne 5 (by decide); have n6 := hne 6 (by decide); have n7 := hne 7 (by decide); have n8 := hne 8 (by decide)
        clear hne
        repeat (refine wpPhase_step (fun K hK => ?_); go_simp; refine hK _ ?_; clear hK K)
        refine wpPhase_step (fun K hK => ?_)
        go_simp
        refine ⟨_, fun x => two_call1 (by decide) x (ReadR.call hi (fun W l H hl => H.dword i hl t.size)), hK _ ?_⟩
        clear hK K
        repeat (refine wpPhase_step (fun K hK => ?_); go_simp; refine hK _ ?_; clear hK K)
        refine wpPhase_nil ?_
        intro w4 h4
        have h5 : ReadR N w0 l i (rdT p bs (rWord bs s t.size).2) W.heap.size 33 #[.int .i64 2, .int .i64 n, .string t] true true w4 := h4
        have h6 := h5.done
        clear h4 h5 hc
        go_wp2_with fail
        go_ret
        rw [HR.out]
        exact ⟨by rw [← HSE.out]; rfl, h6⟩
      · have k2' : (k == 2) = false := by simpa using k2
        have HR : Hid (rdI bs s ⟨k, n, t⟩ = (true, s)) := rdI3 k0 k1 k2
        have HS : Hid (l.set i (rdT p bs s) = l) := set_same hi
        clear k0 k1 k2
        go_enter Try.func33, Try.ntmps33
        go_wp2_with fail
        go_ret
        rw [HR.out]
        refine ⟨rfl, ?_⟩
        show Hold N w0 _ (l.set i (rdT p bs s))
        rw [HS.out]
        have := HB.out.take l.length
        rwa [List.take_left' rfl] at this
end
end Go.Proofs.Ytcapdmicekialaa
