/- lines.forms, and look-ups in it. Printed by mkforms.py. -/
import Derived.Test.YtclejidkahpemaaDoorLiFields
import Derived.Test.YtclejidkahpemaaDoorLiPure
import Derived.Test.YtclejidkahpemaaDoorRows0
import Derived.Test.YtclejidkahpemaaDoorWords
namespace Go.Proofs.YtclejidkahpemaaDoor
open Go.RowKit
set_option linter.unusedVariables false
attribute [local irreducible] ByteArray.extract ByteArray.toList
attribute [local go_sem] Oper.semAt_some run_store_func run_store_nilFunc
def formK : Nat → Value
  | 1 => .agg #[.bool true, .func (.func 33) #[] #[], .func (.func 34) #[] #[]]
  | 2 => .agg #[.bool true, .func (.func 35) #[] #[], .func (.func 36) #[] #[]]
  | 3 => .agg #[.bool true, .func (.func 37) #[] #[], .func (.func 38) #[] #[]]
  | _ => .agg #[.bool false, .nilFunc, .nilFunc]
def formsE : List MapEntry := [⟨.string ⟨#[108, 105, 110, 101]⟩, .agg #[.bool true, .func (.func 33) #[] #[], .func (.func 34) #[] #[]], 0⟩, ⟨.string ⟨#[105, 110, 112, 117, 116]⟩, .agg #[.bool true, .func (.func 33) #[] #[], .func (.func 34) #[] #[]], 1⟩, ⟨.string ⟨#[108, 111, 97, 100]⟩, .agg #[.bool true, .func (.func 35) #[] #[], .func (.func 36) #[] #[]], 2⟩, ⟨.string ⟨#[104, 101, 97, 112]⟩, .agg #[.bool true, .func (.func 37) #[] #[], .func (.func 38) #[] #[]], 3⟩, ⟨.string ⟨#[114, 117, 110]⟩, .agg #[.bool true, .func (.func 37) #[] #[], .func (.func 38) #[] #[]], 4⟩, ⟨.string ⟨#[109, 111, 100, 101, 108]⟩, .agg #[.bool true, .func (.func 37) #[] #[], .func (.func 38) #[] #[]], 5⟩, ⟨.string ⟨#[116, 114, 97, 99, 101]⟩, .agg #[.bool true, .func (.func 37) #[] #[], .func (.func 38) #[] #[]], 6⟩, ⟨.string ⟨#[99, 108, 101, 97, 114]⟩, .agg #[.bool false, .nilFunc, .nilFunc], 7⟩, ⟨.string ⟨#[112, 97, 114, 115, 101]⟩, .agg #[.bool false, .nilFunc, .nilFunc], 8⟩, ⟨.string ⟨#[101, 108, 97, 98]⟩, .agg #[.bool false, .nilFunc, .nilFunc], 9⟩, ⟨.string ⟨#[99, 111, 100, 101]⟩, .agg #[.bool false, .nilFunc, .nilFunc], 10⟩, ⟨.string ⟨#[118, 101, 114, 105, 102, 121]⟩, .agg #[.bool false, .nilFunc, .nilFunc], 11⟩, ⟨.string ⟨#[115, 105, 116, 101, 115]⟩, .agg #[.bool false, .nilFunc, .nilFunc], 12⟩, ⟨.string ⟨#[115, 97, 118, 101]⟩, .agg #[.bool false, .nilFunc, .nilFunc], 13⟩, ⟨.string ⟨#[111, 117, 116]⟩, .agg #[.bool false, .nilFunc, .nilFunc], 14⟩]
def esA (i : Nat) : Array MapEntry := (formsE.take i).toArray
theorem enters_fl : ∀ args w, (callFunc 46 args).run Tryd.prog w = .ok (.enter 46 args) w := enters_fn Tryd.func46 (by kernel_rfl) rfl
section
variable {W : World} {r : Nat}
theorem ins_at (n : Nat) (key val : Value) (hb : W.heap[r]? = some (.map (esA n) n)) (hp : (esA n).push ⟨key, val, n⟩ = esA (n + 1)) (hck : ∀ w, (Instr.checkKey false 10000 9 key).run Tryd.prog w = .ok () w) (hf : ∀ w, (Instr.findKey 9 key (esA n).toList).run Tryd.prog w = .ok none w) :
    (Instr.mapUpdate 48 (.map (some r)) key val).run Tryd.prog W = .ok () (W.putObj r (.map (esA (n + 1)) (n + 1))) := by
  rw [run_insert_at Tryd.underlying48 hb hck hf, hp]
theorem ins_bare (i : Nat) (h : i < 8) (hb : W.heap[r]? = some (.map (esA (7 + i)) (7 + i))) : (Instr.mapUpdate 48 (.map (some r)) (.string (resW[i]'(by rw [resW_len]; exact h))) (.agg #[.bool false, .nilFunc, .nilFunc])).run Tryd.prog W = .ok () (W.putObj r (.map (esA (7 + i + 1)) (7 + i + 1))) := by
  rcases i with _ | _ | _ | _ | _ | _ | _ | _ | i
  · exact ins_at 7 _ _ hb rfl (fun _ => by kernel_rfl) (fun _ => by kernel_rfl)
  · exact ins_at 8 _ _ hb rfl (fun _ => by kernel_rfl) (fun _ => by kernel_rfl)
  · exact ins_at 9 _ _ hb rfl (fun _ => by kernel_rfl) (fun _ => by kernel_rfl)
  · exact ins_at 10 _ _ hb rfl (fun _ => by kernel_rfl) (fun _ => by kernel_rfl)
  · exact ins_at 11 _ _ hb rfl (fun _ => by kernel_rfl) (fun _ => by kernel_rfl)
  · exact ins_at 12 _ _ hb rfl (fun _ => by kernel_rfl) (fun _ => by kernel_rfl)
  · exact ins_at 13 _ _ hb rfl (fun _ => by kernel_rfl) (fun _ => by kernel_rfl)
  · exact ins_at 14 _ _ hb rfl (fun _ => by kernel_rfl) (fun _ => by kernel_rfl)
  · omega
/-- What a look-up tells. -/
theorem look_kind (s : ByteArray) (hb : W.heap[r]? = some (.map (esA 15) 15)) (ok : Bool) : (Instr.lookup 48 (.map (some r)) (.string s) ok).run Tryd.prog W = .ok (if ok then .tuple #[formK (kindL s.data.toList), .bool (kindL s.data.toList != 0)] else formK (kindL s.data.toList)) W := by
  by_cases h0 : s = ⟨#[108, 105, 110, 101]⟩
  · subst h0
    rw [show kindL (ByteArray.mk #[108, 105, 110, 101]).data.toList = 1 by decide]
    exact run_lookup_at Tryd.underlying48 hb (i := 0) (fun _ => by kernel_rfl) (fun _ => by kernel_rfl) ok
  by_cases h1 : s = ⟨#[105, 110, 112, 117, 116]⟩
  · subst h1
    rw [show kindL (ByteArray.mk #[105, 110, 112, 117, 116]).data.toList = 1 by decide]
    exact run_lookup_at Tryd.underlying48 hb (i := 1) (fun _ => by kernel_rfl) (fun _ => by kernel_rfl) ok
  by_cases h2 : s = ⟨#[108, 111, 97, 100]⟩
  · subst h2
    rw [show kindL (ByteArray.mk #[108, 111, 97, 100]).data.toList = 2 by decide]
    exact run_lookup_at Tryd.underlying48 hb (i := 2) (fun _ => by kernel_rfl) (fun _ => by kernel_rfl) ok
  by_cases h3 : s = ⟨#[104, 101, 97, 112]⟩
  · subst h3
    rw [show kindL (ByteArray.mk #[104, 101, 97, 112]).data.toList = 3 by decide]
    exact run_lookup_at Tryd.underlying48 hb (i := 3) (fun _ => by kernel_rfl) (fun _ => by kernel_rfl) ok
  by_cases h4 : s = ⟨#[114, 117, 110]⟩
  · subst h4
    rw [show kindL (ByteArray.mk #[114, 117, 110]).data.toList = 3 by decide]
    exact run_lookup_at Tryd.underlying48 hb (i := 4) (fun _ => by kernel_rfl) (fun _ => by kernel_rfl) ok
  by_cases h5 : s = ⟨#[109, 111, 100, 101, 108]⟩
  · subst h5
    rw [show kindL (ByteArray.mk #[109, 111, 100, 101, 108]).data.toList = 3 by decide]
    exact run_lookup_at Tryd.underlying48 hb (i := 5) (fun _ => by kernel_rfl) (fun _ => by kernel_rfl) ok
  by_cases h6 : s = ⟨#[116, 114, 97, 99, 101]⟩
  · subst h6
    rw [show kindL (ByteArray.mk #[116, 114, 97, 99, 101]).data.toList = 3 by decide]
    exact run_lookup_at Tryd.underlying48 hb (i := 6) (fun _ => by kernel_rfl) (fun _ => by kernel_rfl) ok
  by_cases h7 : s = ⟨#[99, 108, 101, 97, 114]⟩
  · subst h7
    rw [show kindL (ByteArray.mk #[99, 108, 101, 97, 114]).data.toList = 4 by decide]
    exact run_lookup_at Tryd.underlying48 hb (i := 7) (fun _ => by kernel_rfl) (fun _ => by kernel_rfl) ok
  by_cases h8 : s = ⟨#[112, 97, 114, 115, 101]⟩
  · subst h8
    rw [show kindL (ByteArray.mk #[112, 97, 114, 115, 101]).data.toList = 4 by decide]
    exact run_lookup_at Tryd.underlying48 hb (i := 8) (fun _ => by kernel_rfl) (fun _ => by kernel_rfl) ok
  by_cases h9 : s = ⟨#[101, 108, 97, 98]⟩
  · subst h9
    rw [show kindL (ByteArray.mk #[101, 108, 97, 98]).data.toList = 4 by decide]
    exact run_lookup_at Tryd.underlying48 hb (i := 9) (fun _ => by kernel_rfl) (fun _ => by kernel_rfl) ok
  by_cases h10 : s = ⟨#[99, 111, 100, 101]⟩
  · subst h10
    rw [show kindL (ByteArray.mk #[99, 111, 100, 101]).data.toList = 4 by decide]
    exact run_lookup_at Tryd.underlying48 hb (i := 10) (fun _ => by kernel_rfl) (fun _ => by kernel_rfl) ok
  by_cases h11 : s = ⟨#[118, 101, 114, 105, 102, 121]⟩
  · subst h11
    rw [show kindL (ByteArray.mk #[118, 101, 114, 105, 102, 121]).data.toList = 4 by decide]
    exact run_lookup_at Tryd.underlying48 hb (i := 11) (fun _ => by kernel_rfl) (fun _ => by kernel_rfl) ok
  by_cases h12 : s = ⟨#[115, 105, 116, 101, 115]⟩
  · subst h12
    rw [show kindL (ByteArray.mk #[115, 105, 116, 101, 115]).data.toList = 4 by decide]
    exact run_lookup_at Tryd.underlying48 hb (i := 12) (fun _ => by kernel_rfl) (fun _ => by kernel_rfl) ok
  by_cases h13 : s = ⟨#[115, 97, 118, 101]⟩
  · subst h13
    rw [show kindL (ByteArray.mk #[115, 97, 118, 101]).data.toList = 4 by decide]
    exact run_lookup_at Tryd.underlying48 hb (i := 13) (fun _ => by kernel_rfl) (fun _ => by kernel_rfl) ok
  by_cases h14 : s = ⟨#[111, 117, 116]⟩
  · subst h14
    rw [show kindL (ByteArray.mk #[111, 117, 116]).data.toList = 4 by decide]
    exact run_lookup_at Tryd.underlying48 hb (i := 14) (fun _ => by kernel_rfl) (fun _ => by kernel_rfl) ok
  have hk : kindL s.data.toList = 0 := by
    have hall : ∀ w ∈ wsAll, s.data.toList ≠ w := by
      intro w hw e
      have es : s = ⟨w.toArray⟩ := by rcases s with ⟨⟨d⟩⟩; simp at e; rw [e]
      simp only [wsAll, wsText, wsHex, wsNum, wsBare, List.cons_append, List.nil_append, List.mem_cons, List.not_mem_nil, or_false] at hw
      rcases hw with rfl | rfl | rfl | rfl | rfl | rfl | rfl | rfl | rfl | rfl | rfl | rfl | rfl | rfl | rfl
      · exact h0 es
      · exact h1 es
      · exact h2 es
      · exact h3 es
      · exact h4 es
      · exact h5 es
      · exact h6 es
      · exact h7 es
      · exact h8 es
      · exact h9 es
      · exact h10 es
      · exact h11 es
      · exact h12 es
      · exact h13 es
      · exact h14 es
    unfold kindL
    rw [if_neg (fun h => hall _ (by unfold wsAll; simp [h]) rfl), if_neg (fun h => hall _ (by unfold wsAll; simp [h]) rfl), if_neg (fun h => hall _ (by unfold wsAll; simp [h]) rfl), if_neg (fun h => hall _ (by unfold wsAll; simp [h]) rfl)]
  rw [hk]
  have hfn : ∀ w, (Instr.findKey 9 (.string s) (esA 15).toList).run Tryd.prog w = .ok none w := by
    intro w
    simp [Instr.findKey, run_underlying Tryd.underlying9, Sem.run_bind, Result.andThen, esA, formsE, Instr.findNow, Instr.sameNow, ba_ne h0, ba_ne h1, ba_ne h2, ba_ne h3, ba_ne h4, ba_ne h5, ba_ne h6, ba_ne h7, ba_ne h8, ba_ne h9, ba_ne h10, ba_ne h11, ba_ne h12, ba_ne h13, ba_ne h14]
  exact run_lookup_none Tryd.underlying48 hb (fun _ => by kernel_rfl) hfn (fun _ => by kernel_rfl) ok
end
def numsC : Array Value := #[.string ⟨#[104, 101, 97, 112]⟩, .string ⟨#[114, 117, 110]⟩, .string ⟨#[109, 111, 100, 101, 108]⟩, .string ⟨#[116, 114, 97, 99, 101]⟩]
def numW : Nat → ByteArray
  | 0 => ⟨#[104, 101, 97, 112]⟩
  | 1 => ⟨#[114, 117, 110]⟩
  | 2 => ⟨#[109, 111, 100, 101, 108]⟩
  | _ => ⟨#[116, 114, 97, 99, 101]⟩
theorem ins_num {W : World} {r : Nat} (i : Nat) (h : i < 4) (hb : W.heap[r]? = some (.map (esA (3 + i)) (3 + i))) : (Instr.mapUpdate 48 (.map (some r)) (.string (numW i)) (.agg #[.bool true, .func (.func 37) #[] #[], .func (.func 38) #[] #[]])).run Tryd.prog W = .ok () (W.putObj r (.map (esA (3 + i + 1)) (3 + i + 1))) := by
  rcases i with _ | _ | _ | _ | i
  · exact ins_at 3 _ _ hb rfl (fun _ => by kernel_rfl) (fun _ => by kernel_rfl)
  · exact ins_at 4 _ _ hb rfl (fun _ => by kernel_rfl) (fun _ => by kernel_rfl)
  · exact ins_at 5 _ _ hb rfl (fun _ => by kernel_rfl) (fun _ => by kernel_rfl)
  · exact ins_at 6 _ _ hb rfl (fun _ => by kernel_rfl) (fun _ => by kernel_rfl)
  · omega
/-- A new map of all words. -/
def RetForms (w : World) (e : Ending) (w' : World) : Prop := ∃ r, e = .returned (.map (some r)) ∧ w'.heap[r]? = some (.map (esA 15) 15) ∧ Below w.heap.size w w' ∧ w.heap.size ≤ r
theorem spaces_below {n : Nat} {w w' : World} (h : Spaces w) (hb : Below n w w') (hn : 0 < n) : Spaces w' := fun c hc => (World.cell?_of_block (w := w) (hb.block 0 hn)).trans (h c hc)
theorem spaces_pos {w : World} (h : Spaces w) : 0 < w.heap.size := lt_of_cell (h 0 (by decide))
set_option maxRecDepth 100000 in
set_option maxHeartbeats 3200000 in
theorem forms_any (w : World) (hsp : Spaces w) : Calls Tryd.prog 22 #[] w (RetForms w) := by
  have h0 := spaces_pos hsp
  have hmm := @run_makeMap Tryd.prog
  refine (callsIn_wide (n := 3)).1 ?_
  refine callsIn_of_wp_marks Tryd.func22 rfl trivial ?_
  simp only [Tryd.ntmps22, List.size_toArray, List.length_nil, Nat.reduceSub, Array.replicate_succ, Array.replicate_zero, List.push_toArray, List.append_toArray, List.nil_append, List.cons_append]
  gi_wp2_with (rw [run_insert_new Tryd.underlying48]; rotate_left 1; (intro _; kernel_rfl); (intro _; kernel_rfl))
  change Code.wpIn _ _ _ _ _ _ (((w.alloc (.map (esA 3) 3)).alloc (.cells #[.map (some w.heap.size)] 48)).alloc (.cells numsC 9))
  generalize hw0 : (((w.alloc (.map (esA 3) 3)).alloc (.cells #[.map (some w.heap.size)] 48)).alloc (.cells numsC 9)) = w0
  have hs0 : w0.heap.size = w.heap.size + 3 := by rw [← hw0]; simp
  have hB0 : Below w.heap.size w w0 := by rw [← hw0]; exact (((Below.refl _ _).alloc (Nat.le_refl _) _).alloc (by simp) _).alloc (by simp; omega) _
  have hm0 : w0.heap[w.heap.size]? = some (.map (esA 3) 3) := by
    rw [← hw0, Below.heap_alloc _ _ _ (by simp; omega), Below.heap_alloc _ _ _ (by simp)]; exact heap_alloc_at _ _
  have hx0 : Boxed w0 (w.heap.size + 1) 48 (.map (some w.heap.size)) := by
    rw [← hw0]
    have := (Boxed.new (w.alloc (.map (esA 3) 3)) 48 (.map (some w.heap.size))).alloc (.cells numsC 9)
    simpa using this
  have hn0 : Blk w0 (w.heap.size + 2) 9 numsC := by
    rw [← hw0]
    have := Blk.new ((w.alloc (.map (esA 3) 3)).alloc (.cells #[.map (some w.heap.size)] 48)) 9 numsC
    simpa using this
  clear hw0
  gi_loopw [12] (fun ix wr => ∃ i : Nat, ix = .int .i64 i ∧ i ≤ 4 ∧ wr.heap[w.heap.size]? = some (.map (esA (3 + i)) (3 + i)) ∧ Boxed wr (w.heap.size + 1) 48 (.map (some w.heap.size)) ∧ Blk wr (w.heap.size + 2) 9 numsC ∧ Below w.heap.size w wr) (fun ix _ => 4 - (intOf ix).toNat)
  case atStart => exact ⟨0, rfl, by omega, hm0, hx0, hn0, hB0⟩
  case round =>
    clear hm0 hx0 hn0 hB0
    obtain ⟨i, rfl, hi, hm, hx, hn, hB⟩ := hrel
    by_cases hlt : i < 4
    · have hlt' : (i : Int) < 4 := by omega
      have hc := hn.cell i
      have hcx := hx.cell
      have hw : numsC[i]? = some (.string (numW i)) := by
        rcases i with _ | _ | _ | _ | i
        all_goals first | rfl | omega
      rw [hw] at hc
      have hrun := ins_num (r := w.heap.size) i hlt hm
      clear hw
      generalize numW i = kw at hc hrun
      have hrlt : w.heap.size < wr.heap.size := by have := hx.lt; omega
      have hO := Only.putObj (S := (· = w.heap.size)) wr w.heap.size (.map (esA (3 + i + 1)) (3 + i + 1)) rfl
      have HZ : Hid (Boxed (wr.putObj w.heap.size (.map (esA (3 + i + 1)) (3 + i + 1))) (w.heap.size + 1) 48 (.map (some w.heap.size)) ∧ Blk (wr.putObj w.heap.size (.map (esA (3 + i + 1)) (3 + i + 1))) (w.heap.size + 2) 9 numsC ∧ Below w.heap.size w (wr.putObj w.heap.size (.map (esA (3 + i + 1)) (3 + i + 1)))) := Lib.hid ⟨box_only hO hx (by omega), (hO.block _ hn.lt (by omega)).trans hn, hB.trans (hO.below hB.size (fun b hb => by omega))⟩
      have hput : (wr.putObj w.heap.size (.map (esA (3 + i + 1)) (3 + i + 1))).heap[w.heap.size]? = some (.map (esA (3 + i + 1)) (3 + i + 1)) := by unfold World.putObj; simp [hrlt]
      have HPut := Lib.hid hput
      clear hm hx hn hB hO hput
      gi_wp2
      exact ⟨⟨i + 1, by go_num, by omega, HPut.out, HZ.out.1, HZ.out.2.1, HZ.out.2.2⟩, by simp [intOf]; omega⟩
    · have hlt' : ¬ (i : Int) < 4 := by omega
      obtain rfl : i = 4 := by omega
      have hcx := hx.cell
      have hxl := hx.lt
      have hbx := cell_new1 wr (.string allS) 9
      have hsp2 : Spaces (wr.alloc (.cells #[.string allS] 9)) := fun c hc => cell_alloc1 _ ((spaces_below hsp hB h0) c hc)
      have Hd := Lib.hid (fields_iter wr.heap.size _ hbx.1 hsp2)
      have hm2 : (wr.alloc (.cells #[.string allS] 9)).heap[w.heap.size]? = some (.map (esA 7) 7) := (Below.heap_alloc _ _ _ (by omega)).trans hm
      have hx2 := hx.alloc (.cells #[.string allS] 9)
      have hB2 := hB.alloc hB.size (.cells #[.string allS] 9)
      have HK := Lib.hid (And.intro hm2 (And.intro hx2 hB2))
      have hMs : w.heap.size + 1 < wr.heap.size := hxl
      clear hm hx hn hB hbx hsp2 hm2 hx2 hB2 hcx hxl
      gi_wp2_with ((refine ⟨trivial, ?_⟩; gi_at_call 39); refine (callsIn_wide.2 (fields_any _ _)).mono ?_; rintro e w' ⟨rfl, rfl⟩)
      change Code.wpIn _ _ _ _ _ _ (wr.alloc (.cells #[.string allS] 9))
      generalize hw1 : wr.alloc (.cells #[.string allS] 9) = w1 at Hd HK ⊢
      have hs1 : w1.heap.size = wr.heap.size + 1 := by rw [← hw1]; simp
      have hlen := resW_len
      refine wp_range (w := w1) (gf := 46) (lb := #[.pointer (some ⟨wr.heap.size, 0, none⟩)]) rfl enters_fl
        Hd.out (by rintro b (h | rfl | rfl); exact h.elim; omega; omega) (fun _ => rfl)
        (fun i W => W.heap[w.heap.size]? = some (.map (esA (7 + i)) (7 + i)) ∧ Boxed W (w.heap.size + 1) 48 (.map (some w.heap.size)) ∧ Below w.heap.size w W ∧ wr.heap.size + 1 ≤ W.heap.size)
        (fun _ _ _ => False) ?hI (fun _ _ _ _ h _ => h) ?h0 ?round ?done (fun _ _ _ _ h => h.elim)
      case hI =>
        rintro i A B ⟨hm, hx, hB, hz⟩ ho
        rw [hs1] at ho
        refine ⟨(ho.block _ (by omega) (by rintro (h | h | h); exact h.elim; all_goals omega)).trans hm, box_only ho hx (by rintro (h | h | h); exact h.elim; all_goals omega), hB.trans (ho.below hB.size (by rintro b (h | h | h); exact h.elim; all_goals omega)), by have := ho.size; omega⟩
      case h0 => exact ⟨HK.out.1, HK.out.2.1, HK.out.2.2, by omega⟩
      case round =>
        rintro l i hi W rfl hlt2 ⟨hm, hx, hB, hz⟩
        rw [hs1] at hlt2
        gi_wp2
        refine ⟨Kept.refl _ _ _ _, ⟨hm, hx, hB, hz⟩, ?_⟩
        clear hlt2 hm hx hB hz
        rintro W2 hlt2 ⟨hm, hx, hB, hz⟩
        rw [hs1] at hlt2
        have hcx := hx.cell
        have hi8 : i < 8 := by rw [resW_len] at hi; exact hi
        have hrun := ins_bare (r := w.heap.size) i hi8 hm
        have hO := Only.putObj (S := (· = w.heap.size)) W2 w.heap.size (.map (esA (7 + i + 1)) (7 + i + 1)) rfl
        have hput : (W2.putObj w.heap.size (.map (esA (7 + i + 1)) (7 + i + 1))).heap[w.heap.size]? = some (.map (esA (7 + i + 1)) (7 + i + 1)) := by
          unfold World.putObj
          have : w.heap.size < W2.heap.size := by omega
          simp [this]
        have HZ := Lib.hid (And.intro hput (And.intro (box_only hO hx (by omega)) (And.intro (hB.trans (hO.below hB.size (fun b hb => by omega))) hO)))
        have hlt3 : ¬ wr.heap.size + 2 = w.heap.size := by omega
        clear hm hx hB hO hput
        generalize resW[i]'hi = kw at hrun ⊢
        gi_wp2
        refine ⟨Kept.of_only HZ.out.2.2.2 ?_, HZ.out.1, HZ.out.2.1, HZ.out.2.2.1, by have := HZ.out.2.2.2.size; omega⟩
        rw [hs1]
        rintro b (h | (h | h) | h | h)
        · exact h.elim
        all_goals exact ⟨by omega, by omega⟩
      case done =>
        rintro W ⟨hm, hx, hB, hz⟩ hlt2 hD
        have hcx := hx.cell
        rw [hlen] at hm
        rw [hs1] at hD hlt2
        rw [hs1]
        gi_wp2
        refine leaves_mark hD (leaves_nil (results_tmp rfl _ _ _) ⟨w.heap.size, rfl, ?_, below_putObj hB (by omega) (by omega) _, Nat.le_refl _⟩)
        exact ((Only.putObj (S := (· = wr.heap.size + 1)) W _ _ rfl).block _ (by omega) (by omega)).trans hm
end Go.Proofs.YtclejidkahpemaaDoor
