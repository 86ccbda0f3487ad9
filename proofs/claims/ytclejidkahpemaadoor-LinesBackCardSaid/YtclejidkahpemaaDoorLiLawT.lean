/- LinesTwo. -/
import Derived.Test.YtclejidkahpemaaDoorLiLawK
import Derived.Test.YtclejidkahpemaaDoorLiPlain
namespace Go.Proofs.YtclejidkahpemaaDoor
open Go.RowKit
set_option linter.unusedVariables false
set_option linter.unusedSimpArgs false
attribute [local irreducible] ByteArray.extract ByteArray.toList
attribute [local go_sem] Oper.semAt_some run_store_func run_store_nilFunc
def RetB (l : List Cm) (f1 f2 : Int) (w : World) (e : Ending) (w' : World) : Prop := ∃ A c, e = .returned (.tuple #[.slice A l.length c, .agg #[.int .i64 f1, .int .i64 f2]]) ∧ RowAt w' A l ∧ Below w.heap.size w w'
theorem all_at (s : List UInt8) (bs : ByteArray) (hbs : bs = sOf s) (hs : s.length ≤ 1000000) (l : List Cm) (f1 f2 : Int) (hl : allL s = (l, (f1, f2))) (w : World) (hsp : Spaces w) : Calls Tryd.prog 16 #[.string bs] w (RetB l f1 f2 w) := by
  subst hbs
  refine (all_any s hs w hsp).mono ?_
  rintro e w' ⟨A, c, rfl, hrow, hb⟩
  rw [hl] at hrow ⊢
  exact ⟨A, c, rfl, rowAt_own hrow, hb⟩
theorem allGo_at (x : List (List UInt8)) : ∀ pos out, 0 ≤ (allGo pos out x).2.2 ∧ (allGo pos out x).2.2 ≤ (pos + lenN x : Nat) := by
  induction x with
  | nil => intro pos out; simp [allGo, lenN]
  | cons l x ih =>
    intro pos out
    have hl : pos + lenN (l :: x) = pos + l.length + 1 + lenN x := by unfold lenN; simp; omega
    rw [allGo_cons, hl]
    by_cases ht : told l = true
    · simp only [ht, if_true]
      by_cases he : (parseL l).2.1 ≠ 0
      · rw [if_pos he]
        have := parse_at l
        simp only
        omega
      · rw [if_neg he]; exact ih _ _
    · simp only [ht]; exact ih _ _
theorem all_at_le (s : List UInt8) : 0 ≤ (allL s).2.2 ∧ (allL s).2.2 ≤ (s.length + 1 : Nat) := by
  have := allGo_at (splitN s) 0 []
  rw [lenN_split, Nat.zero_add] at this
  exact this
theorem grown_below {w w' : World} {row : Option Nat} (hg : w.grownBy w' row) {N : Nat} (hN : N ≤ w.heap.size) (h : ∀ g, row = some g → N ≤ g) : Below N w w' := (Only.grown hg).below hN fun b hb => h b hb.symm
theorem reads_rowAt {w : World} {A : Option Addr} {l : List Cm} (h : RowAt w A l) : Reads w w.heap.size 3 A l.length (cmsV l) := by
  refine ⟨by rw [cmsV_len], fun hl => ?_⟩
  rcases h with rfl | ⟨b, o, rfl, h⟩
  · simp at hl
  · obtain ⟨x, t, rfl⟩ : ∃ x t, l = x :: t := by cases l with | nil => simp at hl | cons x t => exact ⟨x, t, rfl⟩
    exact ⟨_, rfl, World.block_lt_of_cell? _ _ (h 0 _ rfl), fun j u hu => by rw [Addr.add_lit]; exact h j u hu⟩
theorem cms_one (l : List Cm) : ∀ u ∈ cmsV l, u.oneCell' = true := by
  intro u hu
  unfold cmsV at hu
  obtain ⟨c, _, hc⟩ := List.mem_flatMap.1 hu
  unfold cmL at hc
  simp at hc
  rcases hc with rfl | rfl | rfl <;> rfl
/-- The three ways. -/
def Ways (k : Nat) (l m n : List Cm) (e1 e2 f1 f2 g1 g2 : Int) : Prop :=
  (¬ f1 = 0 ∧ l = [] ∧ e1 = f1 ∧ e2 = f2) ∨ (f1 = 0 ∧ ¬ g1 = 0 ∧ l = [] ∧ e1 = g1 ∧ e2 = g2 + k + 1) ∨ (f1 = 0 ∧ g1 = 0 ∧ e1 = 0 ∧ e2 = 0 ∧ l = m ++ n)
theorem two_ways {a b : List UInt8} {l m n : List Cm} {e1 e2 f1 f2 g1 g2 : Int} (hl : allL (a ++ 10 :: b) = (l, (e1, e2))) (hm : allL a = (m, (f1, f2))) (hn : allL b = (n, (g1, g2))) : Ways a.length l m n e1 e2 f1 f2 g1 g2 := by
  have h := two_all a b
  rw [hl, hm, hn] at h
  by_cases hf : f1 = 0
  · by_cases hg : g1 = 0
    · rw [if_neg (by simpa using hf), if_neg (by simpa using hg)] at h
      simp only [Prod.mk.injEq] at h
      exact .inr (.inr ⟨hf, hg, h.2.1, h.2.2, h.1⟩)
    · rw [if_neg (by simpa using hf), if_pos (by simpa using hg)] at h
      simp only [Prod.mk.injEq] at h
      exact .inr (.inl ⟨hf, hg, h.1, h.2.1, by omega⟩)
  · rw [if_pos (by simpa using hf)] at h
    simp only [Prod.mk.injEq] at h
    exact .inl ⟨hf, h.1, h.2.1, h.2.2⟩
set_option maxRecDepth 100000 in
set_option maxHeartbeats 3200000 in
theorem linesTwo_any (a b : List UInt8) (w : World) (hsp : Spaces w) : Calls Tryd.prog 8 #[.string (sOf a), .string (sOf b)] w fun e w' => e = .returned (.bool true) ∧ Below w.heap.size w w' := by
  have hS : ∀ W, Below w.heap.size w W → Spaces W := fun W hb => spaces_below hsp hb (spaces_pos hsp)
  have HS := Lib.hid hS
  have HZ := Lib.hid (And.intro (sOf_size a) (sOf_size b))
  have HA := Lib.hid (awake_any w hsp)
  clear hS hsp
  by_cases hl : 300 < (sOf a).size ∨ 300 < (sOf b).size
  · rcases hl with hl | hl
    · go_enter Tryd.func8, Tryd.ntmps8
      go_wp2_with fail
      refine HA.out.mono ?_
      rintro e w1 ⟨rfl, hb⟩
      have HB := Lib.hid hb
      clear hb
      go_wp2_with fail
      go_ret
      exact ⟨rfl, HB.out⟩
    · by_cases hl2 : 300 < (sOf a).size
      all_goals
        go_enter Tryd.func8, Tryd.ntmps8
        go_wp2_with fail
        refine HA.out.mono ?_
        rintro e w1 ⟨rfl, hb⟩
        have HB := Lib.hid hb
        clear hb
        go_wp2_with fail
        go_ret
        exact ⟨rfl, HB.out⟩
  · have hla : (sOf a).size ≤ 300 := by omega
    have hlb : (sOf b).size ≤ 300 := by omega
    clear hl
    obtain ⟨⟨l, e1, e2⟩, hl⟩ : ∃ x, allL (a ++ 10 :: b) = x := ⟨_, rfl⟩
    obtain ⟨⟨m, f1, f2⟩, hm⟩ : ∃ x, allL a = x := ⟨_, rfl⟩
    obtain ⟨⟨n, g1, g2⟩, hn⟩ : ∃ x, allL b = x := ⟨_, rfl⟩
    have HW := Lib.hid (two_ways hl hm hn)
    have hg2 := all_at_le b
    have hml := all_len a
    have hnl := all_len b
    have hll := all_len (a ++ 10 :: b)
    rw [hn] at hg2 hnl
    rw [hm] at hml
    rw [hl] at hll
    simp only [List.length_append, List.length_cons] at hg2 hnl hml hll
    have ha := HZ.out.1
    have hb := HZ.out.2
    have hg0 : 0 ≤ g2 := hg2.1
    have hg1 : g2 ≤ 301 := by omega
    have hml' : m.length ≤ 301 := by omega
    have hnl' : n.length ≤ 301 := by omega
    have hll' : l.length ≤ 602 := by omega
    have HL : Hid (∀ W, Below w.heap.size w W → Calls Tryd.prog 16 #[.string (sOf a ++ ⟨#[10]⟩ ++ sOf b)] W (RetB l e1 e2 W)) := Lib.hid fun W hb => all_at (a ++ 10 :: b) _ (by rw [show (⟨#[10]⟩ : ByteArray) = sOf [10] from rfl, sOf_app, sOf_app]; simp) (by simp; omega) l e1 e2 hl W (HS.out W hb)
    have HM : Hid (∀ W, Below w.heap.size w W → Calls Tryd.prog 16 #[.string (sOf a)] W (RetB m f1 f2 W)) := Lib.hid fun W hb => all_at a _ rfl (by omega) m f1 f2 hm W (HS.out W hb)
    have HN : Hid (∀ W, Below w.heap.size w W → Calls Tryd.prog 16 #[.string (sOf b)] W (RetB n g1 g2 W)) := Lib.hid fun W hb => all_at b _ rfl (by omega) n g1 g2 hn W (HS.out W hb)
    clear ha hb hg2 hml hnl hll hl hm hn
    go_enter Tryd.func8, Tryd.ntmps8
    go_wp2_with fail
    refine HA.out.mono ?_
    rintro e w1 ⟨rfl, hb⟩
    have HB := Lib.hid hb
    clear hb
    go_wp2_with fail
    refine (HL.out _ HB.out).mono ?_
    rintro e v1 ⟨A1, c1, rfl, hrow, hb⟩
    have HV1 := Lib.hid (And.intro ((HB.out.trans (hb.mono HB.out.size)).alloc (HB.out.trans (hb.mono HB.out.size)).size (.cells #[.int .i64 e1, .int .i64 e2] 31)) (And.intro (rowAt_below hrow ((Below.refl _ _).alloc (Nat.le_refl _) (.cells #[.int .i64 e1, .int .i64 e2] 31))) (Blk.new v1 31 #[.int .i64 e1, .int .i64 e2])))
    clear hb hrow
    go_wp2_with fail
    refine (HM.out _ HV1.out.1).mono ?_
    rintro e v2 ⟨A2, c2, rfl, hrow, hb⟩
    have HV2 := Lib.hid (And.intro ((HV1.out.1.trans (hb.mono HV1.out.1.size)).alloc (HV1.out.1.trans (hb.mono HV1.out.1.size)).size (.cells #[.int .i64 f1, .int .i64 f2] 31)) (And.intro (rowAt_below (rowAt_below HV1.out.2.1 hb) ((Below.refl _ _).alloc (Nat.le_refl _) (.cells #[.int .i64 f1, .int .i64 f2] 31))) (And.intro ((HV1.out.2.2.below hb HV1.out.2.2.lt).alloc (.cells #[.int .i64 f1, .int .i64 f2] 31)) (And.intro (rowAt_below hrow ((Below.refl _ _).alloc (Nat.le_refl _) (.cells #[.int .i64 f1, .int .i64 f2] 31))) (Blk.new v2 31 #[.int .i64 f1, .int .i64 f2])))))
    clear hb hrow
    go_wp2_with fail
    refine (HN.out _ HV2.out.1).mono ?_
    rintro e v3 ⟨A3, c3, rfl, hrow, hb⟩
    have HV3 := Lib.hid (And.intro ((HV2.out.1.trans (hb.mono HV2.out.1.size)).alloc (HV2.out.1.trans (hb.mono HV2.out.1.size)).size (.cells #[.int .i64 g1, .int .i64 g2] 31)) (And.intro (rowAt_below (rowAt_below HV2.out.2.1 hb) ((Below.refl _ _).alloc (Nat.le_refl _) (.cells #[.int .i64 g1, .int .i64 g2] 31))) (And.intro ((HV2.out.2.2.1.below hb HV2.out.2.2.1.lt).alloc (.cells #[.int .i64 g1, .int .i64 g2] 31)) (And.intro (rowAt_below (rowAt_below HV2.out.2.2.2.1 hb) ((Below.refl _ _).alloc (Nat.le_refl _) (.cells #[.int .i64 g1, .int .i64 g2] 31))) (And.intro ((HV2.out.2.2.2.2.below hb HV2.out.2.2.2.2.lt).alloc (.cells #[.int .i64 g1, .int .i64 g2] 31)) (rowAt_below hrow ((Below.refl _ _).alloc (Nat.le_refl _) (.cells #[.int .i64 g1, .int .i64 g2] 31))))))))
    have x0 := fun o => ((HV2.out.2.2.1.below hb HV2.out.2.2.1.lt).alloc o).cell 0
    have x1 := fun o => ((HV2.out.2.2.1.below hb HV2.out.2.2.1.lt).alloc o).cell 1
    have y0 := fun o => ((HV2.out.2.2.2.2.below hb HV2.out.2.2.2.2.lt).alloc o).cell 0
    have y1 := fun o => ((HV2.out.2.2.2.2.below hb HV2.out.2.2.2.2.lt).alloc o).cell 1
    simp only [List.getElem?_toArray, List.getElem?_cons_zero, List.getElem?_cons_succ] at x0 x1 y0 y1
    clear hb hrow
    rcases HW.out with ⟨q1, rfl, rfl, rfl⟩ | ⟨rfl, q1, rfl, rfl, q2⟩ | ⟨rfl, rfl, rfl, rfl, q2⟩
    · go_wp2_with fail
      go_ret
      exact ⟨rfl, HV3.out.1⟩
    · have hz := HZ.out.1
      rw [← hz] at q2
      have hwr1 : IntKind.i64.wrap (g2 + ((sOf a).size : Int)) = g2 + ((sOf a).size : Int) := IntWalk.i64_in _ (by omega)
      have hwr2 : IntKind.i64.wrap (g2 + ((sOf a).size : Int) + 1) = g2 + ((sOf a).size : Int) + 1 := IntWalk.i64_in _ (by omega)
      subst q2
      clear hz
      go_wp2_with fail
      go_ret
      exact ⟨rfl, HV3.out.1⟩
    · have HQ := Lib.hid q2
      clear q2
      obtain ⟨v4, hv4⟩ : ∃ v4, v4 = v3.alloc (.cells #[.int .i64 0, .int .i64 g2] 31) := ⟨_, rfl⟩
      have hz4 : v4.heap.size = v3.heap.size + 1 := by rw [hv4, World.size_alloc]
      have HO0 : Hid ((v4.alloc (.cells #[] 23)).ownsRow v4.heap.size 23 3 (.slice (some ⟨v4.heap.size, 0, none⟩) 0 0) 0 []) := Lib.hid (World.ownsRow_lit v4 #[] 0 (Nat.le_refl _) (Nat.zero_le _) rfl)
      have hW := HV3.out
      rw [← hv4] at hW
      have HR0 : Hid (Reads (v4.alloc (.cells #[] 23)) (v4.alloc (.cells #[] 23)).heap.size 3 A2 m.length (cmsV m)) := Lib.hid (reads_rowAt (rowAt_below hW.2.2.2.1 ((Below.refl _ _).alloc (Nat.le_refl _) _)))
      have H4 := Lib.hid hW
      obtain ⟨i0, hi0, hz0, hz1, hz2⟩ := info_parts info_lCmd
      have HI := Lib.hid (And.intro hi0 (And.intro hz0 (And.intro hz1 hz2)))
      rw [hv4] at HO0 HR0
      rw [World.size_alloc] at HO0
      have HV4 := Lib.hid (And.intro hv4 hz4)
      clear hW hv4 hz4 hi0 hz0 hz1 hz2
      have hBz : Below (v3.heap.size + 1) (v3.alloc (.cells #[.int .i64 0, .int .i64 g2] 31)) ((v3.alloc (.cells #[.int .i64 0, .int .i64 g2] 31)).alloc (.cells #[] 23)) := (Below.refl _ _).alloc (by rw [World.size_alloc]; exact Nat.le_refl _) _
      have HBz := Lib.hid hBz
      clear hBz
      go_wp2_with (first
        | (at_builtin
           refine BigFrame.wpList_want (by rfl) (fun K hK => wp_append_any _ (.tmp 86) (.tmp 87) 34 rfl (v3.heap.size + 1) 23 i0 (.agg #[.string ⟨#[]⟩, .string ⟨#[]⟩, .int .i64 0]) 3 40 Tryd.underlying34 HI.out.1 HI.out.2.1 HI.out.2.2.1 HI.out.2.2.2 rfl (by decide) (.slice (some ⟨v3.heap.size + 1, 0, none⟩) 0 0) 0 [] rfl HO0.out _ A2 m.length c2 (cmsV m) rfl HR0.out (cms_one m) (by simp only [maxLen]; omega) (by omega) (by simp only [World.size_alloc]; omega) (fun v' w5 hown' hgrow hat => hK _ _ ?_))
           clear hK
           rw [Nat.zero_add, List.nil_append] at hown'
           obtain ⟨A5, c5, rfl⟩ := own_slice hown'
           clear K
           have hB5 := HBz.out.trans (grown_below hgrow (N := v3.heap.size + 1) (by simp only [World.size_alloc]; omega) (by intro g hg; simp [Value.ownBlock] at hg; omega))
           have HO5 := Lib.hid (And.intro hown' (And.intro (rowAt_below H4.out.2.2.2.2.2 (by rw [HV4.out.2, HV4.out.1]; exact hB5)) hB5))
           clear hown' hgrow hat hB5)
        | (at_builtin
           go_must (refine BigFrame.wpList_want (by rfl) (fun K hK => wp_append_any _ (.tmp 88) (.tmp 89) 34 rfl (v3.heap.size + 1) 23 i0 (.agg #[.string ⟨#[]⟩, .string ⟨#[]⟩, .int .i64 0]) 3 40 Tryd.underlying34 HI.out.1 HI.out.2.1 HI.out.2.2.1 HI.out.2.2.2 rfl (by decide) (.slice A5 m.length c5) m.length (cmsV m) rfl HO5.out.1 _ A3 n.length c3 (cmsV n) rfl (reads_rowAt HO5.out.2.1) (cms_one n) (by simp only [maxLen]; omega) (by omega) (by have := HO5.out.2.2.size; simp only [World.size_alloc] at this; omega) (fun v' w6 hown' hgrow hat => hK _ _ ?_)))
           clear hK
           obtain ⟨A6, c6, rfl⟩ := own_slice hown'
           clear K
           go_must (have HO6 := Lib.hid (And.intro hown' (HO5.out.2.2.trans (grown_below hgrow (by have := HO5.out.2.2.size; simp only [World.size_alloc] at this; omega) (fun g hg => own_far HO5.out.1 hg.symm)))))
           clear hown' hgrow hat))
      have hlen : l.length = m.length + n.length := by rw [HQ.out, List.length_append]
      have hown := HO6.out.1
      rw [show cmsV m ++ cmsV n = cmsV l by rw [HQ.out]; unfold cmsV; rw [List.flatMap_append], ← hlen] at hown
      rw [← hlen]
      refine (same_any l l A1 A6 c1 c6 _ (by omega) (rowAt_below H4.out.2.1 (by rw [HV4.out.2, HV4.out.1]; exact HO6.out.2)) (rowAt_own hown)).mono ?_
      rintro e w7 ⟨rfl, n5, rfl⟩
      rw [decide_eq_true rfl]
      have HF : Hid (Below w.heap.size w w6) := Lib.hid (HV3.out.1.trans (HO6.out.2.mono (by have := HV3.out.1.size; simp only [World.size_alloc] at this; exact this)))
      clear hown hlen
      go_wp2_with fail
      go_ret
      exact ⟨rfl, HF.out.trans ((below_drewN _ n5).mono HF.out.size)⟩
theorem linesTwo_row (a b : ByteArray) (w : World) (hsp : Spaces w) : Calls Tryd.prog 8 #[.string a, .string b] w fun e w' => e = .returned (.bool true) ∧ Below w.heap.size w w' := linesTwo_any a.data.toList b.data.toList w hsp
end Go.Proofs.YtclejidkahpemaaDoor
