/- The document's All. -/
import Derived.Test.YtclejidkahpemaaDoorLiXParse
import Derived.Test.YtclejidkahpemaaDoorLiAll
namespace Go.Proofs.YtclejidkahpemaaDoor
open Go.RowKit
set_option linter.unusedVariables false
set_option linter.unusedSimpArgs false
attribute [local irreducible] ByteArray.extract ByteArray.toList
attribute [local go_sem] Oper.semAt_some run_store_func run_store_nilFunc
theorem results_xall (tmps : Array Value) (w : World) (g' : Nat) (v x y : Value) (hp : tmps.getD 2 undef = v) (hp2 : tmps.getD 3 undef = .pointer (some ⟨g', 0, none⟩)) (hx : w.cell? ⟨g', 0, none⟩ = some x) (hy : w.cell? ⟨g', 1, none⟩ = some y) :
    (results Tryd.f17 tmps).run Tryd.prog w = .ok (.tuple #[v, .agg #[x, y]]) w := by
  have hp' : tmps[2]?.getD undef = v := by simpa using hp
  have hp2' : tmps[3]?.getD undef = .pointer (some ⟨g', 0, none⟩) := by simpa using hp2
  have h : Tryd.f17.results = #[.tmp 2, .cell 3 31] := rfl
  simp [results, h, hp', hp2', asAddr, Sem.run_bind]
  go_simp
theorem sOf_mid (s : List UInt8) (i j : Nat) (h : i ≤ j) : (sOf s).extract i j = sOf ((s.drop i).take (j - i)) := by
  apply ByteArray.ext
  rw [ByteArray.data_extract]
  unfold sOf
  apply Array.ext'
  simp
theorem own_far {W : World} {base e size n g : Nat} {v : Value} {xs : List Value} (h : W.ownsRow base e size v n xs) (hg : some g = v.ownBlock) : base ≤ g := by
  rcases h.2 with ⟨rfl, _⟩ | ⟨g', cap, cur, rfl, h2, _⟩
  · simp [Value.ownBlock] at hg
  · simp [Value.ownBlock] at hg; omega
theorem told_byte {L : List UInt8} (h : 0 < (sOf L).size) : told L = ((((sOf L)[0]'h).toNat : Int) != 35) := by
  have hb := byte_at (sOf L) 0 h
  rw [sOf_list] at hb
  rw [← hb]
  cases L with
  | nil => exact absurd h (by decide)
  | cons x t =>
    show (!false && (some x != some 35)) = (((x.toNat : Int)) != 35)
    cases hh : ((x.toNat : Int) != 35) with
    | false =>
      have h1 : (x.toNat : Int) = 35 := by simpa using hh
      have : x = 35 := UInt8.toNat_inj.1 (by show x.toNat = 35; omega)
      subst this
      rfl
    | true =>
      have h1 : (x.toNat : Int) ≠ 35 := by simpa using hh
      have : x ≠ 35 := fun e => h1 (by rw [e]; rfl)
      simpa using this
theorem told_nil {L : List UInt8} (h : ¬ 0 < L.length) : told L = false := by
  cases L with
  | nil => rfl
  | cons x t => simp at h
/-- One line done. -/
theorem all_step {s r L : List UInt8} {fr : Nat} {out : List Cm} (hr : r = s.drop fr) (hL : L = cutL r 10) (hf : fr < s.length) (hg : allGo fr out (splitN r) = allL s) :
    (told L = true → (parseL L).2.1 ≠ 0 → allL s = ([], ((parseL L).2.1, (parseL L).2.2 + fr))) ∧
    (∀ out', (told L = false ∧ out' = out ∨ told L = true ∧ (parseL L).2.1 = 0 ∧ out' = out ++ [(parseL L).1]) → (fr + L.length + 1 ≤ s.length ∧ allGo (fr + L.length + 1) out' (splitN (s.drop (fr + L.length + 1))) = allL s) ∨ (fr + L.length + 1 = s.length + 1 ∧ (out', ((0 : Int), (0 : Int))) = allL s)) := by
  have hs := splitN_step r
  have hl : L.length ≤ r.length := by rw [hL]; exact (List.takeWhile_sublist _).length_le
  have hrl : r.length = s.length - fr := by rw [hr, List.length_drop]
  have hc : (r.takeWhile fun c => c != 10) = L := hL.symm
  rw [hc] at hs
  rw [hs] at hg
  unfold allGo at hg
  constructor
  · intro h1 h2
    rw [if_pos h1, if_pos h2] at hg
    exact hg.symm
  · intro out' h
    have hg' : allGo (fr + L.length + 1) out' (if L.length < r.length then splitN (r.drop (L.length + 1)) else []) = allL s := by
      rcases h with ⟨h1, h2⟩ | ⟨h1, h2, h3⟩
      · rw [if_neg (by rw [h1]; decide)] at hg
        rw [h2]; exact hg
      · rw [if_pos h1, if_neg (by simpa using h2)] at hg
        rw [h3]; exact hg
    by_cases hlt : L.length < r.length
    · left
      rw [if_pos hlt, hr, List.drop_drop] at hg'
      exact ⟨by omega, hg'⟩
    · right
      rw [if_neg hlt] at hg'
      exact ⟨by omega, hg'⟩
def loXA (i : Nat) : Nat := 0
def upXA (i : Nat) : Nat := if i = 8 then 1 else 0
/-- The loop's worlds: so far. -/
def XAll (s : List UInt8) (w : World) (fr : Nat) (out : List Cm) (A : Option Addr) (c : Nat) (W : World) : Prop :=
  ((fr ≤ s.length ∧ allGo fr out (splitN (s.drop fr)) = allL s) ∨ (fr = s.length + 1 ∧ (out, ((0 : Int), (0 : Int))) = allL s)) ∧ out.length ≤ fr ∧ Blk W w.heap.size 31 #[.int .i64 0, .int .i64 0] ∧ W.ownsRow (w.heap.size + 1) 23 3 (.slice A out.length c) out.length (cmsV out) ∧ Below w.heap.size w W
set_option maxRecDepth 100000 in
set_option maxHeartbeats 3200000 in
theorem xall_any (s : List UInt8) (hs : s.length ≤ 1000000) (w : World) : Calls Tryd.prog 17 #[.string (sOf s)] w (RetA s w) := by
  have hI0 : XAll s w 0 [] none 0 (w.alloc (.cells #[.int .i64 0, .int .i64 0] 31)) :=
    ⟨.inl ⟨Nat.zero_le _, rfl⟩, Nat.le_refl _, Blk.new w 31 _, World.ownsRow_nil _ _ _ _, (Below.refl _ _).alloc (Nat.le_refl _) _⟩
  have HI0 := Lib.hid hI0
  have hsz : (sOf s).size = s.length := sOf_size s
  have HSz := Lib.hid hsz
  have hbz : (sOf s).size ≤ 1000000 := by omega
  clear hI0 hsz
  go_enter Tryd.func17, Tryd.ntmps17
  go_wp2_with fail
  go_loopw [4, 5] (fun v ix wr => ∃ (fr : Nat) (out : List Cm) (A : Option Addr) (c : Nat), v = .slice A out.length c ∧ ix = .int .i64 fr ∧ fr ≤ (sOf s).size + 1 ∧ Hid (XAll s w fr out A c wr)) (fun _ ix _ => (sOf s).size + 1 - (intOf ix).toNat)
  case atStart => exact ⟨0, [], none, 0, rfl, rfl, by omega, HI0⟩
  case round =>
    clear HI0
    obtain ⟨fr, out, A, c, rfl, rfl, hfr, HX⟩ := hrel
    by_cases hlt : fr < (sOf s).size
    · have hlt' : (fr : Int) < ((sOf s).size : Int) := by omega
      obtain ⟨r, hr⟩ : ∃ r, r = s.drop fr := ⟨_, rfl⟩
      have hrl : r.length = (sOf s).size - fr := by rw [hr, List.length_drop, HSz.out]
      obtain ⟨L, hL⟩ : ∃ L, L = cutL r 10 := ⟨_, rfl⟩
      have hLr : L.length ≤ r.length := by rw [hL]; exact (List.takeWhile_sublist _).length_le
      have hby : ∀ i, (h : fr + i < (sOf s).size) → ((sOf s)[fr + i]'h) = r.getD i 0 := fun i h => by
        have := byte_at (sOf s) (fr + i) h
        rw [← this, sOf_list, hr, List.getD_eq_getElem?_getD, List.getD_eq_getElem?_getD, List.getElem?_drop]
      have hin : ∀ i, i < L.length → ∃ h : fr + i < (sOf s).size, ((((sOf s)[fr + i]'h).toNat : Int) == 10) = false := fun i hi => by
        rw [hL] at hi
        obtain ⟨h1, h2⟩ := cut_lt hi
        have h3 : fr + i < (sOf s).size := by omega
        refine ⟨h3, ?_⟩
        rw [hby i h3]
        cases hh : (((r.getD i 0).toNat : Int) == 10) with
        | false => rfl
        | true =>
          rw [beq_iff_eq] at hh
          exact absurd (UInt8.toNat_inj.1 (by show (r.getD i 0).toNat = 10; omega)) h2
      have hen : ∀ h : fr + L.length < (sOf s).size, ((((sOf s)[fr + L.length]'h).toNat : Int) == 10) = true := fun h => by
        rw [hby L.length h]
        have : r.getD L.length 0 = 10 := by rw [hL]; exact cut_end (by rw [← hL]; omega)
        rw [this]; rfl
      have hex : (sOf s).extract fr (fr + L.length) = sOf L := by
        rw [sOf_mid s fr _ (by omega), Nat.add_sub_cancel_left, ← hr, hL, take_cut]
      have hLs : L.length ≤ 1000000 := by omega
      have HIn := Lib.hid hin
      have HEn := Lib.hid hen
      have HEx := Lib.hid hex
      have HL := Lib.hid (And.intro hr (And.intro hrl (And.intro hL hLr)))
      have hfl : fr + L.length ≤ (sOf s).size := by omega
      clear hr hrl hL hLr hby hin hen hex
      go_upto_block 2 with fail
      go_cut [6] from 7 to 24 (fun v6 wx => v6 = .int .i64 ((fr + L.length : Nat) : Int) ∧ wx = wr)
      case first =>
        go_wp2_with fail
        go_loopw [6] (fun ix wq => ∃ i : Nat, ix = .int .i64 ((fr + i : Nat) : Int) ∧ i ≤ L.length ∧ wq = wr) (fun ix _ => fr + L.length - (intOf ix).toNat)
        case atStart => exact ⟨0, rfl, Nat.zero_le _, rfl⟩
        case round =>
          obtain ⟨i, rfl, hi, rfl⟩ := hrel
          by_cases hij : i < L.length
          · obtain ⟨hz, hb⟩ := HIn.out i hij
            have hz' : ((fr + i : Nat) : Int) < ((sOf s).size : Int) := by omega
            obtain ⟨q, hq⟩ : ∃ q, q = fr + i := ⟨_, rfl⟩
            have HQ := Lib.hid hq
            have hql : q < (sOf s).size := by omega
            have hb2 : ((((sOf s)[q]'hql).toNat : Int) == 10) = false := by subst hq; exact hb
            simp only [← hq] at hz' ⊢
            clear hb hz hq
            go_wp2_with fail
            refine ⟨⟨i + 1, ?_, by omega, by trivial⟩, ?_⟩
            · rw [show fr + (i + 1) = q + 1 by have := HQ.out; omega]; go_num
            · simp [intOf]; have := HQ.out; omega
          · obtain rfl : i = L.length := by omega
            by_cases hz : fr + L.length < (sOf s).size
            · have hb := HEn.out hz
              have hz' : ((fr + L.length : Nat) : Int) < ((sOf s).size : Int) := by omega
              generalize fr + L.length = q at *
              go_wp2_with fail
              all_goals (go_meet; exact ⟨rfl, rfl⟩)
            · have hz' : ¬ ((fr + L.length : Nat) : Int) < ((sOf s).size : Int) := by omega
              generalize fr + L.length = q at *
              go_wp2_with fail
              all_goals (go_meet; exact ⟨rfl, rfl⟩)
      case rest =>
        obtain ⟨rfl, rfl⟩ := hcut
        clear HIn HEn
        have hstep := fun h => all_step (out := out) HL.out.1 HL.out.2.2.1 (by have := HSz.out; omega : fr < s.length) h
        obtain ⟨hA, hO, hF, hR, hB⟩ := HX.out
        have hst := hstep (by
          rcases hA with ⟨h1, h2⟩ | ⟨h1, _⟩
          · rw [HL.out.1]; exact h2
          · have := HSz.out; omega)
        have HSt := Lib.hid hst
        have hskip : told L = false → XAll s w (fr + L.length + 1) out A c wc := fun ht => ⟨HSt.out.2 out (.inl ⟨ht, rfl⟩), by omega, hF, hR, hB⟩
        have HSk := Lib.hid hskip
        clear hstep hst hskip hA hO hF hR hB
        go_wp2_with fail
        case roundEnd =>
          rename_i h0 h1
          have ht : told L = false := by
            simp only [HEx.out] at h1
            rw [told_byte (by rw [sOf_size]; exact h0)]
            exact h1
          refine ⟨⟨fr + L.length + 1, out, A, c, rfl, by simp, by omega, Lib.hid (HSk.out ht)⟩, ?_⟩
          simp [intOf]; omega
        case roundEnd =>
          rename_i h0
          refine ⟨⟨fr + L.length + 1, out, A, c, rfl, by simp, by omega, Lib.hid (HSk.out (told_nil h0))⟩, ?_⟩
          simp [intOf]; omega
        rename_i h0 h1 K8 hK8 K9 hK9
        have ht : told L = true := by
          simp only [HEx.out] at h1
          rw [told_byte (by rw [sOf_size]; exact h0)]
          exact h1
        clear h1
        simp only [HEx.out]
        obtain ⟨hst1, hst2⟩ := HSt.out
        have hst1 := hst1 ht
        have hst2 := fun h => hst2 (out ++ [(parseL L).1]) (.inr ⟨ht, h, rfl⟩)
        have hpa := parse_at L
        refine (xparse_any L (by omega) wc).mono ?_
        unfold RetP
        have HT1 := Lib.hid hst1
        have HT2 := Lib.hid hst2
        clear hst1 hst2 HSt HSk ht
        generalize parseL L = pr at *
        obtain ⟨cc, fe, fa⟩ := pr
        simp only at HT1 HT2 hpa
        unfold cmV cmA flV
        rintro e w3 ⟨rfl, hb⟩
        obtain ⟨_, hO, hF, hR, hB⟩ := HX.out
        have hF3 := (hF.below hb hF.lt)
        have hFU := (hF3.alloc (.cells #[.string (sOf cc.word), .string (sOf cc.text), .int .i64 cc.n] 23)).alloc (.cells #[.int .i64 fe, .int .i64 fa] 31)
        have hO3 : Only (fun _ => False) wc w3 := Only.of_below hb (fun b h1 h2 => by omega)
        have kr := own_only hO3 hR (fun g _ _ h => h.elim)
        have hB3 := hB.trans (hb.mono hB.size)
        have hBU : Below w.heap.size w ((w3.alloc (.cells #[.string (sOf cc.word), .string (sOf cc.text), .int .i64 cc.n] 23)).alloc (.cells #[.int .i64 fe, .int .i64 fa] 31)) := (hB3.alloc (hB3.size) _).alloc (by have := hB3.size; simp; omega) _
        have hrU := (kr.alloc (.cells #[.string (sOf cc.word), .string (sOf cc.text), .int .i64 cc.n] 23)).alloc (.cells #[.int .i64 fe, .int .i64 fa] 31)
        have hlt1 : w.heap.size < wc.heap.size := hF.lt
        have hlt3 : w.heap.size < w3.heap.size := hF3.lt
        have HU := Lib.hid (And.intro hFU (And.intro hrU hBU))
        have HU3 := Lib.hid (And.intro hF3 (And.intro kr hB3))
        clear hF hR hB hF3 hO3 kr hB3 hrU hBU hb
        by_cases hfe : fe = 0
        · subst hfe
          have hT := HT2.out rfl
          have HT := Lib.hid hT
          obtain ⟨i0, hi0, hz0, hz1, hz2⟩ := info_parts info_lCmd
          have hca := arr_cells ((w3.alloc (.cells #[.string (sOf cc.word), .string (sOf cc.text), .int .i64 cc.n] 23)).alloc (.cells #[.int .i64 0, .int .i64 fa] 31)) (cmL cc) 23
          rw [World.size_alloc, World.size_alloc] at hca
          have HCA := Lib.hid hca
          clear hT HT1 HT2 hFU hca
          go_wp2_with (at_builtin; refine wpList_append_own _ rfl _ _ 34 rfl (w.heap.size + 1) 23 i0 (.agg #[.string ⟨#[]⟩, .string ⟨#[]⟩, .int .i64 0]) 3 40 Tryd.underlying34 hi0 hz0 hz1 hz2 rfl (by decide) (.slice A out.length c) out.length (cmsV out) rfl (HU.out.2.1.alloc _) ⟨w3.heap.size + 1 + 1, 0, none⟩ 1 1 (cmL cc) rfl rfl HCA.out (by simp [Value.oneCell', cmL]) (by simp only [maxLen]; omega) (by omega) (by simp; omega) ?_; go_must (intro v' w5 hown' hgrow _; obtain ⟨A5, c5, rfl⟩ := own_slice hown'; have HOw := Lib.hid (And.intro hown' hgrow); clear hown' hgrow))
          have hO5 := Only.grown HOw.out.2
          have hfar := fun g => own_far (g := g) HU.out.2.1
          have hFa := HU.out.1.alloc (.cells #[.string (sOf cc.word), .string (sOf cc.text), .int .i64 cc.n] 23)
          have hBa := HU.out.2.2.alloc HU.out.2.2.size (.cells #[.string (sOf cc.word), .string (sOf cc.text), .int .i64 cc.n] 23)
          refine ⟨⟨fr + L.length + 1, out ++ [cc], A5, c5, by simp, by simp, by omega, Lib.hid ⟨HT.out, by simp; omega, ?_, ?_, ?_⟩⟩, ?_⟩
          · exact (hO5.block _ hFa.lt (fun h => by have := hfar _ h; omega)).trans hFa
          · rw [List.length_append, List.length_singleton, cmsV_app]
            exact HOw.out.1
          · exact hBa.trans (hO5.below hBa.size (fun b h => by have := hfar _ h; omega))
          · simp [intOf]; omega
        · have hfe' : (fe != 0) = true := by simpa using hfe
          have hT := HT1.out hfe
          have HT := Lib.hid hT
          have hwf : IntKind.i64.wrap ((fr : Int) + fa) = (fr : Int) + fa := IntWalk.i64_in _ (by omega)
          have x0 := HU3.out.1.cell 0
          have x1 := HU3.out.1.cell 1
          have x0f := HU3.out.1.frozen 0
          have x1f := HU3.out.1.frozen 1
          simp at x0 x1
          clear hT HT1 HT2 hFU hfe
          go_wp2_with fail
          refine wp_region_text [8] loXA upXA (by kernel_rfl) (by kernel_rfl) (by kernel_rfl) (by kernel_rfl) (by kernel_rfl) ?_
          repeat (first | (refine wpTx_now (by rfl) (by rfl) (by rfl) (fun K hK => ?_); go_simp; refine hK _ ?_; clear hK K) | (refine wpTx_late [] (by rfl) (by rfl) (by rfl) (fun K hK => ?_); go_simp; refine hK _ _ ?_; clear hK K))
          refine wpTx_eff (by rfl) (fun K hK => ?_)
          go_simp
          refine hK _ _ (by simp [lateOK]) ?_
          clear hK K
          refine wpTx_nil ?_
          go_wp2_with fail
          have h0 := ((((HU3.out.1.set_ 0 (.int .i64 fe)).set_ 1 (.int .i64 ((fr : Int) + fa))).alloc (.cells #[.string (sOf cc.word), .string (sOf cc.text), .int .i64 cc.n] 23)).alloc (.cells #[.int .i64 fe, .int .i64 fa] 31)).drew
          refine bodyPost_ret (results_xall _ _ w.heap.size (.slice none 0 0) (.int .i64 fe) (.int .i64 ((fr : Int) + fa)) rfl rfl (h0.cell 0) (h0.cell 1)) rfl ⟨none, 0, ?_, ?_, ?_⟩
          · rw [HT.out, Int.add_comm]; rfl
          · rw [HT.out]; exact World.ownsRow_nil _ _ _ _
          · have hOs : Only (· = w.heap.size) w3 ((w3.setCell ⟨w.heap.size, 0, none⟩ (.int .i64 fe)).setCell ⟨w.heap.size, 1, none⟩ (.int .i64 ((fr : Int) + fa))) := (Only.setCell (S := (· = w.heap.size)) w3 ⟨w.heap.size, 0, none⟩ (.int .i64 fe) rfl).trans (Only.setCell (S := (· = w.heap.size)) _ ⟨w.heap.size, 1, none⟩ (.int .i64 ((fr : Int) + fa)) rfl)
            have h1 := HU3.out.2.2.trans (hOs.below HU3.out.2.2.size (fun b hb => by omega))
            exact ((h1.alloc h1.size _).alloc (by have := h1.size; simp only [World.size_alloc]; omega) _).drew
    · have hlt' : ¬ (fr : Int) < ((sOf s).size : Int) := by omega
      obtain ⟨hA, hO, hF, hR, hB⟩ := HX.out
      have hA' : (out, ((0 : Int), (0 : Int))) = allL s := by
        rcases hA with ⟨h1, h2⟩ | ⟨_, h2⟩
        · have : s.drop fr = [] := List.drop_eq_nil_iff.2 (by have := HSz.out; omega)
          rw [← h2, this]
          rfl
        · exact h2
      have x0 := hF.cell 0
      have x1 := hF.cell 1
      have x0f := hF.frozen 0
      have x1f := hF.frozen 1
      simp at x0 x1
      have HF := Lib.hid hF
      clear hA hO hF hR hB
      go_wp2_with fail
      have h0 := ((HF.out.set_ 0 (.int .i64 0)).set_ 1 (.int .i64 0))
      have hOs : Only (· = w.heap.size) wr ((wr.setCell ⟨w.heap.size, 0, none⟩ (.int .i64 0)).setCell ⟨w.heap.size, 1, none⟩ (.int .i64 0)) := (Only.setCell (S := (· = w.heap.size)) wr ⟨w.heap.size, 0, none⟩ (.int .i64 0) rfl).trans (Only.setCell (S := (· = w.heap.size)) _ ⟨w.heap.size, 1, none⟩ (.int .i64 0) rfl)
      obtain ⟨_, _, _, hR, hB⟩ := HX.out
      refine bodyPost_ret (results_xall _ _ w.heap.size (.slice A out.length c) (.int .i64 0) (.int .i64 0) rfl rfl (h0.cell 0) (h0.cell 1)) rfl ⟨A, c, ?_, ?_, ?_⟩
      · rw [← hA']; rfl
      · rw [← hA']; exact (own_only hOs hR (fun g hg _ h => by omega)).mono (by omega)
      · exact hB.trans (hOs.below hB.size (fun b hb => by omega))
end Go.Proofs.YtclejidkahpemaaDoor
