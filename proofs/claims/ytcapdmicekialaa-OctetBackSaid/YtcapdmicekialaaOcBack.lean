/- OctetBack, walked. -/
import Derived.Test.YtcapdmicekialaaOcBackW
import Derived.Test.YtcapdmicekialaaOcKnown
namespace Go.Proofs.Ytcapdmicekialaa
open Go.RowKit
attribute [local go_sem] Oper.semAt_some run_store_func run_store_nilFunc
def itsV (l : List Item) : List Value := l.flatMap itV
theorem itsV_len (l : List Item) : (itsV l).length = l.length * 3 := by
  unfold itsV
  induction l with
  | nil => rfl
  | cons a l ih => rw [List.flatMap_cons, List.length_append, ih, List.length_cons]; show 3 + _ = _; omega
theorem itsV_app (a b : List Item) : itsV (a ++ b) = itsV a ++ itsV b := by unfold itsV; rw [List.flatMap_append]
theorem itsV_at : ∀ (l : List Item) (i f : Nat) (h : i < l.length), f < 3 → (itsV l)[i * 3 + f]? = (itV l[i])[f]?
  | a :: l, 0, f, h, hf => by
    show (itV a ++ itsV l)[0 * 3 + f]? = _
    rw [Nat.zero_mul, Nat.zero_add, List.getElem?_append_left (by show f < 3; exact hf)]
    rfl
  | a :: l, i + 1, f, h, hf => by
    show (itV a ++ itsV l)[(i + 1) * 3 + f]? = _
    rw [List.getElem?_append_right (by show 3 ≤ _; omega), show (i + 1) * 3 + f - (itV a).length = i * 3 + f from by show (i + 1) * 3 + f - 3 = _; omega, itsV_at l i f (by simpa using h) hf]
    rfl
theorem itsV_take (l : List Item) (i : Nat) (h : i < l.length) : itsV (l.take i) ++ itV l[i] = itsV (l.take (i + 1)) := by
  rw [List.take_succ_eq_append_getElem h, itsV_app]; simp [itsV]
/-- The bytes of the first i items. -/
def pre (its : List Item) (i : Nat) : List UInt8 := (its.take i).flatMap encI
theorem pre_succ (its : List Item) (i : Nat) (h : i < its.length) : pre its i ++ encI its[i] = pre its (i + 1) := by
  unfold pre; rw [List.take_succ_eq_append_getElem h, List.flatMap_append]; simp
theorem pre_all (its : List Item) (i : Nat) (h : i < its.length) : pre its its.length = pre its i ++ (encI its[i] ++ (its.drop (i + 1)).flatMap encI) := by
  unfold pre
  rw [List.take_length]
  conv => lhs; rw [← List.take_append_drop i its, List.drop_eq_getElem_cons h]
  rw [List.flatMap_append, List.flatMap_cons]
theorem pre_drop (its : List Item) (i : Nat) (h : i < its.length) : (pre its its.length).drop (pre its i).length = encI its[i] ++ (its.drop (i + 1)).flatMap encI ∧ (pre its i).length ≤ (pre its its.length).length := by
  rw [pre_all its i h]
  exact ⟨List.drop_left, by rw [List.length_append]; omega⟩
theorem pre_len (its : List Item) (i : Nat) (h : i < its.length) : (pre its i).length + (encI its[i]).length = (pre its (i + 1)).length := by
  rw [← pre_succ its i h, List.length_append]
/-- Reading with the last byte missing: all well so far, or a byte was missing. -/
def CutSt (its : List Item) (all : List UInt8) (i : Nat) (s : RS) : Prop := (s = ((pre its i).length, 0, 0) ∧ (pre its i).length < all.length) ∨ s.2.1 = 13
theorem cut_step (its : List Item) (i : Nat) (s : RS) (h : i < its.length) (hn : its[i].n ≤ 9223372036854775807) (hs : its[i].s.size ≤ 100) (hm : mayI its[i]) (hc : CutSt its (pre its its.length) i s) :
    CutSt its (pre its its.length) (i + 1) (rdI (pre its its.length).dropLast s its[i]).2 := by
  rcases hc with ⟨rfl, hlt⟩ | h13
  · have hall := pre_all its i h
    have hlen := pre_len its i h
    generalize (its.drop (i + 1)).flatMap encI = rest at hall
    by_cases hr : rest = []
    · subst hr
      rw [List.append_nil] at hall
      have hne : encI its[i] ≠ [] := by
        intro he
        rw [hall, he, List.append_nil] at hlt
        omega
      refine .inr ?_
      have hd : (pre its its.length).dropLast = pre its i ++ (encI its[i]).dropLast := by rw [hall, List.dropLast_append_of_ne_nil hne]
      refine rdI_cut _ _ _ its[i] hn hs hm ?_ hne ?_
      · rw [hd, List.drop_left]
      · rw [hd, List.length_append]; omega
    · have hne : encI its[i] ++ rest ≠ [] := by simp [hr]
      have hd : (pre its its.length).dropLast = pre its i ++ (encI its[i] ++ rest.dropLast) := by rw [hall, List.dropLast_append_of_ne_nil hne, List.dropLast_append_of_ne_nil hr]
      have hrd := rdI_ok (pre its its.length).dropLast (pre its i).length 0 its[i] rest.dropLast hn hs hm (by rw [hd, List.drop_left]) (by rw [hd, List.length_append]; omega)
      rw [hrd]
      refine .inl ⟨by rw [hlen], ?_⟩
      have h1 : 0 < rest.length := List.length_pos_iff.2 hr
      have h2 : (pre its its.length).length = (pre its i).length + ((encI its[i]).length + rest.length) := by rw [hall, List.length_append, List.length_append]
      omega
  · rw [rdI_bad _ _ _ (by rw [h13]; decide)]
    exact .inr h13
theorem cut_end (its : List Item) (s : RS) (hc : CutSt its (pre its its.length) its.length s) : s.2.1 = 13 := by
  rcases hc with ⟨_, h⟩ | h
  · omega
  · exact h
theorem info_item : (Try.prog.info? 33).map (fun i => (i.zero, i.size, i.bytes)) = some (some (.agg #[.int .i64 0, .int .i64 0, .string ⟨#[]⟩]), 3, 32) := by kernel_rfl
theorem cells_new3 (w : World) (x y z : Value) (t : TypeId) : ∀ j u, [x, y, z][j]? = some u → (w.alloc (.cells #[x, y, z] t)).cell? ((⟨w.heap.size, 0, none⟩ : Addr).add j) = some u := by
  intro j u hj
  rw [show (⟨w.heap.size, 0, none⟩ : Addr).add j = ⟨w.heap.size, j, none⟩ from by unfold Addr.add; split <;> simp_all]
  rw [(Blk.new w t #[x, y, z]).cell j]
  simpa using hj
theorem ownsRow_form3 {w : World} {base e size n : Nat} {v : Value} {xs : List Value} (h : w.ownsRow base e size v n xs) : ∃ A c, v = .slice A n c ∧ True := by
  rcases h.2 with ⟨rfl, hx⟩ | ⟨g, cap, cur, rfl, _⟩
  · subst hx; exact ⟨none, 0, rfl, trivial⟩
  · exact ⟨_, _, rfl, trivial⟩
theorem field_err (x y : Int) (w : World) : (Instr.field 47 (.agg #[.int .i64 x, .int .i64 y]) 0).run Try.prog w = .ok (.int .i64 x) w := by kernel_rfl
set_option maxRecDepth 100000 in
set_option maxHeartbeats 6400000 in
theorem back_walk (A : Option Addr) (c : Nat) (its : List Item) (w : World) (hit : Items w A its) (hok : ItemsOk its) (hl : its.length ≤ 140737488351232) :
    Calls Try.prog 6 #[.slice A its.length c] w (RetBw (.bool true) w) := by
  have HI := Lib.hid hit
  have HK := Lib.hid hok
  clear hit hok
  go_enter Try.func6, Try.ntmps6
  go_wp2_with fail
  refine (known_yes w).mono ?_
  rintro e w1 ⟨rfl, hb⟩
  have H := Lib.hid ((Hold.nil w).quiet (only_below hb))
  clear hb
  go_wp2_with fail
  refine (H.out.wnew 1048576 (by decide) (by decide)).mono ?_
  clear H
  rintro e w2 ⟨p, rfl, h⟩
  have H := Lib.hid h
  clear h
  have HI2 : Hid (Items w2 A its) := fun hp => by
    obtain ⟨b, off, hA, hb, hat⟩ := HI.out hp
    exact ⟨b, off, hA, by have := H.out.below.size; omega, hat.below H.out.below hb⟩
  go_wp2_with fail
  refine (long_any A c its w2 HI2.out hl).mono ?_
  rintro e w' ⟨r, rfl, rfl, hr⟩
  cases r with
  | true =>
    clear hr
    go_wp2_with fail
    go_ret
    exact ⟨rfl, H.out.below⟩
  | false =>
    obtain ⟨h40, h100⟩ := hr rfl
    have HR := Lib.hid h100
    clear hr h100 HI2
    have H0 := Lib.hid (H.out.add (rowT 33 3 (.slice none 0 0) 0 []) (Only.refl _ _) ⟨_, ⟨World.ownsRow_nil _ _ _ _, rfl⟩, fun b hb => by simp [Value.ownBlock] at hb⟩)
    clear H
    go_wp2_with fail
    go_loopw [7, 6] (fun x y wr => ∃ (i : Nat) (B : Option Addr) (d : Nat), x = .int .i64 i ∧ y = .slice B i d ∧ i ≤ its.length ∧ Hold w.heap.size w wr [wrT p 1048576 (pre its i, 0), rowT 33 3 (.slice B i d) i (itsV (its.take i))] ∧ ∀ (j : Nat) (h : j < its.length), j < i → mayI its[j]) (fun x y wr => its.length - (intOf x).toNat)
    case atStart => exact ⟨0, none, 0, rfl, rfl, Nat.zero_le _, H0.out, fun j _ hj => absurd hj (Nat.not_lt_zero _)⟩
    case round =>
      obtain ⟨i, B, d, rfl, rfl, hi, hh, hmay⟩ := hrel
      clear H0
      have H := Lib.hid hh
      have HM := Lib.hid hmay
      clear hh hmay
      by_cases hlt : i < its.length
      · have hlt' : (i : Int) < (its.length : Int) := by omega
        obtain ⟨b, off, rfl, hb, hat⟩ := HI.out (by omega)
        obtain ⟨k0, k1⟩ := HK.out i hlt
        have hs100 := HR.out i hlt
        have k2 : its[i].s.size ≤ 140737488351232 := Nat.le_trans hs100 (by decide)
        have e0 := (H.out.old (a := ⟨b, off + i * 3, none⟩) hb).trans (hat.k i hlt)
        have e1 := (H.out.old (a := ⟨b, off + i * 3 + 1, none⟩) hb).trans (hat.n i hlt)
        have e2 := (H.out.old (a := ⟨b, off + i * 3 + 2, none⟩) hb).trans (hat.s i hlt)
        have HAT := Lib.hid hat
        clear hat
        have HC := Lib.hid (H.out.writes 0 rfl its[i] k0 k1 k2 rfl)
        go_wp2_with fail
        refine HC.out.mono ?_
        rintro e w3 ⟨rfl, h⟩
        clear HC H
        clear e0 e1 e2
        by_cases hz : (wrI 1048576 (pre its i, 0) its[i]).2 = 0
        · obtain ⟨hma, hwe⟩ := wrI_ok hz
          rw [hwe, pre_succ its i hlt] at h
          rw [hwe]
          have H := Lib.hid h
          have HMA := Lib.hid hma
          have e0 := (H.out.old (a := ⟨b, off + i * 3, none⟩) hb).trans (HAT.out.k i hlt)
          have e1 := (H.out.old (a := ⟨b, off + i * 3 + 1, none⟩) hb).trans (HAT.out.n i hlt)
          have e2 := (H.out.old (a := ⟨b, off + i * 3 + 2, none⟩) hb).trans (HAT.out.s i hlt)
          have hown := Hold.row H.out 1 rfl
          have Hown := Lib.hid hown
          have HT := Lib.hid (itsV_take its i hlt)
          obtain ⟨i0, hi0, hz0, hz1, hz2⟩ := info_parts info_item
          clear h hz hwe hma hown
          go_wp2_with (at_builtin; refine wpList_append_own_at _ rfl (.tmp 56) (.tmp 61) 22 rfl 0 33 i0 (.agg #[.int .i64 0, .int .i64 0, .string ⟨#[]⟩]) 3 32 Try.underlying22 hi0 hz0 hz1 hz2 rfl (by decide) (.slice B i d) i (itsV (its.take i)) rfl (Hown.out.alloc _) ⟨w3.heap.size, 0, none⟩ 1 1 (itV its[i]) rfl rfl (cells_new3 _ _ _ _ _) (by simp [itV, Value.oneCell']) (by simp only [maxLen]; omega) (by omega) (Nat.zero_le _) ?_; intro v' w4 hown' hgrow _ hat; rw [HT.out] at hown'; clear e0 e1 e2; obtain ⟨B', d', rfl, _⟩ : ∃ B' d', v' = .slice B' (i + 1) d' ∧ True := ownsRow_form3 hown')
          refine ⟨⟨i + 1, B', d', by go_num, rfl, by omega, (H.out.alloc _).grown 1 rfl hown' hgrow hat, fun j hj hji => ?_⟩, by simp [intOf]; omega⟩
          rcases Nat.lt_or_ge j i with k | k
          · exact HM.out j hj k
          · obtain rfl : j = i := by omega
            exact HMA.out
        · have H := Lib.hid h
          clear h
          have hz' : ((wrI 1048576 (pre its i, 0) its[i]).2 != 0) = true := by simpa using hz
          have hw := H.out.wbytes 0 rfl
          generalize wrI 1048576 (pre its i, 0) its[i] = r at *
          rw [if_neg hz] at hw
          have HW := Lib.hid hw
          clear hw hz
          go_wp2_with fail
          refine HW.out.mono ?_
          rintro e w4 ⟨A1, c1, rfl, h, _⟩
          have H4 := Lib.hid h
          clear h
          go_wp2_with fail
          go_ret
          exact ⟨by simp, H4.out.below⟩
      · have hlt' : ¬ (i : Int) < (its.length : Int) := by omega
        obtain rfl : i = its.length := by omega
        have hw := H.out.wbytes 0 rfl
        rw [if_pos rfl] at hw
        have HW := Lib.hid hw
        clear hw hi
        go_wp2_with fail
        refine HW.out.mono ?_
        rintro e w3 ⟨A1, c1, rfl, h, _⟩
        have H3 := Lib.hid h
        clear h H HW
        have hpl := Hold.len H3.out 0 rfl
        have hbs : pre its its.length = its.flatMap encI := by unfold pre; rw [List.take_length]
        generalize hall : pre its its.length = all at *
        have HALL := Lib.hid hall
        clear hall hbs
        simp only at hpl
        go_wp2_with fail
        refine (H3.out.dnew (H3.out.reads 2 rfl) (by omega)).mono ?_
        rintro e w4 ⟨q, rfl, h⟩
        have H := Lib.hid h
        clear h H3
        go_wp2_with fail
        go_loopw [14] (fun x wr => ∃ (i : Nat), x = .int .i64 i ∧ i ≤ its.length ∧ Hold w.heap.size w wr [wrT p 1048576 (all, 0), rowT 33 3 (.slice B its.length d) its.length (itsV (its.take its.length)), byT A1 c1 all, rdT q all ((pre its i).length, 0, 0)]) (fun x wr => its.length - (intOf x).toNat)
        case atStart => exact ⟨0, rfl, Nat.zero_le _, H.out⟩
        case round =>
          obtain ⟨i, rfl, hi, hh⟩ := hrel
          clear H
          have H := Lib.hid hh
          clear hh
          by_cases hlt : i < its.length
          · have hlt' : (i : Int) < (its.length : Int) := by omega
            have hown := Hold.row H.out 1 rfl
            obtain ⟨g, d', hv, _, _⟩ := hown.form (by omega)
            injection hv with hv1 hv2 hv3
            subst hv1
            subst hv3
            have f0 := hown.cellAt (i * 3) (by omega)
            have f1 := hown.cellAt (i * 3 + 1) (by omega)
            have f2 := hown.cellAt (i * 3 + 2) (by omega)
            rw [List.take_length] at f0 f1 f2
            have g0 := f0.trans (itsV_at its i 0 hlt (by decide))
            have g1 := f1.trans (itsV_at its i 1 hlt (by decide))
            have g2 := f2.trans (itsV_at its i 2 hlt (by decide))
            simp only [itV, List.getElem?_cons_zero, List.getElem?_cons_succ] at g0 g1 g2
            clear f0 f1 f2
            have hs100 := HR.out i hlt
            obtain ⟨k0, k1⟩ := HK.out i hlt
            obtain ⟨hd1, hd2⟩ := pre_drop its i hlt
            rw [HALL.out] at hd1 hd2
            have hrd := rdI_ok all (pre its i).length 0 its[i] _ k1 hs100 (HM.out i hlt hlt) hd1 hd2
            rw [pre_len its i hlt] at hrd
            have hc := H.out.reads_ 3 rfl its[i] (Nat.le_trans hs100 (by decide))
            rw [hrd] at hc
            have HC := Lib.hid hc
            clear hc hrd hd1 hd2 hown
            go_wp2_with fail
            refine HC.out.mono ?_
            rintro e w5 ⟨rfl, h⟩
            have H5 := Lib.hid h
            clear h H HC g0 g1 g2
            go_wp2_with fail
            exact ⟨⟨i + 1, by go_num, by omega, H5.out⟩, by simp [intOf]; omega⟩
          · have hlt' : ¬ (i : Int) < (its.length : Int) := by omega
            obtain rfl : i = its.length := by omega
            have hE : Hid (Hold w.heap.size w wr [wrT p 1048576 (all, 0), rowT 33 3 (.slice B its.length d) its.length (itsV (its.take its.length)), byT A1 c1 all, rdT q all (all.length, 0, 0)]) := by rw [← HALL.out]; rw [HALL.out]; have := H.out; rw [HALL.out] at this; exact this
            clear H hi
            have hc := hE.out.ends 3 rfl 0 0
            rw [show rEnd all (all.length, 0, 0) = (0, 0) from by unfold rEnd; rw [if_neg (show ¬ (0 : Int) ≠ 0 by decide), if_neg (show ¬ all.length < all.length by omega)]] at hc
            rw [show (decide (((0 : Int), (0 : Int)).1 = 0) && decide (((0 : Int), (0 : Int)).2 = 0)) = true from by decide] at hc
            have HC := Lib.hid hc
            clear hc
            go_wp2_with fail
            refine HC.out.mono ?_
            rintro e w5 ⟨rfl, h⟩
            have H5 := Lib.hid h
            clear h hE HC
            have hc := H5.out.drest 3 rfl
            rw [show (if ((all.length, 0, 0) : RS).2.1 ≠ 0 then (0 : Int) else (all.length : Int) - ((all.length, 0, 0) : RS).1) = 0 from by rw [if_neg (show ¬ (0 : Int) ≠ 0 by decide)]; simp only; omega] at hc
            have HC := Lib.hid hc
            clear hc
            go_wp2_with fail
            refine HC.out.mono ?_
            rintro e w6 ⟨rfl, h⟩
            have H6 := Lib.hid h
            clear h H5 HC
            by_cases hz : all.length = 0
            · have hz' : ((all.length : Int) == 0) = true := by rw [beq_iff_eq]; omega
              clear hz
              go_wp2_with fail
              go_ret
              exact ⟨rfl, H6.out.below⟩
            · have hz' : ((all.length : Int) == 0) = false := by rw [beq_eq_false_iff_ne]; omega
              obtain ⟨_, ⟨hown, _⟩, _⟩ := H6.out.get 2 _ rfl
              obtain ⟨g, d2, hv, _, hg2⟩ := hown.form (by omega)
              injection hv with hv1 hv2 hv3
              subst hv1
              subst hv3
              have hcap : (all.length : Int) ≤ (c1 : Int) := by
                rcases hown.2 with ⟨hh, _⟩ | ⟨g', cap, cur, hh, _, _, hc, _⟩
                · cases hh
                · injection hh with _ _ hh; omega
              obtain ⟨m, hm⟩ : ∃ m : Nat, (all.length : Int) - 1 = m := ⟨all.length - 1, by omega⟩
              have hm1 : (m : Int) ≤ (c1 : Int) := by omega
              have hdl : all.dropLast.length = m := by rw [List.length_dropLast]; omega
              have hx : Reads w6 w6.heap.size 1 (some ⟨g, 0, none⟩) all.dropLast.length (bytesV all.dropLast) := by
                have := cut_reads hown (a := 0) (k := m) (by omega)
                rw [List.drop_zero, ← hdl, List.length_dropLast, ← List.dropLast_eq_take] at this
                exact this
              have hc := H6.out.dnew (c := c1) hx (by omega)
              rw [hdl] at hc
              have HC := Lib.hid hc
              have HDL := Lib.hid hdl
              clear hc hx hown hdl
              go_wp2_with fail
              refine HC.out.mono ?_
              rintro e w7 ⟨q2, rfl, h⟩
              have H := Lib.hid h
              clear h H6 HC
              go_wp2_with fail
              have hst : CutSt its all 0 (0, 0, 0) := .inl ⟨rfl, by show 0 < all.length; omega⟩
              go_loopw [16] (fun x wr => ∃ (i : Nat) (s : RS), x = .int .i64 i ∧ i ≤ its.length ∧ Hold w.heap.size w wr [wrT p 1048576 (all, 0), rowT 33 3 (.slice B its.length d) its.length (itsV (its.take its.length)), byT (some ⟨g, 0, none⟩) c1 all, rdT q all (all.length, 0, 0), rdT q2 all.dropLast s] ∧ CutSt its all i s) (fun x wr => its.length - (intOf x).toNat)
              case atStart => exact ⟨0, _, rfl, Nat.zero_le _, H.out, hst⟩
              case round =>
                obtain ⟨i, s, rfl, hi, hh, hcs⟩ := hrel
                clear H hst
                have H := Lib.hid hh
                have HCS := Lib.hid hcs
                clear hh hcs
                by_cases hlt : i < its.length
                · have hlt' : (i : Int) < (its.length : Int) := by omega
                  have hown := Hold.row H.out 1 rfl
                  obtain ⟨g3, d3, hv, _, _⟩ := hown.form (by omega)
                  injection hv with hv1 hv2 hv3
                  subst hv1
                  subst hv3
                  have f0 := hown.cellAt (i * 3) (by omega)
                  have f1 := hown.cellAt (i * 3 + 1) (by omega)
                  have f2 := hown.cellAt (i * 3 + 2) (by omega)
                  rw [List.take_length] at f0 f1 f2
                  have g0 := f0.trans (itsV_at its i 0 hlt (by decide))
                  have g1 := f1.trans (itsV_at its i 1 hlt (by decide))
                  have g2 := f2.trans (itsV_at its i 2 hlt (by decide))
                  simp only [itV, List.getElem?_cons_zero, List.getElem?_cons_succ] at g0 g1 g2
                  clear f0 f1 f2
                  have hs100 := HR.out i hlt
                  obtain ⟨k0, k1⟩ := HK.out i hlt
                  have hstep := cut_step its i s hlt k1 hs100 (HM.out i hlt hlt) (by rw [HALL.out]; exact HCS.out)
                  rw [HALL.out] at hstep
                  have HST := Lib.hid hstep
                  have HC := Lib.hid (H.out.reads_ 4 rfl its[i] (Nat.le_trans hs100 (by decide)))
                  clear hstep hown
                  go_wp2_with fail
                  refine HC.out.mono ?_
                  rintro e w8 ⟨rfl, h⟩
                  have H8 := Lib.hid h
                  clear h H HC g0 g1 g2
                  go_wp2_with fail
                  exact ⟨⟨i + 1, _, by go_num, by omega, H8.out, HST.out⟩, by simp [intOf]; omega⟩
                · have hlt' : ¬ (i : Int) < (its.length : Int) := by omega
                  obtain rfl : i = its.length := by omega
                  have h13 := cut_end its s (by rw [HALL.out]; exact HCS.out)
                  have hc := H.out.dend 4 rfl
                  have he : (rEnd all.dropLast s).1 = 13 := by unfold rEnd; rw [if_pos (by rw [h13]; decide)]; exact h13
                  rw [he] at hc
                  have HC := Lib.hid hc
                  clear hc he h13 hi
                  go_wp2_with fail
                  refine HC.out.mono ?_
                  rintro e w8 ⟨rfl, h⟩
                  have H8 := Lib.hid h
                  clear h H HC
                  have hfe := field_err 13 (rEnd all.dropLast s).2
                  go_wp2_with fail
                  go_ret
                  exact ⟨rfl, H8.out.below⟩
end Go.Proofs.Ytcapdmicekialaa
