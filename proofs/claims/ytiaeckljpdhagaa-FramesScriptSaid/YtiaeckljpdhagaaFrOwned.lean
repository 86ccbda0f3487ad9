/- owned: a copy of a row of values, chains and all. -/
import Derived.Test.YtiaeckljpdhagaaFrPush
namespace Go.Proofs.Ytiaeckljpdhagaa
open Go.RowKit
attribute [local go_sem] Oper.semAt_some run_store_func run_store_nilFunc
def ChIs (W : World) (v : Val) (ch : Value) : Prop := ∃ A c, ch = .slice A v.lay.length c ∧ Reads W W.heap.size 3 A v.lay.length (layV v.lay) ∧ v.ok
theorem ChIs.quiet {W W' : World} {v : Val} {x : Value} (h : ChIs W v x) (ho : Only (fun _ => False) W W') : ChIs W' v x := by
  obtain ⟨A, c, e, hr, hk⟩ := h
  exact ⟨A, c, e, (hr.keep fun _ hp => ho.cell hp id).more ho.size, hk⟩
theorem ChIs.vis {W : World} {v : Val} {x : Value} (h : ChIs W v x) : VIs W v (v.go x) := by
  obtain ⟨A, c, rfl, hr, hk⟩ := h
  exact ⟨A, c, rfl, hr, hk⟩
theorem ChIs.below {W W' : World} {v : Val} {x : Value} (h : ChIs W v x) (ho : Below W.heap.size W W') : ChIs W' v x := by
  obtain ⟨A, c, e, hr, hk⟩ := h
  exact ⟨A, c, e, (hr.below ho).more ho.size, hk⟩
/-- A row of values that reads so. -/
def ArgRow (W : World) (l : List AV) (A : Option Addr) : Prop := Reads W W.heap.size 5 A l.length (avV l) ∧ (0 < l.length → ∃ b off, A = some ⟨b, off, none⟩) ∧ ∀ y ∈ l, ChIs W y.1 y.2
theorem ArgRow.below {W W' : World} {l : List AV} {A : Option Addr} (h : ArgRow W l A) (ho : Below W.heap.size W W') : ArgRow W' l A :=
  ⟨(h.1.below ho).more ho.size, h.2.1, fun y hy => (h.2.2 y hy).below ho⟩
theorem avV_at (l : List AV) (i : Nat) (hi : i < l.length) (j : Nat) (hj : j < 5) : (avV l)[i * 5 + j]? = (l[i].1.cs l[i].2)[j]? := by
  induction l generalizing i with
  | nil => simp at hi
  | cons x l ih =>
    cases i with
    | zero => rw [show avV (x :: l) = x.1.cs x.2 ++ avV l from rfl, List.getElem?_append_left (by simp [Val.cs]; omega)]; simp
    | succ i =>
      rw [show avV (x :: l) = x.1.cs x.2 ++ avV l from rfl, List.getElem?_append_right (by simp [Val.cs]; omega)]
      rw [show (i + 1) * 5 + j - (x.1.cs x.2).length = i * 5 + j by simp [Val.cs]; omega]
      exact ih i (by simpa using hi)
theorem ArgRow.cell {W : World} {l : List AV} {b off : Nat} (h : ArgRow W l (some ⟨b, off, none⟩)) (i : Nat) (hi : i < l.length) (j : Nat) (hj : j < 5) (u : Value) (hu : (l[i].1.cs l[i].2)[j]? = some u) : W.cell? ⟨b, off + i * 5 + j, none⟩ = some u := by
  obtain ⟨ad, e, _, hc⟩ := h.1.2 (by omega)
  injection e with e
  subst e
  have := hc (i * 5 + j) u (by rw [avV_at l i hi j hj]; exact hu)
  rwa [Addr.add_lit, ← Nat.add_assoc] at this
theorem set5 (a Z : List Value) (k : Nat) (v0 v1 v2 v3 v4 : Value) (ha : a.length = k) (hz : k + 5 ≤ Z.length) :
    (((((a ++ Z.drop k).set k v0).set (k + 1) v1).set (k + 2) v2).set (k + 3) v3).set (k + 4) v4 = a ++ [v0, v1, v2, v3, v4] ++ Z.drop (k + 5) := by
  obtain ⟨z0, z1, z2, z3, z4, h⟩ : ∃ z0 z1 z2 z3 z4, Z.drop k = z0 :: z1 :: z2 :: z3 :: z4 :: Z.drop (k + 5) := by
    rw [List.drop_eq_getElem_cons (show k < Z.length by omega), List.drop_eq_getElem_cons (show k + 1 < Z.length by omega), List.drop_eq_getElem_cons (show k + 1 + 1 < Z.length by omega), List.drop_eq_getElem_cons (show k + 1 + 1 + 1 < Z.length by omega), List.drop_eq_getElem_cons (show k + 1 + 1 + 1 + 1 < Z.length by omega)]
    exact ⟨_, _, _, _, _, rfl⟩
  rw [h]
  generalize Z.drop (k + 5) = Z'
  subst ha
  simp
/-- A store into one of the rows. -/
theorem Lies.store {N : Nat} {w0 W : World} {R : Thing} {e : TypeId} {size n cap g : Nat} {xs : List Value} (h : Lies N w0 W (sepT (rowT e size (.slice (some ⟨g, 0, none⟩) n cap) n xs) R)) (j : Nat) (u : Value) : Lies N w0 (W.setCell ⟨g, j, none⟩ u) (sepT (rowT e size (.slice (some ⟨g, 0, none⟩) n cap) n (xs.set j u)) R) := by
  refine h.step ?_
  rintro F ⟨ho, rfl⟩
  exact ⟨_, ⟨(ho.stored j u).1, rfl⟩, Only.setCell W ⟨g, j, none⟩ u rfl, fun b hb => .inl hb⟩
set_option maxRecDepth 100000 in
set_option maxHeartbeats 800000 in
theorem owned_any {N : Nat} {w0 W : World} {R : Thing} (l : List AV) (A : Option Addr) (c : Nat) (H : Lies N w0 W R) (ha : ArgRow W l A) (hn : l.length ≤ 5000) :
    Calls Try.prog 44 #[.slice A l.length c] W fun e w' => ∃ sl la, e = .returned sl ∧ la.map (·.1) = l.map (·.1) ∧ Lies N w0 w' (sepT (rowsT sl la) R) := by
  obtain ⟨i0, hi0, hz0, hz1, hz2⟩ := info_parts infoV
  obtain ⟨w1, hrun, hown, hgrow⟩ := run_make_full (P := Try.prog) W 0 31 30 i0 _ 5 Try.underlying31 hi0 hz0 hz1 .i64 .i64 l.length (by rw [hz2]; omega) (by simp only [maxLen]; omega) (Nat.zero_le _)
  go_enter Try.func44, Try.ntmps44
  go_wp2_with fail
  have H1 : Lies N w0 w1 (sepT (rowT 30 5 (.slice (some ⟨W.heap.size, 0, none⟩) l.length l.length) l.length (madeCells (Value.agg #[.int .i64 0, .int .i64 0, .int .u64 0, .string ⟨#[]⟩, .slice none 0 0]).cells (l.length * 5)).toList) R) :=
    H.add _ (Only.of_below ((Below.refl _ W).grown hgrow (Nat.le_refl _) (by simp)) fun b hb hn => by omega) ⟨_, rowT_at hown, fun b hb => by simp [Value.ownBlock] at hb; omega⟩
  have hZ : (madeCells (Value.agg #[.int .i64 0, .int .i64 0, .int .u64 0, .string ⟨#[]⟩, .slice none 0 0]).cells (l.length * 5)).toList.length = l.length * 5 := by rw [hown.1]
  generalize (madeCells (Value.agg #[.int .i64 0, .int .i64 0, .int .u64 0, .string ⟨#[]⟩, .slice none 0 0]).cells (l.length * 5)).toList = Z at *
  have HA := Lib.hid ha
  have H1' := Lib.hid H1
  have HB1 := Lib.hid ((Below.refl W.heap.size W).grown hgrow (Nat.le_refl _) (by simp))
  have hlt1 : W.heap.size < w1.heap.size := (World.ownsRow.lt hown W.heap.size rfl).2
  clear H ha hrun hown hgrow H1
  go_loopw [11] (fun x wr => ∃ (i : Nat) (la : List AV), x = .int .i64 i ∧ i ≤ l.length ∧ la.map (·.1) = (l.take i).map (·.1) ∧ Lies N w0 wr (sepT (rowT 30 5 (.slice (some ⟨W.heap.size, 0, none⟩) l.length l.length) l.length (avV la ++ Z.drop (i * 5))) (sepT (chainsT la) R)) ∧ Below W.heap.size W wr ∧ W.heap.size < wr.heap.size) (fun x wr => l.length - (intOf x).toNat)
  case atStart => exact ⟨0, [], rfl, Nat.zero_le _, rfl, by simpa [chainsT, empT_sep, avV] using H1'.out, HB1.out, hlt1⟩
  case round =>
    obtain ⟨i, la, rfl, hi, hla, hh, hbel, hlt2⟩ := hrel
    clear H1' HB1
    have HLa := Lib.hid hla
    have HH := Lib.hid hh
    have HBel := Lib.hid hbel
    clear hla hh hbel
    by_cases hlt : i < l.length
    · have hlt' : (i : Int) < (l.length : Int) := by omega
      obtain ⟨b, off, rfl⟩ := HA.out.2.1 (by omega)
      have hA := HA.out.below HBel.out
      have e0 := hA.cell i hlt 0 (by decide) _ rfl
      have e1 := hA.cell i hlt 1 (by decide) _ rfl
      have e2 := hA.cell i hlt 2 (by decide) _ rfl
      have e3 := hA.cell i hlt 3 (by decide) _ rfl
      have e4 := hA.cell i hlt 4 (by decide) _ rfl
      have hch := hA.2.2 l[i] (List.getElem_mem hlt)
      rw [Nat.add_zero] at e0
      clear hA
      obtain ⟨y, hy⟩ : ∃ y, y = l[i] := ⟨_, rfl⟩
      rw [← hy] at e0 e1 e2 e3 e4 hch
      have HY := Lib.hid hy
      clear hy
      obtain ⟨⟨tag, n, bits, s, lay⟩, ch⟩ := y
      dsimp only at e0 e1 e2 e3 e4 hch
      obtain ⟨A1, c1, h1, hr1, hk1⟩ := hch
      dsimp only at h1 hr1
      subst h1
      have HV : VIs (wr.alloc (.cells #[.int .i64 tag, .int .i64 n, .int .u64 bits, .string s, .slice A1 lay.length c1] 30)) ⟨tag, n, bits, s, lay⟩ (.agg #[.int .i64 tag, .int .i64 n, .int .u64 bits, .string s, .slice A1 lay.length c1]) :=
        VIs.quiet ⟨A1, c1, rfl, hr1, hk1⟩ (Only.alloc _ _ _)
      have HO := Lib.hid (own_any _ _ _ HV)
      clear HV hr1
      go_wp2_with fail
      refine HO.out.mono ?_
      rintro e w3 ⟨ch', rfl, hown, hb⟩
      have h2 := (HH.out.alloc (.cells #[.int .i64 tag, .int .i64 n, .int .u64 bits, .string s, .slice A1 lay.length c1] 30)).newRow hown hb
      have h3 : Lies N w0 w3 (sepT (rowT 30 5 (.slice (some ⟨W.heap.size, 0, none⟩) l.length l.length) l.length (avV la ++ Z.drop (i * 5))) (sepT (sepT (chainsT la) (chainT ⟨tag, n, bits, s, lay⟩ ch')) R)) := h2.turn (by unfold chainT; ac_rfl)
      obtain ⟨A3, c3, rfl, _⟩ := own_form hown
      have hb3 := HBel.out.trans (((Below.refl wr.heap.size wr).alloc (Nat.le_refl _) _).trans (hb.mono (by simp)) |>.mono (by omega))
      have hsz := hb.size
      simp at hsz
      have hrow := h3.row
      have hlen := hrow.1
      have k0 : (w3.cell? ⟨W.heap.size, i * 5, none⟩).isSome = true := by rw [hrow.cellAt _ (by omega)]; simp [hlen]; omega
      have k1 : (w3.cell? ⟨W.heap.size, i * 5 + 1, none⟩).isSome = true := by rw [hrow.cellAt _ (by omega)]; simp [hlen]; omega
      have k2 : (w3.cell? ⟨W.heap.size, i * 5 + 2, none⟩).isSome = true := by rw [hrow.cellAt _ (by omega)]; simp [hlen]; omega
      have k3 : (w3.cell? ⟨W.heap.size, i * 5 + 3, none⟩).isSome = true := by rw [hrow.cellAt _ (by omega)]; simp [hlen]; omega
      have k4 : (w3.cell? ⟨W.heap.size, i * 5 + 4, none⟩).isSome = true := by rw [hrow.cellAt _ (by omega)]; simp [hlen]; omega
      obtain ⟨x0, k0⟩ := Option.isSome_iff_exists.1 k0
      obtain ⟨x1, k1⟩ := Option.isSome_iff_exists.1 k1
      obtain ⟨x2, k2⟩ := Option.isSome_iff_exists.1 k2
      obtain ⟨x3, k3⟩ := Option.isSome_iff_exists.1 k3
      obtain ⟨x4, k4⟩ := Option.isSome_iff_exists.1 k4
      have f0 := hrow.frozenAt (i * 5)
      have f1 := hrow.frozenAt (i * 5 + 1)
      have f2 := hrow.frozenAt (i * 5 + 2)
      have f3 := hrow.frozenAt (i * 5 + 3)
      have f4 := hrow.frozenAt (i * 5 + 4)
      have H3 := Lib.hid h3
      have HB3 := Lib.hid hb3
      clear HO HH hown hb h2 h3 hb3 hrow e0 e1 e2 e3 e4
      simp only [Val.go]
      go_wp2_with fail
      have hll : la.length = i := by
        have := congrArg List.length HLa.out
        simp at this
        omega
      have h5 := ((((H3.out.store (i * 5) (.int .i64 tag)).store (i * 5 + 1) (.int .i64 n)).store (i * 5 + 2) (.int .u64 bits)).store (i * 5 + 3) (.string s)).store (i * 5 + 4) (.slice A3 lay.length c3)
      rw [set5 _ _ _ _ _ _ _ _ (by rw [avV_len, hll]) (by omega)] at h5
      refine ⟨⟨i + 1, la ++ [(⟨tag, n, bits, s, lay⟩, .slice A3 lay.length c3)], by go_num, by omega, ?_, h5.turn ?_, ((((HB3.out.setCell (Nat.le_refl _) _).setCell (Nat.le_refl _) _).setCell (Nat.le_refl _) _).setCell (Nat.le_refl _) _).setCell (Nat.le_refl _) _, by simp; omega⟩, by simp [intOf]; omega⟩
      · rw [List.take_succ_eq_append_getElem hlt, List.map_append, List.map_append, HLa.out, ← HY.out]
        rfl
      · rw [avV_app, chainsT_app, show (i + 1) * 5 = i * 5 + 5 by omega]
        show _ = sepT _ (sepT (sepT (chainsT la) (sepT _ empT)) R)
        rw [sep_empT]
        rfl
    · have hlt' : ¬ (i : Int) < (l.length : Int) := by omega
      obtain rfl : i = l.length := by omega
      have hll : la.length = l.length := by
        have := congrArg List.length HLa.out
        simpa using this
      have hd : Z.drop (l.length * 5) = [] := List.drop_eq_nil_of_le (by omega)
      have HLa' : Hid (la.map (·.1) = l.map (·.1)) := by have := HLa.out; rw [List.take_length] at this; exact this
      have HH' : Hid (Lies N w0 wr (sepT (rowsT (.slice (some ⟨W.heap.size, 0, none⟩) l.length l.length) la) R)) := by
        have := HH.out
        rw [hd, List.append_nil] at this
        refine this.turn ?_
        unfold rowsT
        rw [hll]
        ac_rfl
      clear HH HLa hd hll
      go_wp2_with fail
      go_ret
      exact ⟨_, rfl, la, HLa'.out, HH'.out⟩
end Go.Proofs.Ytiaeckljpdhagaa
