/- Rows of values read; a value with a chain of its own. -/
import Derived.Test.YtiaeckljpdhagaaFrTopV
import Derived.Test.YtiaeckljpdhagaaCells
namespace Go.Proofs.Ytiaeckljpdhagaa
open Go.RowKit
section
variable {N : Nat} {w0 W : World} {R : Thing}
theorem chain_is {v : Val} {ch : Value} (H : Lies N w0 W (sepT (chainT v ch) R)) (hv : v.ok) : ChIs W v ch := by
  have hr : W.ownsRow 0 104 3 ch v.lay.length (layV v.lay) := H.row
  obtain ⟨A, c, rfl, _⟩ := own_form hr
  exact ⟨A, c, rfl, Reads.of_own hr, hv⟩
theorem chains_are : ∀ {l : List AV} {R : Thing}, Lies N w0 W (sepT (chainsT l) R) → (∀ y ∈ l, y.1.ok) → ∀ y ∈ l, ChIs W y.1 y.2
  | [], _, _, _ => fun y hy => by cases hy
  | x :: l, R, H, hv => fun y hy => by
    rcases List.mem_cons.1 hy with rfl | hy
    · exact chain_is (H.turn (a' := sepT (chainT y.1 y.2) (sepT (chainsT l) R)) (by rw [chainsT]; ac_rfl)) (hv _ (List.mem_cons_self ..))
    · exact chains_are (R := sepT (chainT x.1 x.2) R) (H.turn (by rw [chainsT]; ac_rfl)) (fun z hz => hv z (List.mem_cons_of_mem _ hz)) y hy
theorem rows_arg {sl : Value} {l : List AV} (H : Lies N w0 W (sepT (rowsT sl l) R)) (hv : ∀ y ∈ l, y.1.ok) : ∃ A c, sl = .slice A l.length c ∧ l.length ≤ c ∧ ArgRow W l A := by
  have H1 : Lies N w0 W (sepT (rowT 30 5 sl l.length (avV l)) (sepT (chainsT l) R)) := H.turn (by unfold rowsT; ac_rfl)
  have hr := H1.row
  have hc := chains_are H1.drop hv
  obtain ⟨A, c, rfl, hle⟩ := own_form hr
  refine ⟨A, c, rfl, hle, Reads.of_own hr, fun hn => ?_, hc⟩
  obtain ⟨g, cap, h, _⟩ := hr.form hn
  injection h with h
  exact ⟨g, 0, h⟩
theorem rows_at {g off : Nat} {l : List AV} (h : ArgRow W l (some ⟨g, off, none⟩)) (i : Nat) (hi : i < l.length) : ∃ tag n bits s lay A c, l[i] = (⟨tag, n, bits, s, lay⟩, .slice A lay.length c) ∧
    (W.cell? ⟨g, off + i * 5, none⟩ = some (.int .i64 tag) ∧ W.cell? ⟨g, off + i * 5 + 1, none⟩ = some (.int .i64 n) ∧ W.cell? ⟨g, off + i * 5 + 2, none⟩ = some (.int .u64 bits) ∧ W.cell? ⟨g, off + i * 5 + 3, none⟩ = some (.string s) ∧ W.cell? ⟨g, off + i * 5 + 4, none⟩ = some (.slice A lay.length c)) ∧
    VIs W ⟨tag, n, bits, s, lay⟩ (.agg #[.int .i64 tag, .int .i64 n, .int .u64 bits, .string s, .slice A lay.length c]) := by
  have e0 := h.cell i hi 0 (by decide) _ rfl
  have e1 := h.cell i hi 1 (by decide) _ rfl
  have e2 := h.cell i hi 2 (by decide) _ rfl
  have e3 := h.cell i hi 3 (by decide) _ rfl
  have e4 := h.cell i hi 4 (by decide) _ rfl
  have hch := h.2.2 l[i] (List.getElem_mem hi)
  rw [Nat.add_zero] at e0
  generalize l[i] = y at *
  obtain ⟨⟨tag, n, bits, s, lay⟩, ch⟩ := y
  dsimp only at e0 e1 e2 e3 e4 hch
  obtain ⟨A1, c1, h1, hr1, hk1⟩ := hch
  dsimp only at h1 hr1
  subst h1
  exact ⟨tag, n, bits, s, lay, A1, c1, rfl, ⟨e0, e1, e2, e3, e4⟩, A1, c1, rfl, hr1, hk1⟩
theorem avV_take (l : List AV) (m : Nat) : avV (l.take m) = (avV l).take (m * 5) := by
  rcases Nat.lt_or_ge m l.length with h | h
  · have h1 : avV l = avV (l.take m) ++ avV (l.drop m) := by rw [← avV_app, List.take_append_drop]
    rw [h1, List.take_left' (by rw [avV_len, List.length_take]; omega)]
  · rw [List.take_of_length_le h, List.take_of_length_le (by rw [avV_len]; omega)]
theorem avV_drop (l : List AV) (m : Nat) : avV (l.drop m) = (avV l).drop (m * 5) := by
  rcases Nat.lt_or_ge m l.length with h | h
  · have h1 : avV l = avV (l.take m) ++ avV (l.drop m) := by rw [← avV_app, List.take_append_drop]
    conv => rhs; rw [h1]
    rw [List.drop_left' (by rw [avV_len, List.length_take]; omega)]
  · rw [List.drop_eq_nil_of_le h, List.drop_eq_nil_of_le (by rw [avV_len]; omega)]; rfl
theorem avV_one {l : List AV} (h : ∀ y ∈ l, ChIs W y.1 y.2) : ∀ u ∈ avV l, u.oneCell' = true := by
  intro u hu
  obtain ⟨y, hy, hx⟩ := List.mem_flatMap.1 hu
  obtain ⟨A, c, e, _⟩ := h y hy
  simp [Val.cs] at hx
  rcases hx with rfl | rfl | rfl | rfl | rfl
  · rfl
  · rfl
  · rfl
  · rfl
  · rw [e]; rfl
theorem chainsT_cut (l : List AV) (m : Nat) : chainsT l = sepT (chainsT (l.take m)) (chainsT (l.drop m)) := by rw [← chainsT_app, List.take_append_drop]
/-- A value x that is v, with a chain of its own. -/
def valT (v : Val) (x : Value) : Thing := someT fun ch => sepT (factT (x = v.go ch)) (chainT v ch)
theorem val_in {v : Val} {ch : Value} (H : Lies N w0 W (sepT (chainT v ch) R)) : Lies N w0 W (sepT (valT v (v.go ch)) R) := by
  refine Lies.intro ch ?_
  rw [sepT_assoc]
  exact H.withFact rfl
theorem val_out {v : Val} {x : Value} (H : Lies N w0 W (sepT (valT v x) R)) : ∃ A c, x = v.go (.slice A v.lay.length c) ∧ Lies N w0 W (sepT (chainT v (.slice A v.lay.length c)) R) := by
  obtain ⟨ch, H1⟩ := H.ex
  rw [sepT_assoc] at H1
  obtain ⟨hx, H2⟩ := H1.fact
  obtain ⟨A, c, hc, _⟩ := own_form (show W.ownsRow 0 104 3 ch v.lay.length (layV v.lay) from H2.row)
  subst hc
  exact ⟨A, c, hx, H2⟩
theorem val_is {v : Val} {x : Value} (H : Lies N w0 W (sepT (valT v x) R)) (hv : v.ok) : VIs W v x := by
  obtain ⟨A, c, hx, H1⟩ := val_out H
  rw [hx]
  exact (chain_is H1 hv).vis
/-- The value that is none. -/
def Val.zero : Val := ⟨0, 0, 0, ⟨#[]⟩, []⟩
theorem zero_ok : Val.zero.ok := by show (0 : Nat) ≤ 1000000; omega
theorem zero_in (H : Lies N w0 W R) : Lies N w0 W (sepT (valT Val.zero (.agg #[.int .i64 0, .int .i64 0, .int .u64 0, .string ⟨#[]⟩, .slice none 0 0])) R) :=
  val_in (v := Val.zero) (ch := .slice none 0 0) (H.add _ (Only.refl _ _) ⟨_, ⟨World.ownsRow_nil _ _ _ _, rfl⟩, fun b hb => by simp [Value.ownBlock] at hb⟩)
/-- Values with chains of their own, in a row. -/
def valsT (l : List Val) (x : Value) : Thing := someT fun la : List AV => sepT (factT (la.map (·.1) = l)) (rowsT x la)
theorem vals_in {l : List Val} {x : Value} {la : List AV} (h : la.map (·.1) = l) (H : Lies N w0 W (sepT (rowsT x la) R)) : Lies N w0 W (sepT (valsT l x) R) := by
  refine Lies.intro la ?_
  rw [sepT_assoc]
  exact H.withFact h
theorem vals_out {l : List Val} {x : Value} (H : Lies N w0 W (sepT (valsT l x) R)) : ∃ la, la.map (·.1) = l ∧ Lies N w0 W (sepT (rowsT x la) R) := by
  obtain ⟨la, H⟩ := H.ex
  rw [sepT_assoc] at H
  obtain ⟨h, H⟩ := H.fact
  exact ⟨la, h, H⟩
theorem vals_arg {l : List Val} {x : Value} (H : Lies N w0 W (sepT (valsT l x) R)) (hv : ∀ y ∈ l, y.ok) : ∃ A c la, x = .slice A la.length c ∧ la.map (·.1) = l ∧ ArgRow W la A := by
  obtain ⟨la, h, H⟩ := vals_out H
  obtain ⟨A, c, e, _, ha⟩ := rows_arg H (fun y hy => hv _ (by rw [← h]; exact List.mem_map.2 ⟨y, hy, rfl⟩))
  exact ⟨A, c, la, e, h, ha⟩
theorem vals_nil (H : Lies N w0 W R) : Lies N w0 W (sepT (valsT [] (.slice none 0 0)) R) := by
  refine vals_in (la := []) rfl ?_
  have h3 := (H.add (rowT 30 5 (.slice none 0 0) 0 []) (Only.refl _ _) ⟨_, ⟨World.ownsRow_nil _ _ _ _, rfl⟩, fun b hb => by simp [Value.ownBlock] at hb⟩)
  refine h3.turn ?_
  show _ = sepT (sepT (rowT 30 5 (.slice none 0 0) 0 []) empT) R
  rw [sep_empT]
end
end Go.Proofs.Ytiaeckljpdhagaa
