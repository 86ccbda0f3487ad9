/- What writes over: OverTable, OverModule. Printed by gen_over.py. -/
import Derived.Test.YtcapdmicekialaaGreatCoOver
namespace Go.Proofs.YtcapdmicekialaaGreat
open Go.RowKit
set_option linter.unusedVariables false
set_option linter.unusedSimpArgs false
attribute [local go_sem] Oper.semAt_some run_store_func run_store_nilFunc
section
variable {N : Nat} {w0 W : World} {R M : Thing}
theorem drop_set4 {ys rest : List Value} {a b c d u : Value} {i : Nat} (h : ys.drop (i * 4) = a :: b :: c :: d :: rest) : (ys.set (i * 4) u).drop ((i + 1) * 4) = rest := by
  rw [List.drop_set_of_lt (by omega), show (i + 1) * 4 = i * 4 + 4 by omega, ← List.drop_drop, h]
  rfl
theorem drop_at4 {ys rest : List Value} {a b c d : Value} {i : Nat} (h : ys.drop (i * 4) = a :: b :: c :: d :: rest) : ys[i * 4 + 2]? = some c ∧ ys[i * 4 + 3]? = some d := by
  constructor
  · rw [← List.getElem?_drop, h]; rfl
  · rw [← List.getElem?_drop, h]; rfl
theorem drop_next4 {ys rest : List Value} {a b c d : Value} {i : Nat} (h : ys.drop (i * 4) = a :: b :: c :: d :: rest) : ys.drop ((i + 1) * 4) = rest := by
  rw [show (i + 1) * 4 = i * 4 + 4 by omega, ← List.drop_drop, h]
  rfl
/-- The row of a told slice, its elements beside it. -/
theorem TK.sl_row {α : Type} {K : Kind α} (T : TK K) {e : TypeId} {v : Value} {l : List α} (H : Lies N w0 W (sepT (T.slT e v l) R)) : ∃ css, l.length ≤ 140737488351232 ∧ Lies N w0 W (sepT (rowT e K.size v l.length (List.flatten css)) (sepT (allT T.el css l) R)) := by
  obtain ⟨css, H⟩ := H.ex
  have h := H.turn (a' := sepT (factT (l.length ≤ 140737488351232)) (sepT (rowT e K.size v l.length (List.flatten css)) (sepT (allT T.el css l) R))) (by ac_rfl)
  exact ⟨css, h.fact.1, h.fact.2⟩
theorem cl_parts {cs : List Value} {x : Cl} (H : Lies N w0 W (sepT (clT.el cs x) R)) : ∃ u v, cs = [.string x.name, .string x.super, u, v] ∧ Lies N w0 W (sepT (vrT.slT 140 u x.fields) (sepT (sgT.slT 120 v x.methods) R)) := by
  obtain ⟨⟨u, v⟩, H⟩ := H.ex
  have h := (H.turn (a' := sepT (factT (cs = [.string x.name, .string x.super, u, v] ∧ sz x.name ∧ sz x.super)) (sepT (vrT.slT 140 u x.fields) (sepT (sgT.slT 120 v x.methods) R))) (by ac_rfl)).fact
  exact ⟨u, v, h.1.1, h.2⟩
theorem fu_parts {cs : List Value} {x : Fu} (H : Lies N w0 W (sepT (fuT.el cs x) R)) : ∃ u v, cs = [.string x.cls, .string x.name, u, v] ∧ Lies N w0 W (sepT (txT.slT 9 u x.locals) (sepT (inT.slT 117 v x.code) R)) := by
  obtain ⟨⟨u, v⟩, H⟩ := H.ex
  have h := (H.turn (a' := sepT (factT (cs = [.string x.cls, .string x.name, u, v] ∧ sz x.cls ∧ sz x.name)) (sepT (txT.slT 9 u x.locals) (sepT (inT.slT 117 v x.code) R))) (by ac_rfl)).fact
  exact ⟨u, v, h.1.1, h.2⟩
theorem md_parts {cs : List Value} {x : Md} (H : Lies N w0 W (sepT (mdT.el cs x) R)) : ∃ a b c d, cs = [a, b, c, d] ∧ Lies N w0 W (sepT (clT.slT 66 a x.table) (sepT (stT.slT 70 b x.sites) (sepT (txT.slT 9 c x.pool) (sepT (fuT.slT 48 d x.funcs) R)))) := by
  obtain ⟨⟨a, b, c, d⟩, H⟩ := H.ex
  have h := (H.turn (a' := sepT (factT (cs = [a, b, c, d])) (sepT (clT.slT 66 a x.table) (sepT (stT.slT 70 b x.sites) (sepT (txT.slT 9 c x.pool) (sepT (fuT.slT 48 d x.funcs) R))))) (by ac_rfl)).fact
  exact ⟨a, b, c, d, h.1, h.2⟩
theorem row_form {e : TypeId} {size n : Nat} {v : Value} {xs : List Value} (H : Lies N w0 W (sepT (rowT e size v n xs) R)) : ∃ A c, v = .slice A n c := by
  rcases H.row.2 with ⟨rfl, rfl⟩ | ⟨g, cap, cur, rfl, _⟩
  · exact ⟨_, _, rfl⟩
  · exact ⟨_, _, rfl⟩
set_option maxRecDepth 100000 in
set_option maxHeartbeats 3200000 in
theorem overTb_any {v : Value} {l : List Cl} (H : Lies N w0 W (sepT (clT.slT 66 v l) R)) : Calls Tryz.prog 68 #[v] W fun e w' => e = .returned (.tuple #[]) ∧ Lies N w0 w' R := by
  obtain ⟨css, hn, H1⟩ := clT.sl_row H
  obtain ⟨A, c, rfl⟩ := row_form H1
  obtain ⟨n, hnl⟩ : ∃ n, n = l.length := ⟨_, rfl⟩
  rw [← hnl] at H1 hn ⊢
  have HH := Lib.hid H1
  have HNl := Lib.hid hnl
  clear H H1 hnl
  go_enter Tryz.func68, Tryz.ntmps68
  go_wp2_with fail
  go_loopw [2] (fun ix wr => ∃ (i : Nat) (ys : List Value) (cs : List (List Value)) (m : List Cl), ix = .int .i64 i ∧ Hid (i + m.length = n) ∧ Hid (ys.drop (i * 4) = cs.flatten) ∧ Lies N w0 wr (sepT (rowT 66 4 (.slice A n c) n ys) (sepT (allT clT.el cs m) R))) (fun ix _ => n - (intOf ix).toNat)
  case atStart => exact ⟨0, _, css, l, rfl, Lib.hid (by rw [HNl.out]; omega), Lib.hid rfl, HH.out⟩
  case round =>
    clear HH
    obtain ⟨i, ys, cs, m, rfl, HM, HD, hh⟩ := hrel
    cases m with
    | nil =>
      have hi : i = n := by have := HM.out; simpa using this
      subst hi
      have hlt' : ¬ (i : Int) < (i : Int) := by omega
      have HZ := Lib.hid hh.drop.drop
      clear hh HM HD
      go_wp2_with fail
      go_end0
      exact ⟨rfl, HZ.out⟩
    | cons x m =>
      have hm := HM.out
      rw [List.length_cons] at hm
      have hlt : i < n := by omega
      have hlt' : (i : Int) < (n : Int) := by omega
      have HM : Hid (i + 1 + m.length = n) := Lib.hid (by omega)
      clear hm
      cases cs with
      | nil => exact ((hh.turn (a' := sepT (factT False) (sepT (rowT 66 4 (.slice A n c) n ys) R)) (by show sepT _ (sepT (factT False) R) = _; ac_rfl)).fact.1).elim
      | cons cv cs =>
        have hh := hh.turn (a' := sepT (clT.el cv x) (sepT (rowT 66 4 (.slice A n c) n ys) (sepT (allT clT.el cs m) R))) (by show sepT _ (sepT (sepT (clT.el cv x) (allT clT.el cs m)) R) = _; ac_rfl)
        obtain ⟨p, q, rfl, hh2⟩ := cl_parts hh
        clear hh
        obtain ⟨fcs, hnf, hh⟩ := vrT.sl_row hh2
        clear hh2
        obtain ⟨A1, c1, rfl⟩ := row_form hh
        have HX := Lib.hid (hh.turn (a' := sepT (sgT.slT 120 q x.methods) (sepT (rowT 140 2 (.slice A1 x.fields.length c1) x.fields.length fcs.flatten) (sepT (allT vrT.el fcs x.fields) (sepT (rowT 66 4 (.slice A n c) n ys) (sepT (allT clT.el cs m) R))))) (by show sepT (rowT 140 2 (.slice A1 x.fields.length c1) x.fields.length fcs.flatten) _ = _; ac_rfl))
        obtain ⟨mcs, hnm, hh⟩ := sgT.sl_row HX.out
        clear HX
        obtain ⟨A2, c2, rfl⟩ := row_form hh
        obtain ⟨nf, hnf'⟩ : ∃ k, k = x.fields.length := ⟨_, rfl⟩
        obtain ⟨nm, hnm'⟩ : ∃ k, k = x.methods.length := ⟨_, rfl⟩
        rw [← hnf'] at hh hnf HD
        rw [← hnm'] at hh hnm HD
        have HZ := Lib.hid ((hh.turn (a' := sepT (allT vrT.el fcs x.fields) (sepT (allT sgT.el mcs x.methods) (sepT (rowT 140 2 (.slice A1 nf c1) nf fcs.flatten) (sepT (rowT 66 4 (.slice A n c) n ys) (sepT (rowT 120 3 (.slice A2 nm c2) nm mcs.flatten) (sepT (allT clT.el cs m) R)))))) (by show sepT (rowT 120 3 (.slice A2 nm c2) nm mcs.flatten) _ = _; ac_rfl)).drop.drop)
        clear hh hnf' hnm'
        obtain ⟨g, rfl⟩ := row_addr (HZ.out.turn (a' := sepT (rowT 66 4 (.slice A n c) n ys) (sepT (rowT 140 2 (.slice A1 nf c1) nf fcs.flatten) (sepT (rowT 120 3 (.slice A2 nm c2) nm mcs.flatten) (sepT (allT clT.el cs m) R)))) (by ac_rfl)).row (by omega)
        have hd := drop_at4 HD.out
        have a0 := (row_cells (HZ.out.turn (a' := sepT (rowT 66 4 (.slice (some ⟨g, 0, none⟩) n c) n ys) (sepT (rowT 140 2 (.slice A1 nf c1) nf fcs.flatten) (sepT (rowT 120 3 (.slice A2 nm c2) nm mcs.flatten) (sepT (allT clT.el cs m) R)))) (by ac_rfl)).row).2 _ _ hd.1
        obtain ⟨h2', h3'⟩ := hd
        have H2' := Lib.hid h2'
        have H3' := Lib.hid h3'
        clear h2' h3'
        obtain ⟨wo, hwo⟩ : ∃ wo, wo = wr := ⟨_, rfl⟩
        subst hwo
        go_wp2_with fail
        go_loopw [3] (fun kx wr' => ∃ (k : Nat) (xs : List Value), kx = .int .i64 k ∧ k ≤ nf ∧ Lies N w0 wr' (sepT (rowT 140 2 (.slice A1 nf c1) nf xs) (sepT (rowT 66 4 (.slice (some ⟨g, 0, none⟩) n c) n ys) (sepT (rowT 120 3 (.slice A2 nm c2) nm mcs.flatten) (sepT (allT clT.el cs m) R))))) (fun kx _ => nf - (intOf kx).toNat)
        case atStart => exact ⟨0, _, rfl, Nat.zero_le _, HZ.out⟩
        case round =>
          clear HZ
          obtain ⟨k, xs, rfl, hk, hh⟩ := hrel
          have a0 := (row_cells (hh.turn (a' := sepT (rowT 66 4 (.slice (some ⟨g, 0, none⟩) n c) n ys) (sepT (rowT 140 2 (.slice A1 nf c1) nf xs) (sepT (rowT 120 3 (.slice A2 nm c2) nm mcs.flatten) (sepT (allT clT.el cs m) R)))) (by ac_rfl)).row).2 _ _ H2'.out
          by_cases hkl : k < nf
          · have hkl' : (k : Int) < (nf : Int) := by omega
            obtain ⟨g1, rfl⟩ := row_addr hh.row (by omega)
            have hfz := (row_cells hh.row).1
            have f0 := hfz (k * 2)
            have e0 := row_get hh.row (k * 2) (by omega)
            have f1 := hfz (k * 2 + 1)
            have e1 := row_get hh.row (k * 2 + 1) (by omega)
            have HZ := Lib.hid ((hh.setRow (k * 2) (by omega) (.string ⟨#[111, 118, 101, 114]⟩)).setRow (k * 2 + 1) (by omega) (.string ⟨#[79, 118, 101, 114]⟩))
            clear hh hfz
            generalize xs.getD (k * 2) undef = u0 at e0
            generalize xs.getD (k * 2 + 1) undef = u1 at e1
            go_wp2_with fail
            exact ⟨⟨k + 1, _, by go_num, by omega, HZ.out⟩, by simp [intOf]; omega⟩
          · have hkl' : ¬ (k : Int) < (nf : Int) := by omega
            have HZ := Lib.hid hh.drop
            clear hh
            have HZ := Lib.hid (HZ.out.turn (a' := sepT (rowT 120 3 (.slice A2 nm c2) nm mcs.flatten) (sepT (rowT 66 4 (.slice (some ⟨g, 0, none⟩) n c) n ys) (sepT (allT clT.el cs m) R))) (by ac_rfl))
            obtain ⟨wi, hwi⟩ : ∃ wo, wo = wr := ⟨_, rfl⟩
            subst hwi
            have a1 := (row_cells (HZ.out.turn (a' := sepT (rowT 66 4 (.slice (some ⟨g, 0, none⟩) n c) n ys) (sepT (rowT 120 3 (.slice A2 nm c2) nm mcs.flatten) (sepT (allT clT.el cs m) R))) (by ac_rfl)).row).2 _ _ H3'.out
            go_wp2_with fail
            go_loopw [4] (fun kx wr' => ∃ (k : Nat) (xs : List Value), kx = .int .i64 k ∧ k ≤ nm ∧ Lies N w0 wr' (sepT (rowT 120 3 (.slice A2 nm c2) nm xs) (sepT (rowT 66 4 (.slice (some ⟨g, 0, none⟩) n c) n ys) (sepT (allT clT.el cs m) R)))) (fun kx _ => nm - (intOf kx).toNat)
            case atStart => exact ⟨0, _, rfl, Nat.zero_le _, HZ.out⟩
            case round =>
              clear HZ
              obtain ⟨k, xs, rfl, hk, hh⟩ := hrel
              have a1 := (row_cells (hh.turn (a' := sepT (rowT 66 4 (.slice (some ⟨g, 0, none⟩) n c) n ys) (sepT (rowT 120 3 (.slice A2 nm c2) nm xs) (sepT (allT clT.el cs m) R))) (by ac_rfl)).row).2 _ _ H3'.out
              by_cases hkl : k < nm
              · have hkl' : (k : Int) < (nm : Int) := by omega
                obtain ⟨g1, rfl⟩ := row_addr hh.row (by omega)
                have hfz := (row_cells hh.row).1
                have f0 := hfz (k * 3)
                have e0 := row_get hh.row (k * 3) (by omega)
                have f1 := hfz (k * 3 + 1)
                have e1 := row_get hh.row (k * 3 + 1) (by omega)
                have f2 := hfz (k * 3 + 2)
                have e2 := row_get hh.row (k * 3 + 2) (by omega)
                have HZ := Lib.hid (((hh.setRow (k * 3) (by omega) (.string ⟨#[111, 118, 101, 114]⟩)).setRow (k * 3 + 1) (by omega) (.slice none 0 0)).setRow (k * 3 + 2) (by omega) (.string ⟨#[79, 118, 101, 114]⟩))
                clear hh hfz
                generalize xs.getD (k * 3) undef = u0 at e0
                generalize xs.getD (k * 3 + 1) undef = u1 at e1
                generalize xs.getD (k * 3 + 2) undef = u2 at e2
                go_wp2_with fail
                exact ⟨⟨k + 1, _, by go_num, by omega, HZ.out⟩, by simp [intOf]; omega⟩
              · have hkl' : ¬ (k : Int) < (nm : Int) := by omega
                have HZ := Lib.hid hh.drop
                clear hh
                have hz := HZ.out
                have g0 := (row_cells hz.row).1 (i * 4)
                have b0 := row_get hz.row (i * 4) (by omega)
                generalize ys.getD (i * 4) undef = u9 at b0
                have HY := Lib.hid (hz.setRow (i * 4) (by omega) (.string ⟨#[79, 118, 101, 114]⟩))
                clear hz HZ
                go_wp2_with fail
                exact ⟨⟨i + 1, _, cs, m, by go_num, HM, Lib.hid (drop_set4 HD.out), HY.out⟩, by simp [intOf]; omega⟩
set_option maxRecDepth 100000 in
set_option maxHeartbeats 3200000 in
theorem overMd_any {cv : List Value} {x : Md} (H : Lies N w0 W (sepT (mdT.el cv x) R)) : Calls Tryz.prog 16 #[.agg cv.toArray] W fun e w' => e = .returned (.tuple #[]) ∧ Lies N w0 w' R := by
  obtain ⟨v1, v2, v3, v4, rfl, H1⟩ := md_parts H
  clear H
  have h := H1.newBlk 27 #[v1, v2, v3, v4]
  have HC := Lib.hid (overTb_any (h.turn (a' := (sepT (clT.slT 66 v1 x.table) (sepT (blkT W.heap.size 27 #[v1, v2, v3, v4]) (sepT (stT.slT 70 v2 x.sites) (sepT (txT.slT 9 v3 x.pool) (sepT (fuT.slT 48 v4 x.funcs) R)))))) (by ac_rfl)))
  clear H1 h
  go_enter Tryz.func16, Tryz.ntmps16
  go_wp2_with fail
  refine HC.out.mono ?_
  rintro e w1 ⟨rfl, h⟩
  have hb := (h.turn (a' := (sepT (blkT W.heap.size 27 #[v1, v2, v3, v4]) (sepT (stT.slT 70 v2 x.sites) (sepT (txT.slT 9 v3 x.pool) (sepT (fuT.slT 48 v4 x.funcs) R))))) (by ac_rfl)).blk.1
  have c0 := hb.cell 0
  have c1 := hb.cell 1
  have c2 := hb.cell 2
  have c3 := hb.cell 3
  simp at c0 c1 c2 c3
  clear hb
  obtain ⟨cs3, hn3, h3⟩ := txT.sl_row (h.turn (a' := (sepT (txT.slT 9 v3 x.pool) (sepT (blkT W.heap.size 27 #[v1, v2, v3, v4]) (sepT (stT.slT 70 v2 x.sites) (sepT (fuT.slT 48 v4 x.funcs) R))))) (by ac_rfl))
  obtain ⟨A3, d3, rfl⟩ := row_form h3
  have HC := Lib.hid (overTx_any hn3 (h3.turn (a' := sepT (rowT 9 1 (.slice A3 x.pool.length d3) x.pool.length cs3.flatten) (sepT (allT txT.el cs3 x.pool) (sepT (blkT W.heap.size 27 #[v1, v2, .slice A3 x.pool.length d3, v4]) (sepT (stT.slT 70 v2 x.sites) (sepT (fuT.slT 48 v4 x.funcs) R))))) rfl))
  clear h h3
  go_wp2_with fail
  refine HC.out.mono ?_
  rintro e w2 ⟨rfl, h⟩
  replace h := h.drop
  clear HC c0 c1 c2 c3
  obtain ⟨cs2, hn2, h2⟩ := stT.sl_row (h.turn (a' := (sepT (stT.slT 70 v2 x.sites) (sepT (blkT W.heap.size 27 #[v1, v2, .slice A3 x.pool.length d3, v4]) (sepT (fuT.slT 48 v4 x.funcs) R)))) (by ac_rfl))
  obtain ⟨A2, d2, rfl⟩ := row_form h2
  obtain ⟨k3, hk3⟩ : ∃ k, k = x.pool.length := ⟨_, rfl⟩
  obtain ⟨k2, hk2⟩ : ∃ k, k = x.sites.length := ⟨_, rfl⟩
  rw [← hk2] at h2 hn2
  rw [← hk3] at h2 ⊢
  have HZ : Hid (Lies N w0 w2 (sepT (rowT 70 3 (.slice A2 k2 d2) k2 cs2.flatten) (sepT (blkT W.heap.size 27 #[v1, .slice A2 k2 d2, .slice A3 k3 d3, v4]) (sepT (fuT.slT 48 v4 x.funcs) R)))) := Lib.hid ((h2.turn (a' := (sepT (allT stT.el cs2 x.sites) (sepT (rowT 70 3 (.slice A2 k2 d2) k2 cs2.flatten) (sepT (blkT W.heap.size 27 #[v1, .slice A2 k2 d2, .slice A3 k3 d3, v4]) (sepT (fuT.slT 48 v4 x.funcs) R))))) (by show sepT (rowT 70 3 (.slice A2 k2 d2) k2 cs2.flatten) _ = _; ac_rfl)).drop)
  have hb := (HZ.out.turn (a' := (sepT (blkT W.heap.size 27 #[v1, .slice A2 k2 d2, .slice A3 k3 d3, v4]) (sepT (rowT 70 3 (.slice A2 k2 d2) k2 cs2.flatten) (sepT (fuT.slT 48 v4 x.funcs) R)))) (by ac_rfl)).blk.1
  have c0 := hb.cell 0
  have c1 := hb.cell 1
  have c2 := hb.cell 2
  have c3 := hb.cell 3
  simp at c0 c1 c2 c3
  clear hb
  clear h h2 hk2 hk3 hn3
  go_wp2_with fail
  go_loopw [2] (fun kx wr' => ∃ (k : Nat) (xs : List Value), kx = .int .i64 k ∧ k ≤ k2 ∧ Lies N w0 wr' (sepT (rowT 70 3 (.slice A2 k2 d2) k2 xs) (sepT (blkT W.heap.size 27 #[v1, .slice A2 k2 d2, .slice A3 k3 d3, v4]) (sepT (fuT.slT 48 v4 x.funcs) R)))) (fun kx _ => k2 - (intOf kx).toNat)
  case atStart => exact ⟨0, _, rfl, Nat.zero_le _, HZ.out⟩
  case round =>
    clear HZ
    obtain ⟨k, xs, rfl, hk, hh⟩ := hrel
    clear c0 c1 c2 c3
    have hb := (hh.turn (a' := (sepT (blkT W.heap.size 27 #[v1, .slice A2 k2 d2, .slice A3 k3 d3, v4]) (sepT (rowT 70 3 (.slice A2 k2 d2) k2 xs) (sepT (fuT.slT 48 v4 x.funcs) R)))) (by ac_rfl)).blk.1
    have b0 := hb.cell 0
    have b1 := hb.cell 1
    have b2 := hb.cell 2
    have b3 := hb.cell 3
    simp at b0 b1 b2 b3
    clear hb
    by_cases hkl : k < k2
    · have hkl' : (k : Int) < (k2 : Int) := by omega
      obtain ⟨g1, rfl⟩ := row_addr hh.row (by omega)
      have hfz := (row_cells hh.row).1
      have f0 := hfz (k * 3)
      have e0 := row_get hh.row (k * 3) (by omega)
      have f1 := hfz (k * 3 + 1)
      have e1 := row_get hh.row (k * 3 + 1) (by omega)
      have f2 := hfz (k * 3 + 2)
      have e2 := row_get hh.row (k * 3 + 2) (by omega)
      have HZ := Lib.hid (((hh.setRow (k * 3) (by omega) (.int .i64 (-7))).setRow (k * 3 + 1) (by omega) (.string ⟨#[]⟩)).setRow (k * 3 + 2) (by omega) (.string ⟨#[]⟩))
      clear hh hfz
      generalize xs.getD (k * 3) undef = u0 at e0
      generalize xs.getD (k * 3 + 1) undef = u1 at e1
      generalize xs.getD (k * 3 + 2) undef = u2 at e2
      go_wp2_with fail
      exact ⟨⟨k + 1, _, by go_num, by omega, HZ.out⟩, by simp [intOf]; omega⟩
    · have hkl' : ¬ (k : Int) < (k2 : Int) := by omega
      have HZ := Lib.hid hh.drop
      clear hh
      obtain ⟨wo, hwo⟩ : ∃ wo, wo = wr := ⟨_, rfl⟩
      subst hwo
      obtain ⟨cs4, hn4, h4⟩ := fuT.sl_row (HZ.out.turn (a' := (sepT (fuT.slT 48 v4 x.funcs) (sepT (blkT W.heap.size 27 #[v1, .slice A2 k2 d2, .slice A3 k3 d3, v4]) R))) (by ac_rfl))
      obtain ⟨A4, d4, rfl⟩ := row_form h4
      obtain ⟨n, hnl⟩ : ∃ n, n = x.funcs.length := ⟨_, rfl⟩
      rw [← hnl] at h4 hn4 ⊢
      have HNl := Lib.hid hnl
      have HH := Lib.hid h4
      have hb := ((h4.turn (a' := (sepT (blkT W.heap.size 27 #[v1, .slice A2 k2 d2, .slice A3 k3 d3, .slice A4 n d4]) (sepT (rowT 48 4 (.slice A4 n d4) n cs4.flatten) (sepT (allT fuT.el cs4 x.funcs) R)))) (by show sepT (rowT 48 4 (.slice A4 n d4) n cs4.flatten) _ = _; ac_rfl)).turn (a' := (sepT (blkT W.heap.size 27 #[v1, .slice A2 k2 d2, .slice A3 k3 d3, .slice A4 n d4]) (sepT (rowT 48 4 (.slice A4 n d4) n cs4.flatten) (sepT (allT fuT.el cs4 x.funcs) R)))) (by ac_rfl)).blk.1
      have e0 := hb.cell 0
      have e1 := hb.cell 1
      have e2 := hb.cell 2
      have e3 := hb.cell 3
      simp at e0 e1 e2 e3
      clear hb
      clear h4 hnl HZ
      go_wp2_with fail
      go_loopw [3] (fun ix wr => ∃ (i : Nat) (ys : List Value) (cs : List (List Value)) (m : List Fu), ix = .int .i64 i ∧ Hid (i + m.length = n) ∧ Hid (ys.drop (i * 4) = cs.flatten) ∧ Lies N w0 wr (sepT (rowT 48 4 (.slice A4 n d4) n ys) (sepT (allT fuT.el cs m) (sepT (blkT W.heap.size 27 #[v1, .slice A2 k2 d2, .slice A3 k3 d3, .slice A4 n d4]) R)))) (fun ix _ => n - (intOf ix).toNat)
      case atStart => exact ⟨0, _, cs4, x.funcs, rfl, Lib.hid (by rw [HNl.out]; omega), Lib.hid rfl, HH.out⟩
      case round =>
        clear HH e0 e1 e2 e3
        obtain ⟨i, ys, cs, m, rfl, HM, HD, hh⟩ := hrel
        have hb := (hh.turn (a' := (sepT (blkT W.heap.size 27 #[v1, .slice A2 k2 d2, .slice A3 k3 d3, .slice A4 n d4]) (sepT (rowT 48 4 (.slice A4 n d4) n ys) (sepT (allT fuT.el cs m) R)))) (by ac_rfl)).blk.1
        have c0 := hb.cell 0
        have c1 := hb.cell 1
        have c2 := hb.cell 2
        have c3 := hb.cell 3
        simp at c0 c1 c2 c3
        clear hb
        cases m with
        | nil =>
          have hi : i = n := by have := HM.out; simpa using this
          subst hi
          have hlt' : ¬ (i : Int) < (i : Int) := by omega
          have HZ := Lib.hid hh.drop.drop.drop
          clear hh HM HD
          go_wp2_with fail
          go_end0
          exact ⟨rfl, HZ.out⟩
        | cons y m =>
          have hm := HM.out
          rw [List.length_cons] at hm
          have hlt : i < n := by omega
          have hlt' : (i : Int) < (n : Int) := by omega
          have HM : Hid (i + 1 + m.length = n) := Lib.hid (by omega)
          clear hm
          cases cs with
          | nil => exact ((hh.turn (a' := sepT (factT False) (sepT (rowT 48 4 (.slice A4 n d4) n ys) (sepT (blkT W.heap.size 27 #[v1, .slice A2 k2 d2, .slice A3 k3 d3, .slice A4 n d4]) R))) (by show sepT _ (sepT (factT False) _) = _; ac_rfl)).fact.1).elim
          | cons cv cs =>
            have hh := hh.turn (a' := (sepT (fuT.el cv y) (sepT (rowT 48 4 (.slice A4 n d4) n ys) (sepT (allT fuT.el cs m) (sepT (blkT W.heap.size 27 #[v1, .slice A2 k2 d2, .slice A3 k3 d3, .slice A4 n d4]) R))))) (by show sepT _ (sepT (sepT (fuT.el cv y) (allT fuT.el cs m)) _) = _; ac_rfl)
            obtain ⟨p, q, rfl, hh2⟩ := fu_parts hh
            clear hh
            obtain ⟨lcs, hnf, hh⟩ := txT.sl_row hh2
            clear hh2
            obtain ⟨A1, c1, rfl⟩ := row_form hh
            obtain ⟨nf, hnf'⟩ : ∃ k, k = y.locals.length := ⟨_, rfl⟩
            rw [← hnf'] at hh hnf HD
            have HZ := Lib.hid ((hh.turn (a' := (sepT (allT txT.el lcs y.locals) (sepT (rowT 9 1 (.slice A1 nf c1) nf lcs.flatten) (sepT (inT.slT 117 q y.code) (sepT (rowT 48 4 (.slice A4 n d4) n ys) (sepT (allT fuT.el cs m) (sepT (blkT W.heap.size 27 #[v1, .slice A2 k2 d2, .slice A3 k3 d3, .slice A4 n d4]) R))))))) (by show sepT (rowT 9 1 (.slice A1 nf c1) nf lcs.flatten) _ = _; ac_rfl)).drop)
            clear hh hnf'
            obtain ⟨g, rfl⟩ := row_addr (HZ.out.turn (a' := (sepT (rowT 48 4 (.slice A4 n d4) n ys) (sepT (rowT 9 1 (.slice A1 nf c1) nf lcs.flatten) (sepT (inT.slT 117 q y.code) (sepT (allT fuT.el cs m) (sepT (blkT W.heap.size 27 #[v1, .slice A2 k2 d2, .slice A3 k3 d3, .slice A4 n d4]) R)))))) (by ac_rfl)).row (by omega)
            have hd := drop_at4 HD.out
            have a0 := (row_cells (HZ.out.turn (a' := (sepT (rowT 48 4 (.slice (some ⟨g, 0, none⟩) n d4) n ys) (sepT (rowT 9 1 (.slice A1 nf c1) nf lcs.flatten) (sepT (inT.slT 117 q y.code) (sepT (allT fuT.el cs m) (sepT (blkT W.heap.size 27 #[v1, .slice A2 k2 d2, .slice A3 k3 d3, .slice (some ⟨g, 0, none⟩) n d4]) R)))))) (by ac_rfl)).row).2 _ _ hd.1
            have H3' := Lib.hid hd.2
            have HC := Lib.hid (overTx_any hnf HZ.out)
            clear hd HZ
            obtain ⟨wo, hwo⟩ : ∃ wo, wo = wr := ⟨_, rfl⟩
            subst hwo
            go_wp2_with fail
            refine HC.out.mono ?_
            rintro e w3 ⟨rfl, h⟩
            clear HC c0 c1 c2 c3 a0
            obtain ⟨ics, hnm, hh⟩ := inT.sl_row h
            clear h
            obtain ⟨A5, c5, rfl⟩ := row_form hh
            obtain ⟨nm, hnm'⟩ : ∃ k, k = y.code.length := ⟨_, rfl⟩
            rw [← hnm'] at hh hnm HD H3'
            have HZ := Lib.hid ((hh.turn (a' := (sepT (allT inT.el ics y.code) (sepT (rowT 117 4 (.slice A5 nm c5) nm ics.flatten) (sepT (rowT 48 4 (.slice (some ⟨g, 0, none⟩) n d4) n ys) (sepT (allT fuT.el cs m) (sepT (blkT W.heap.size 27 #[v1, .slice A2 k2 d2, .slice A3 k3 d3, .slice (some ⟨g, 0, none⟩) n d4]) R)))))) (by show sepT (rowT 117 4 (.slice A5 nm c5) nm ics.flatten) _ = _; ac_rfl)).drop)
            clear hh hnm'
            have hb := (HZ.out.turn (a' := (sepT (blkT W.heap.size 27 #[v1, .slice A2 k2 d2, .slice A3 k3 d3, .slice (some ⟨g, 0, none⟩) n d4]) (sepT (rowT 117 4 (.slice A5 nm c5) nm ics.flatten) (sepT (rowT 48 4 (.slice (some ⟨g, 0, none⟩) n d4) n ys) (sepT (allT fuT.el cs m) R))))) (by ac_rfl)).blk.1
            have c0 := hb.cell 0
            have c1 := hb.cell 1
            have c2 := hb.cell 2
            have c3 := hb.cell 3
            simp at c0 c1 c2 c3
            clear hb
            have a1 := (row_cells (HZ.out.turn (a' := (sepT (rowT 48 4 (.slice (some ⟨g, 0, none⟩) n d4) n ys) (sepT (rowT 117 4 (.slice A5 nm c5) nm ics.flatten) (sepT (allT fuT.el cs m) (sepT (blkT W.heap.size 27 #[v1, .slice A2 k2 d2, .slice A3 k3 d3, .slice (some ⟨g, 0, none⟩) n d4]) R))))) (by ac_rfl)).row).2 _ _ H3'.out
            go_wp2_with fail
            go_loopw [4] (fun kx wr' => ∃ (k : Nat) (xs : List Value), kx = .int .i64 k ∧ k ≤ nm ∧ Lies N w0 wr' (sepT (rowT 117 4 (.slice A5 nm c5) nm xs) (sepT (rowT 48 4 (.slice (some ⟨g, 0, none⟩) n d4) n ys) (sepT (allT fuT.el cs m) (sepT (blkT W.heap.size 27 #[v1, .slice A2 k2 d2, .slice A3 k3 d3, .slice (some ⟨g, 0, none⟩) n d4]) R))))) (fun kx _ => nm - (intOf kx).toNat)
            case atStart => exact ⟨0, _, rfl, Nat.zero_le _, HZ.out⟩
            case round =>
              clear HZ
              obtain ⟨k, xs, rfl, hk, hh⟩ := hrel
              clear a1 c0 c1 c2 c3
              have hb := (hh.turn (a' := (sepT (blkT W.heap.size 27 #[v1, .slice A2 k2 d2, .slice A3 k3 d3, .slice (some ⟨g, 0, none⟩) n d4]) (sepT (rowT 117 4 (.slice A5 nm c5) nm xs) (sepT (rowT 48 4 (.slice (some ⟨g, 0, none⟩) n d4) n ys) (sepT (allT fuT.el cs m) R))))) (by ac_rfl)).blk.1
              have b0 := hb.cell 0
              have b1 := hb.cell 1
              have b2 := hb.cell 2
              have b3 := hb.cell 3
              simp at b0 b1 b2 b3
              clear hb
              have a1 := (row_cells (hh.turn (a' := (sepT (rowT 48 4 (.slice (some ⟨g, 0, none⟩) n d4) n ys) (sepT (rowT 117 4 (.slice A5 nm c5) nm xs) (sepT (allT fuT.el cs m) (sepT (blkT W.heap.size 27 #[v1, .slice A2 k2 d2, .slice A3 k3 d3, .slice (some ⟨g, 0, none⟩) n d4]) R))))) (by ac_rfl)).row).2 _ _ H3'.out
              by_cases hkl : k < nm
              · have hkl' : (k : Int) < (nm : Int) := by omega
                obtain ⟨g1, rfl⟩ := row_addr hh.row (by omega)
                have hfz := (row_cells hh.row).1
                have f0 := hfz (k * 4)
                have e0 := row_get hh.row (k * 4) (by omega)
                have f1 := hfz (k * 4 + 1)
                have e1 := row_get hh.row (k * 4 + 1) (by omega)
                have f2 := hfz (k * 4 + 2)
                have e2 := row_get hh.row (k * 4 + 2) (by omega)
                have f3 := hfz (k * 4 + 3)
                have e3 := row_get hh.row (k * 4 + 3) (by omega)
                have HZ := Lib.hid ((((hh.setRow (k * 4) (by omega) (.int .i64 (-7))).setRow (k * 4 + 1) (by omega) (.int .i64 0)).setRow (k * 4 + 2) (by omega) (.int .i64 0)).setRow (k * 4 + 3) (by omega) (.int .i64 0))
                clear hh hfz
                generalize xs.getD (k * 4) undef = u0 at e0
                generalize xs.getD (k * 4 + 1) undef = u1 at e1
                generalize xs.getD (k * 4 + 2) undef = u2 at e2
                generalize xs.getD (k * 4 + 3) undef = u3 at e3
                go_wp2_with fail
                exact ⟨⟨k + 1, _, by go_num, by omega, HZ.out⟩, by simp [intOf]; omega⟩
              · have hkl' : ¬ (k : Int) < (nm : Int) := by omega
                have HZ := Lib.hid hh.drop
                clear hh
                go_wp2_with fail
                exact ⟨⟨i + 1, ys, cs, m, by go_num, HM, Lib.hid (drop_next4 HD.out), HZ.out⟩, by simp [intOf]; omega⟩
end
end Go.Proofs.YtcapdmicekialaaGreat
