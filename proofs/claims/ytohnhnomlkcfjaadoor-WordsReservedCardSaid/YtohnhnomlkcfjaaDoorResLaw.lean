/- WordsReserved, walked. -/
import Derived.Test.YtohnhnomlkcfjaaDoorHelps
namespace Go.Proofs.YtohnhnomlkcfjaaDoor
open Go.RowKit
attribute [local irreducible] ByteArray.extract ByteArray.toList

def cntT (i : Nat) : Nat := ((resW.take i).filter typeV).length
def rowB (i : Nat) : Bool :=
  let x := resW.getD i ⟨#[]⟩
  !nameK x && !classV x && decide (cntT (i + 1) = cntT i + (typeV x).toNat) && (List.range i).all fun k => !((resW.getD k ⟨#[]⟩).data == x.data)
theorem rows_ok : (List.range 24).all rowB = true := by decide +kernel
theorem cnt_end : cntT 24 = 5 := by decide +kernel
theorem cnt_le (i : Nat) : cntT i ≤ 24 := Nat.le_trans (List.length_filter_le _ _) (by rw [List.length_take]; exact Nat.le_trans (Nat.min_le_right _ _) (Nat.le_of_eq resW_len))
theorem row_at (i : Nat) (h : i < resW.length) : nameK resW[i] = false ∧ classV resW[i] = false ∧ cntT (i + 1) = cntT i + (typeV resW[i]).toNat ∧ ∀ (k : Nat) (hk : k < resW.length), k < i → (resW[k].toList == resW[i].toList) = false := by
  have := List.all_eq_true.1 rows_ok i (List.mem_range.2 h)
  unfold rowB at this
  have e : ∀ (j : Nat) (hj : j < resW.length), resW.getD j ⟨#[]⟩ = resW[j] := fun j hj => by rw [List.getD_eq_getElem?_getD, List.getElem?_eq_getElem hj]; rfl
  simp only [Bool.and_eq_true, decide_eq_true_eq, Bool.not_eq_true', e i h] at this
  obtain ⟨⟨⟨h1, h2⟩, h3⟩, h4⟩ := this
  refine ⟨h1, h2, h3, fun k hk hki => ?_⟩
  have h5 := List.all_eq_true.1 h4 k (List.mem_range.2 hki)
  rw [e k hk] at h5
  rw [beq_eq_false_iff_ne, ba_toList, ba_toList]
  intro he
  have : resW[k].data = resW[i].data := by simpa using congrArg List.toArray he
  rw [this] at h5
  simp at h5

set_option maxRecDepth 100000 in
set_option maxHeartbeats 1600000 in
theorem reserved_walk (w : World) (hsp : Spaces w) : Calls Tryd.prog 7 #[] w (RetB (.bool true) w) := by
  have H := Lib.hid (reserved_s w hsp)
  have HS := Lib.hid hsp
  have ROW := Lib.hid row_at
  clear hsp
  go_enter Tryd.func7, Tryd.ntmps7
  go_wp2_with fail
  refine H.out.mono ?_
  rintro e w1 ⟨g, cap, rfl, hg, hx, _, hb⟩
  have hlen := resW_len
  have hgl : g < w1.heap.size := lt_of_cell (hx 0 (by decide))
  have HX := Lib.hid hx
  have HB := Lib.hid hb
  clear H hb hg hx
  go_wp2_with fail
  go_loopw [2, 3] (fun t v wr => ∃ i : Nat, v = .int .i64 i ∧ t = .int .i64 (cntT i) ∧ i ≤ resW.length ∧ Below w1.heap.size w1 wr) (fun t v wr => match v with | .int _ q => resW.length - q.toNat | _ => 0)
  case atStart => exact ⟨0, rfl, rfl, Nat.zero_le _, Below.refl _ _⟩
  case round =>
    obtain ⟨i, rfl, rfl, hi, hB⟩ := hrel
    rcases Nat.lt_or_ge i resW.length with hlt | hge
    · have hc : wr.cell? ⟨g, i, none⟩ = some (.string resW[i]) := (World.cell?_of_block (w := w1) (hB.block g hgl)).trans (HX.out i hlt)
      have hl' : (i : Int) < 24 := by omega
      have HSW : Hid (Spaces wr) := spaces_below (spaces_from HS.out HB.out) hB (by omega)
      have HBr := Lib.hid hB
      obtain ⟨r1, r2, r3, r4⟩ := ROW.out i hlt
      have R1 := Lib.hid r1
      have R2 := Lib.hid r2
      have R3 := Lib.hid r3
      have R4 := Lib.hid r4
      have hcl := cnt_le i
      have hb := Below.refl wr.heap.size wr
      clear hB r1 r2 r3 r4
      have HG := Lib.hid (Nat.lt_of_lt_of_le hgl HBr.out.size)
      have HGL := Lib.hid hgl
      rcases hT0 : typeV resW[i]
      all_goals have hT := Lib.hid hT0
      all_goals clear hT0
      · go_wp2_with fail
        refine (ret_from hb (name_is _ false R1.out _ (spaces_from HSW.out hb))).mono ?_
        clear hb
        rintro e w2 ⟨rfl, hb⟩
        have hc2 : w2.cell? ⟨g, i, none⟩ = some (.string resW[i]) := (World.cell?_of_block (w := wr) (hb.block g HG.out)).trans hc
        go_wp2_with fail
        refine (ret_from hb (class_is _ false R2.out _)).mono ?_
        clear hb
        rintro e w3 ⟨rfl, hb⟩
        have hc3 : w3.cell? ⟨g, i, none⟩ = some (.string resW[i]) := (World.cell?_of_block (w := wr) (hb.block g HG.out)).trans hc
        go_wp2_with fail
        refine (ret_from hb (type_is _ false hT.out _)).mono ?_
        clear hb
        rintro e w4 ⟨rfl, hb⟩
        have hc4 : w4.cell? ⟨g, i, none⟩ = some (.string resW[i]) := (World.cell?_of_block (w := wr) (hb.block g HG.out)).trans hc
        have HB4 := Lib.hid hb
        clear hc hc2 hc3 hb
        go_wp2_with fail
        go_loopw [4] (fun v wr => ∃ k n : Nat, v = .int .i64 k ∧ k ≤ i ∧ wr = w4.drewN n) (fun v wr => match v with | .int _ q => i - q.toNat | _ => 0)
        case atStart => exact ⟨0, 0, rfl, Nat.zero_le _, rfl⟩
        case round =>
          obtain ⟨k, n, rfl, hk, rfl⟩ := hrel
          rcases Nat.lt_or_ge k i with hlt2 | hge2
          · have hck : w4.cell? ⟨g, k, none⟩ = some (.string (resW[k]'(by omega))) := (World.cell?_of_block (w := wr) (HB4.out.block g HG.out)).trans ((World.cell?_of_block (w := w1) (HBr.out.block g HGL.out)).trans (HX.out k (by omega)))
            have hne := R4.out k (by omega) hlt2
            have hl2 : (k : Int) < (i : Int) := by omega
            have hl3 : (k : Int) < 24 := by omega
            go_wp2_with fail
            go_quiet (fail)
            go_wp2_with fail
            refine ⟨⟨k + 1, _, by rw [Int.natCast_add]; rfl, by omega, rfl⟩, ?_⟩
            show i - (((k : Int) + 1).toNat) < i - ((k : Int).toNat)
            omega
          · have hl2 : ¬ (k : Int) < (i : Int) := by omega
            go_wp2_with fail
            refine ⟨⟨i + 1, by rw [Int.natCast_add]; rfl, ?_, by omega, only_drewN_below _ _ _ _ (HBr.out.trans (HB4.out.mono HBr.out.size))⟩, ?_⟩
            · rw [R3.out, hT.out]; rfl
            · show resW.length - (((i : Int) + 1).toNat) < resW.length - ((i : Int).toNat)
              omega
      · go_wp2_with fail
        refine (ret_from hb (name_is _ false R1.out _ (spaces_from HSW.out hb))).mono ?_
        clear hb
        rintro e w2 ⟨rfl, hb⟩
        have hc2 : w2.cell? ⟨g, i, none⟩ = some (.string resW[i]) := (World.cell?_of_block (w := wr) (hb.block g HG.out)).trans hc
        go_wp2_with fail
        refine (ret_from hb (class_is _ false R2.out _)).mono ?_
        clear hb
        rintro e w3 ⟨rfl, hb⟩
        have hc3 : w3.cell? ⟨g, i, none⟩ = some (.string resW[i]) := (World.cell?_of_block (w := wr) (hb.block g HG.out)).trans hc
        go_wp2_with fail
        refine (ret_from hb (type_is _ true hT.out _)).mono ?_
        clear hb
        rintro e w4 ⟨rfl, hb⟩
        have hc4 : w4.cell? ⟨g, i, none⟩ = some (.string resW[i]) := (World.cell?_of_block (w := wr) (hb.block g HG.out)).trans hc
        have HB4 := Lib.hid hb
        clear hc hc2 hc3 hb
        go_wp2_with fail
        go_loopw [4] (fun v wr => ∃ k n : Nat, v = .int .i64 k ∧ k ≤ i ∧ wr = w4.drewN n) (fun v wr => match v with | .int _ q => i - q.toNat | _ => 0)
        case atStart => exact ⟨0, 0, rfl, Nat.zero_le _, rfl⟩
        case round =>
          obtain ⟨k, n, rfl, hk, rfl⟩ := hrel
          rcases Nat.lt_or_ge k i with hlt2 | hge2
          · have hck : w4.cell? ⟨g, k, none⟩ = some (.string (resW[k]'(by omega))) := (World.cell?_of_block (w := wr) (HB4.out.block g HG.out)).trans ((World.cell?_of_block (w := w1) (HBr.out.block g HGL.out)).trans (HX.out k (by omega)))
            have hne := R4.out k (by omega) hlt2
            have hl2 : (k : Int) < (i : Int) := by omega
            have hl3 : (k : Int) < 24 := by omega
            go_wp2_with fail
            go_quiet (fail)
            go_wp2_with fail
            refine ⟨⟨k + 1, _, by rw [Int.natCast_add]; rfl, by omega, rfl⟩, ?_⟩
            show i - (((k : Int) + 1).toNat) < i - ((k : Int).toNat)
            omega
          · have hl2 : ¬ (k : Int) < (i : Int) := by omega
            go_wp2_with fail
            refine ⟨⟨i + 1, by rw [Int.natCast_add]; rfl, ?_, by omega, only_drewN_below _ _ _ _ (HBr.out.trans (HB4.out.mono HBr.out.size))⟩, ?_⟩
            · rw [R3.out, hT.out]; rfl
            · show resW.length - (((i : Int) + 1).toNat) < resW.length - ((i : Int).toNat)
              omega
    · obtain rfl : i = resW.length := by omega
      have hBB := HB.out.trans (hB.mono HB.out.size)
      have hl' : ¬ (resW.length : Int) < 24 := by omega
      have hct : cntT resW.length = 5 := cnt_end
      rw [hct]
      have HSW : Hid (Spaces wr) := spaces_below (spaces_from HS.out HB.out) hB (by omega)
      clear hB
      go_wp2_with fail
      refine (ret_from hBB (known_yes _ HSW.out)).mono ?_
      clear hBB
      rintro e w2 ⟨rfl, hb⟩
      go_wp2_with fail
      go_ret
      exact ⟨rfl, hb⟩
end Go.Proofs.YtohnhnomlkcfjaaDoor
