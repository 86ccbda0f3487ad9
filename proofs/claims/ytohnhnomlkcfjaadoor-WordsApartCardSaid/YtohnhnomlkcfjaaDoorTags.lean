/- words.Tag, OfTag, and the reference's, walked. -/
import Derived.Test.YtohnhnomlkcfjaaDoorLists
namespace Go.Proofs.YtohnhnomlkcfjaaDoor
open Go.RowKit
attribute [local irreducible] ByteArray.extract ByteArray.toList
theorem idx0 (w : World) : (Instr.index 39 (.agg #[.string ⟨#[105, 110, 116]⟩, .string ⟨#[114, 101, 97, 108]⟩, .string ⟨#[98, 111, 111, 108]⟩, .string ⟨#[115, 116, 114]⟩, .string ⟨#[117, 110, 105, 116]⟩]) (.int .i64 0)).run Tryd.prog w = .ok (.string ⟨#[105, 110, 116]⟩) w := by kernel_rfl
theorem idx1 (w : World) : (Instr.index 39 (.agg #[.string ⟨#[105, 110, 116]⟩, .string ⟨#[114, 101, 97, 108]⟩, .string ⟨#[98, 111, 111, 108]⟩, .string ⟨#[115, 116, 114]⟩, .string ⟨#[117, 110, 105, 116]⟩]) (.int .i64 1)).run Tryd.prog w = .ok (.string ⟨#[114, 101, 97, 108]⟩) w := by kernel_rfl
theorem idx2 (w : World) : (Instr.index 39 (.agg #[.string ⟨#[105, 110, 116]⟩, .string ⟨#[114, 101, 97, 108]⟩, .string ⟨#[98, 111, 111, 108]⟩, .string ⟨#[115, 116, 114]⟩, .string ⟨#[117, 110, 105, 116]⟩]) (.int .i64 2)).run Tryd.prog w = .ok (.string ⟨#[98, 111, 111, 108]⟩) w := by kernel_rfl
theorem idx3 (w : World) : (Instr.index 39 (.agg #[.string ⟨#[105, 110, 116]⟩, .string ⟨#[114, 101, 97, 108]⟩, .string ⟨#[98, 111, 111, 108]⟩, .string ⟨#[115, 116, 114]⟩, .string ⟨#[117, 110, 105, 116]⟩]) (.int .i64 3)).run Tryd.prog w = .ok (.string ⟨#[115, 116, 114]⟩) w := by kernel_rfl
theorem idx4 (w : World) : (Instr.index 39 (.agg #[.string ⟨#[105, 110, 116]⟩, .string ⟨#[114, 101, 97, 108]⟩, .string ⟨#[98, 111, 111, 108]⟩, .string ⟨#[115, 116, 114]⟩, .string ⟨#[117, 110, 105, 116]⟩]) (.int .i64 4)).run Tryd.prog w = .ok (.string ⟨#[117, 110, 105, 116]⟩) w := by kernel_rfl
theorem tag_0 (s : ByteArray) (w : World) (h0 : s = ⟨#[105, 110, 116]⟩) : Calls Tryd.prog 9 #[.string s] w (RetT (1, 0) w) := by
  have x0 := idx0
  have e0 := tl_eq s [105, 110, 116] h0
  clear h0
  go_enter Tryd.func9, Tryd.ntmps9
  go_wp2_with fail
  refine (bases_any _).mono ?_
  rintro e w' ⟨rfl, hb⟩
  go_wp2_with fail
  refine wp_loop_rounds 1 ?_
  rw [rounds_succ]
  go_wp2_with (rw [rounds_succ])
  go_ret2
  exact ⟨rfl, hb⟩
theorem tag_1 (s : ByteArray) (w : World) (h0 : ¬ s = ⟨#[105, 110, 116]⟩) (h1 : s = ⟨#[114, 101, 97, 108]⟩) : Calls Tryd.prog 9 #[.string s] w (RetT (2, 0) w) := by
  have x0 := idx0
  have x1 := idx1
  have e0 := tl_ne s [105, 110, 116] h0
  have e1 := tl_eq s [114, 101, 97, 108] h1
  clear h0 h1
  go_enter Tryd.func9, Tryd.ntmps9
  go_wp2_with fail
  refine (bases_any _).mono ?_
  rintro e w' ⟨rfl, hb⟩
  go_wp2_with fail
  refine wp_loop_rounds 2 ?_
  rw [rounds_succ]
  go_wp2_with (rw [rounds_succ])
  go_ret2
  exact ⟨rfl, hb⟩
theorem tag_2 (s : ByteArray) (w : World) (h0 : ¬ s = ⟨#[105, 110, 116]⟩) (h1 : ¬ s = ⟨#[114, 101, 97, 108]⟩) (h2 : s = ⟨#[98, 111, 111, 108]⟩) : Calls Tryd.prog 9 #[.string s] w (RetT (3, 0) w) := by
  have x0 := idx0
  have x1 := idx1
  have x2 := idx2
  have e0 := tl_ne s [105, 110, 116] h0
  have e1 := tl_ne s [114, 101, 97, 108] h1
  have e2 := tl_eq s [98, 111, 111, 108] h2
  clear h0 h1 h2
  go_enter Tryd.func9, Tryd.ntmps9
  go_wp2_with fail
  refine (bases_any _).mono ?_
  rintro e w' ⟨rfl, hb⟩
  go_wp2_with fail
  refine wp_loop_rounds 3 ?_
  rw [rounds_succ]
  go_wp2_with (rw [rounds_succ])
  go_ret2
  exact ⟨rfl, hb⟩
theorem tag_3 (s : ByteArray) (w : World) (h0 : ¬ s = ⟨#[105, 110, 116]⟩) (h1 : ¬ s = ⟨#[114, 101, 97, 108]⟩) (h2 : ¬ s = ⟨#[98, 111, 111, 108]⟩) (h3 : s = ⟨#[115, 116, 114]⟩) : Calls Tryd.prog 9 #[.string s] w (RetT (4, 0) w) := by
  have x0 := idx0
  have x1 := idx1
  have x2 := idx2
  have x3 := idx3
  have e0 := tl_ne s [105, 110, 116] h0
  have e1 := tl_ne s [114, 101, 97, 108] h1
  have e2 := tl_ne s [98, 111, 111, 108] h2
  have e3 := tl_eq s [115, 116, 114] h3
  clear h0 h1 h2 h3
  go_enter Tryd.func9, Tryd.ntmps9
  go_wp2_with fail
  refine (bases_any _).mono ?_
  rintro e w' ⟨rfl, hb⟩
  go_wp2_with fail
  refine wp_loop_rounds 4 ?_
  rw [rounds_succ]
  go_wp2_with (rw [rounds_succ])
  go_ret2
  exact ⟨rfl, hb⟩
theorem tag_4 (s : ByteArray) (w : World) (h0 : ¬ s = ⟨#[105, 110, 116]⟩) (h1 : ¬ s = ⟨#[114, 101, 97, 108]⟩) (h2 : ¬ s = ⟨#[98, 111, 111, 108]⟩) (h3 : ¬ s = ⟨#[115, 116, 114]⟩) (h4 : s = ⟨#[117, 110, 105, 116]⟩) : Calls Tryd.prog 9 #[.string s] w (RetT (5, 0) w) := by
  have x0 := idx0
  have x1 := idx1
  have x2 := idx2
  have x3 := idx3
  have x4 := idx4
  have e0 := tl_ne s [105, 110, 116] h0
  have e1 := tl_ne s [114, 101, 97, 108] h1
  have e2 := tl_ne s [98, 111, 111, 108] h2
  have e3 := tl_ne s [115, 116, 114] h3
  have e4 := tl_eq s [117, 110, 105, 116] h4
  clear h0 h1 h2 h3 h4
  go_enter Tryd.func9, Tryd.ntmps9
  go_wp2_with fail
  refine (bases_any _).mono ?_
  rintro e w' ⟨rfl, hb⟩
  go_wp2_with fail
  refine wp_loop_rounds 5 ?_
  rw [rounds_succ]
  go_wp2_with (rw [rounds_succ])
  go_ret2
  exact ⟨rfl, hb⟩
theorem tag_5 (s : ByteArray) (w : World) (h0 : ¬ s = ⟨#[105, 110, 116]⟩) (h1 : ¬ s = ⟨#[114, 101, 97, 108]⟩) (h2 : ¬ s = ⟨#[98, 111, 111, 108]⟩) (h3 : ¬ s = ⟨#[115, 116, 114]⟩) (h4 : ¬ s = ⟨#[117, 110, 105, 116]⟩) : Calls Tryd.prog 9 #[.string s] w (RetT (0, 7) w) := by
  have x0 := idx0
  have x1 := idx1
  have x2 := idx2
  have x3 := idx3
  have x4 := idx4
  have e0 := tl_ne s [105, 110, 116] h0
  have e1 := tl_ne s [114, 101, 97, 108] h1
  have e2 := tl_ne s [98, 111, 111, 108] h2
  have e3 := tl_ne s [115, 116, 114] h3
  have e4 := tl_ne s [117, 110, 105, 116] h4
  clear h0 h1 h2 h3 h4
  go_enter Tryd.func9, Tryd.ntmps9
  go_wp2_with fail
  refine (bases_any _).mono ?_
  rintro e w' ⟨rfl, hb⟩
  go_wp2_with fail
  refine wp_loop_rounds 6 ?_
  rw [rounds_succ]
  go_wp2_with (rw [rounds_succ])
  go_ret2
  exact ⟨rfl, hb⟩
theorem tag_any (s : ByteArray) (w : World) : Calls Tryd.prog 9 #[.string s] w (RetT (tagV s) w) := by
  unfold tagV
  by_cases h0 : s = ⟨#[105, 110, 116]⟩
  · rw [if_pos h0]; exact tag_0 s w h0
  rw [if_neg h0]
  by_cases h1 : s = ⟨#[114, 101, 97, 108]⟩
  · rw [if_pos h1]; exact tag_1 s w h0 h1
  rw [if_neg h1]
  by_cases h2 : s = ⟨#[98, 111, 111, 108]⟩
  · rw [if_pos h2]; exact tag_2 s w h0 h1 h2
  rw [if_neg h2]
  by_cases h3 : s = ⟨#[115, 116, 114]⟩
  · rw [if_pos h3]; exact tag_3 s w h0 h1 h2 h3
  rw [if_neg h3]
  by_cases h4 : s = ⟨#[117, 110, 105, 116]⟩
  · rw [if_pos h4]; exact tag_4 s w h0 h1 h2 h3 h4
  rw [if_neg h4]
  exact tag_5 s w h0 h1 h2 h3 h4
theorem reftag_0 (s : ByteArray) (w : World) (h0 : s = ⟨#[105, 110, 116]⟩) : Calls Tryd.prog 10 #[.string s] w (RetT (1, 0) w) := by
  have e0 := tl_eq s [105, 110, 116] h0
  clear h0
  go_enter Tryd.func10, Tryd.ntmps10
  go_wp2_with fail
  refine (refbases_s _).mono ?_
  rintro e w' ⟨g, cap, rfl, hg, hx, _, hb⟩
  have x0 : w'.cell? ⟨g, 0, none⟩ = some (.string ⟨#[105, 110, 116]⟩) := hx 0 (by decide)
  have hlen : (baseW.length : Int) = 5 := rfl
  have hlen' : baseW.length = 5 := rfl
  clear hx
  go_wp2_with fail
  refine wp_loop_rounds 1 ?_
  rw [rounds_succ]
  go_wp2_with (rw [rounds_succ])
  go_ret2
  exact ⟨rfl, hb⟩
theorem reftag_1 (s : ByteArray) (w : World) (h0 : ¬ s = ⟨#[105, 110, 116]⟩) (h1 : s = ⟨#[114, 101, 97, 108]⟩) : Calls Tryd.prog 10 #[.string s] w (RetT (2, 0) w) := by
  have e0 := tl_ne s [105, 110, 116] h0
  have e1 := tl_eq s [114, 101, 97, 108] h1
  clear h0 h1
  go_enter Tryd.func10, Tryd.ntmps10
  go_wp2_with fail
  refine (refbases_s _).mono ?_
  rintro e w' ⟨g, cap, rfl, hg, hx, _, hb⟩
  have x0 : w'.cell? ⟨g, 0, none⟩ = some (.string ⟨#[105, 110, 116]⟩) := hx 0 (by decide)
  have x1 : w'.cell? ⟨g, 1, none⟩ = some (.string ⟨#[114, 101, 97, 108]⟩) := hx 1 (by decide)
  have hlen : (baseW.length : Int) = 5 := rfl
  have hlen' : baseW.length = 5 := rfl
  clear hx
  go_wp2_with fail
  refine wp_loop_rounds 2 ?_
  rw [rounds_succ]
  go_wp2_with (rw [rounds_succ])
  go_ret2
  exact ⟨rfl, hb⟩
theorem reftag_2 (s : ByteArray) (w : World) (h0 : ¬ s = ⟨#[105, 110, 116]⟩) (h1 : ¬ s = ⟨#[114, 101, 97, 108]⟩) (h2 : s = ⟨#[98, 111, 111, 108]⟩) : Calls Tryd.prog 10 #[.string s] w (RetT (3, 0) w) := by
  have e0 := tl_ne s [105, 110, 116] h0
  have e1 := tl_ne s [114, 101, 97, 108] h1
  have e2 := tl_eq s [98, 111, 111, 108] h2
  clear h0 h1 h2
  go_enter Tryd.func10, Tryd.ntmps10
  go_wp2_with fail
  refine (refbases_s _).mono ?_
  rintro e w' ⟨g, cap, rfl, hg, hx, _, hb⟩
  have x0 : w'.cell? ⟨g, 0, none⟩ = some (.string ⟨#[105, 110, 116]⟩) := hx 0 (by decide)
  have x1 : w'.cell? ⟨g, 1, none⟩ = some (.string ⟨#[114, 101, 97, 108]⟩) := hx 1 (by decide)
  have x2 : w'.cell? ⟨g, 2, none⟩ = some (.string ⟨#[98, 111, 111, 108]⟩) := hx 2 (by decide)
  have hlen : (baseW.length : Int) = 5 := rfl
  have hlen' : baseW.length = 5 := rfl
  clear hx
  go_wp2_with fail
  refine wp_loop_rounds 3 ?_
  rw [rounds_succ]
  go_wp2_with (rw [rounds_succ])
  go_ret2
  exact ⟨rfl, hb⟩
theorem reftag_3 (s : ByteArray) (w : World) (h0 : ¬ s = ⟨#[105, 110, 116]⟩) (h1 : ¬ s = ⟨#[114, 101, 97, 108]⟩) (h2 : ¬ s = ⟨#[98, 111, 111, 108]⟩) (h3 : s = ⟨#[115, 116, 114]⟩) : Calls Tryd.prog 10 #[.string s] w (RetT (4, 0) w) := by
  have e0 := tl_ne s [105, 110, 116] h0
  have e1 := tl_ne s [114, 101, 97, 108] h1
  have e2 := tl_ne s [98, 111, 111, 108] h2
  have e3 := tl_eq s [115, 116, 114] h3
  clear h0 h1 h2 h3
  go_enter Tryd.func10, Tryd.ntmps10
  go_wp2_with fail
  refine (refbases_s _).mono ?_
  rintro e w' ⟨g, cap, rfl, hg, hx, _, hb⟩
  have x0 : w'.cell? ⟨g, 0, none⟩ = some (.string ⟨#[105, 110, 116]⟩) := hx 0 (by decide)
  have x1 : w'.cell? ⟨g, 1, none⟩ = some (.string ⟨#[114, 101, 97, 108]⟩) := hx 1 (by decide)
  have x2 : w'.cell? ⟨g, 2, none⟩ = some (.string ⟨#[98, 111, 111, 108]⟩) := hx 2 (by decide)
  have x3 : w'.cell? ⟨g, 3, none⟩ = some (.string ⟨#[115, 116, 114]⟩) := hx 3 (by decide)
  have hlen : (baseW.length : Int) = 5 := rfl
  have hlen' : baseW.length = 5 := rfl
  clear hx
  go_wp2_with fail
  refine wp_loop_rounds 4 ?_
  rw [rounds_succ]
  go_wp2_with (rw [rounds_succ])
  go_ret2
  exact ⟨rfl, hb⟩
theorem reftag_4 (s : ByteArray) (w : World) (h0 : ¬ s = ⟨#[105, 110, 116]⟩) (h1 : ¬ s = ⟨#[114, 101, 97, 108]⟩) (h2 : ¬ s = ⟨#[98, 111, 111, 108]⟩) (h3 : ¬ s = ⟨#[115, 116, 114]⟩) (h4 : s = ⟨#[117, 110, 105, 116]⟩) : Calls Tryd.prog 10 #[.string s] w (RetT (5, 0) w) := by
  have e0 := tl_ne s [105, 110, 116] h0
  have e1 := tl_ne s [114, 101, 97, 108] h1
  have e2 := tl_ne s [98, 111, 111, 108] h2
  have e3 := tl_ne s [115, 116, 114] h3
  have e4 := tl_eq s [117, 110, 105, 116] h4
  clear h0 h1 h2 h3 h4
  go_enter Tryd.func10, Tryd.ntmps10
  go_wp2_with fail
  refine (refbases_s _).mono ?_
  rintro e w' ⟨g, cap, rfl, hg, hx, _, hb⟩
  have x0 : w'.cell? ⟨g, 0, none⟩ = some (.string ⟨#[105, 110, 116]⟩) := hx 0 (by decide)
  have x1 : w'.cell? ⟨g, 1, none⟩ = some (.string ⟨#[114, 101, 97, 108]⟩) := hx 1 (by decide)
  have x2 : w'.cell? ⟨g, 2, none⟩ = some (.string ⟨#[98, 111, 111, 108]⟩) := hx 2 (by decide)
  have x3 : w'.cell? ⟨g, 3, none⟩ = some (.string ⟨#[115, 116, 114]⟩) := hx 3 (by decide)
  have x4 : w'.cell? ⟨g, 4, none⟩ = some (.string ⟨#[117, 110, 105, 116]⟩) := hx 4 (by decide)
  have hlen : (baseW.length : Int) = 5 := rfl
  have hlen' : baseW.length = 5 := rfl
  clear hx
  go_wp2_with fail
  refine wp_loop_rounds 5 ?_
  rw [rounds_succ]
  go_wp2_with (rw [rounds_succ])
  go_ret2
  exact ⟨rfl, hb⟩
theorem reftag_5 (s : ByteArray) (w : World) (h0 : ¬ s = ⟨#[105, 110, 116]⟩) (h1 : ¬ s = ⟨#[114, 101, 97, 108]⟩) (h2 : ¬ s = ⟨#[98, 111, 111, 108]⟩) (h3 : ¬ s = ⟨#[115, 116, 114]⟩) (h4 : ¬ s = ⟨#[117, 110, 105, 116]⟩) : Calls Tryd.prog 10 #[.string s] w (RetT (0, 7) w) := by
  have e0 := tl_ne s [105, 110, 116] h0
  have e1 := tl_ne s [114, 101, 97, 108] h1
  have e2 := tl_ne s [98, 111, 111, 108] h2
  have e3 := tl_ne s [115, 116, 114] h3
  have e4 := tl_ne s [117, 110, 105, 116] h4
  clear h0 h1 h2 h3 h4
  go_enter Tryd.func10, Tryd.ntmps10
  go_wp2_with fail
  refine (refbases_s _).mono ?_
  rintro e w' ⟨g, cap, rfl, hg, hx, _, hb⟩
  have x0 : w'.cell? ⟨g, 0, none⟩ = some (.string ⟨#[105, 110, 116]⟩) := hx 0 (by decide)
  have x1 : w'.cell? ⟨g, 1, none⟩ = some (.string ⟨#[114, 101, 97, 108]⟩) := hx 1 (by decide)
  have x2 : w'.cell? ⟨g, 2, none⟩ = some (.string ⟨#[98, 111, 111, 108]⟩) := hx 2 (by decide)
  have x3 : w'.cell? ⟨g, 3, none⟩ = some (.string ⟨#[115, 116, 114]⟩) := hx 3 (by decide)
  have x4 : w'.cell? ⟨g, 4, none⟩ = some (.string ⟨#[117, 110, 105, 116]⟩) := hx 4 (by decide)
  have hlen : (baseW.length : Int) = 5 := rfl
  have hlen' : baseW.length = 5 := rfl
  clear hx
  go_wp2_with fail
  refine wp_loop_rounds 6 ?_
  rw [rounds_succ]
  go_wp2_with (rw [rounds_succ])
  go_ret2
  exact ⟨rfl, hb⟩
theorem reftag_any (s : ByteArray) (w : World) : Calls Tryd.prog 10 #[.string s] w (RetT (tagV s) w) := by
  unfold tagV
  by_cases h0 : s = ⟨#[105, 110, 116]⟩
  · rw [if_pos h0]; exact reftag_0 s w h0
  rw [if_neg h0]
  by_cases h1 : s = ⟨#[114, 101, 97, 108]⟩
  · rw [if_pos h1]; exact reftag_1 s w h0 h1
  rw [if_neg h1]
  by_cases h2 : s = ⟨#[98, 111, 111, 108]⟩
  · rw [if_pos h2]; exact reftag_2 s w h0 h1 h2
  rw [if_neg h2]
  by_cases h3 : s = ⟨#[115, 116, 114]⟩
  · rw [if_pos h3]; exact reftag_3 s w h0 h1 h2 h3
  rw [if_neg h3]
  by_cases h4 : s = ⟨#[117, 110, 105, 116]⟩
  · rw [if_pos h4]; exact reftag_4 s w h0 h1 h2 h3 h4
  rw [if_neg h4]
  exact reftag_5 s w h0 h1 h2 h3 h4
def ofTagV (t : Int) : ByteArray × Int := if t = 1 then (⟨#[105, 110, 116]⟩, 0) else if t = 2 then (⟨#[114, 101, 97, 108]⟩, 0) else if t = 3 then (⟨#[98, 111, 111, 108]⟩, 0) else if t = 4 then (⟨#[115, 116, 114]⟩, 0) else if t = 5 then (⟨#[117, 110, 105, 116]⟩, 0) else (⟨#[]⟩, 7)
def RetO (v : ByteArray × Int) (w : World) (e : Ending) (w' : World) : Prop := e = .returned (.tuple #[.string v.1, .int .i64 v.2]) ∧ Below w.heap.size w w'
theorem oftag_out (t : Int) (w : World) (h : t < 1 ∨ 5 < t) : Calls Tryd.prog 11 #[.int .i64 t] w (RetO (⟨#[]⟩, 7) w) := by
  rcases h with h | h
  · skip
    go_enter Tryd.func11, Tryd.ntmps11
    go_wp2_with fail
    go_ret2
    exact ⟨rfl, Below.refl _ _⟩
  · have h' : ¬ t < 1 := by omega
    go_enter Tryd.func11, Tryd.ntmps11
    go_wp2_with fail
    go_ret2
    exact ⟨rfl, Below.refl _ _⟩
theorem oftag_0 (w : World) : Calls Tryd.prog 11 #[.int .i64 1] w (RetO (⟨#[105, 110, 116]⟩, 0) w) := by
  have x := idx0
  go_enter Tryd.func11, Tryd.ntmps11
  go_wp2_with fail
  refine (bases_any _).mono ?_
  rintro e w' ⟨rfl, hb⟩
  go_wp2_with fail
  go_ret2
  exact ⟨rfl, hb⟩
theorem oftag_1 (w : World) : Calls Tryd.prog 11 #[.int .i64 2] w (RetO (⟨#[114, 101, 97, 108]⟩, 0) w) := by
  have x := idx1
  go_enter Tryd.func11, Tryd.ntmps11
  go_wp2_with fail
  refine (bases_any _).mono ?_
  rintro e w' ⟨rfl, hb⟩
  go_wp2_with fail
  go_ret2
  exact ⟨rfl, hb⟩
theorem oftag_2 (w : World) : Calls Tryd.prog 11 #[.int .i64 3] w (RetO (⟨#[98, 111, 111, 108]⟩, 0) w) := by
  have x := idx2
  go_enter Tryd.func11, Tryd.ntmps11
  go_wp2_with fail
  refine (bases_any _).mono ?_
  rintro e w' ⟨rfl, hb⟩
  go_wp2_with fail
  go_ret2
  exact ⟨rfl, hb⟩
theorem oftag_3 (w : World) : Calls Tryd.prog 11 #[.int .i64 4] w (RetO (⟨#[115, 116, 114]⟩, 0) w) := by
  have x := idx3
  go_enter Tryd.func11, Tryd.ntmps11
  go_wp2_with fail
  refine (bases_any _).mono ?_
  rintro e w' ⟨rfl, hb⟩
  go_wp2_with fail
  go_ret2
  exact ⟨rfl, hb⟩
theorem oftag_4 (w : World) : Calls Tryd.prog 11 #[.int .i64 5] w (RetO (⟨#[117, 110, 105, 116]⟩, 0) w) := by
  have x := idx4
  go_enter Tryd.func11, Tryd.ntmps11
  go_wp2_with fail
  refine (bases_any _).mono ?_
  rintro e w' ⟨rfl, hb⟩
  go_wp2_with fail
  go_ret2
  exact ⟨rfl, hb⟩
theorem oftag_any (t : Int) (w : World) : Calls Tryd.prog 11 #[.int .i64 t] w (RetO (ofTagV t) w) := by
  unfold ofTagV
  by_cases h0 : t = 1
  · rw [if_pos h0, h0]; exact oftag_0 w
  rw [if_neg h0]
  by_cases h1 : t = 2
  · rw [if_pos h1, h1]; exact oftag_1 w
  rw [if_neg h1]
  by_cases h2 : t = 3
  · rw [if_pos h2, h2]; exact oftag_2 w
  rw [if_neg h2]
  by_cases h3 : t = 4
  · rw [if_pos h3, h3]; exact oftag_3 w
  rw [if_neg h3]
  by_cases h4 : t = 5
  · rw [if_pos h4, h4]; exact oftag_4 w
  rw [if_neg h4]
  exact oftag_out t w (by omega)
theorem refoftag_out (t : Int) (w : World) (h : t < 1 ∨ 5 < t) : Calls Tryd.prog 12 #[.int .i64 t] w (RetO (⟨#[]⟩, 7) w) := by
  rcases h with h | h
  · skip
    go_enter Tryd.func12, Tryd.ntmps12
    go_wp2_with fail
    refine (refbases_s _).mono ?_
    rintro e w' ⟨g, cap, rfl, hg, hx, _, hb⟩
    have hlen : (baseW.length : Int) = 5 := rfl
    have hlen' : baseW.length = 5 := rfl
    clear hx
    go_wp2_with fail
    go_ret2
    exact ⟨rfl, hb⟩
  · have h' : ¬ t < 1 := by omega
    go_enter Tryd.func12, Tryd.ntmps12
    go_wp2_with fail
    refine (refbases_s _).mono ?_
    rintro e w' ⟨g, cap, rfl, hg, hx, _, hb⟩
    have hlen : (baseW.length : Int) = 5 := rfl
    have hlen' : baseW.length = 5 := rfl
    clear hx
    go_wp2_with fail
    go_ret2
    exact ⟨rfl, hb⟩
theorem refoftag_0 (w : World) : Calls Tryd.prog 12 #[.int .i64 1] w (RetO (⟨#[105, 110, 116]⟩, 0) w) := by
  go_enter Tryd.func12, Tryd.ntmps12
  go_wp2_with fail
  refine (refbases_s _).mono ?_
  rintro e w' ⟨g, cap, rfl, hg, hx, _, hb⟩
  have x0 : w'.cell? ⟨g, 0, none⟩ = some (.string ⟨#[105, 110, 116]⟩) := hx 0 (by decide)
  have hlen : (baseW.length : Int) = 5 := rfl
  have hlen' : baseW.length = 5 := rfl
  clear hx
  go_wp2_with fail
  go_ret2
  exact ⟨rfl, hb⟩
theorem refoftag_1 (w : World) : Calls Tryd.prog 12 #[.int .i64 2] w (RetO (⟨#[114, 101, 97, 108]⟩, 0) w) := by
  go_enter Tryd.func12, Tryd.ntmps12
  go_wp2_with fail
  refine (refbases_s _).mono ?_
  rintro e w' ⟨g, cap, rfl, hg, hx, _, hb⟩
  have x1 : w'.cell? ⟨g, 1, none⟩ = some (.string ⟨#[114, 101, 97, 108]⟩) := hx 1 (by decide)
  have hlen : (baseW.length : Int) = 5 := rfl
  have hlen' : baseW.length = 5 := rfl
  clear hx
  go_wp2_with fail
  go_ret2
  exact ⟨rfl, hb⟩
theorem refoftag_2 (w : World) : Calls Tryd.prog 12 #[.int .i64 3] w (RetO (⟨#[98, 111, 111, 108]⟩, 0) w) := by
  go_enter Tryd.func12, Tryd.ntmps12
  go_wp2_with fail
  refine (refbases_s _).mono ?_
  rintro e w' ⟨g, cap, rfl, hg, hx, _, hb⟩
  have x2 : w'.cell? ⟨g, 2, none⟩ = some (.string ⟨#[98, 111, 111, 108]⟩) := hx 2 (by decide)
  have hlen : (baseW.length : Int) = 5 := rfl
  have hlen' : baseW.length = 5 := rfl
  clear hx
  go_wp2_with fail
  go_ret2
  exact ⟨rfl, hb⟩
theorem refoftag_3 (w : World) : Calls Tryd.prog 12 #[.int .i64 4] w (RetO (⟨#[115, 116, 114]⟩, 0) w) := by
  go_enter Tryd.func12, Tryd.ntmps12
  go_wp2_with fail
  refine (refbases_s _).mono ?_
  rintro e w' ⟨g, cap, rfl, hg, hx, _, hb⟩
  have x3 : w'.cell? ⟨g, 3, none⟩ = some (.string ⟨#[115, 116, 114]⟩) := hx 3 (by decide)
  have hlen : (baseW.length : Int) = 5 := rfl
  have hlen' : baseW.length = 5 := rfl
  clear hx
  go_wp2_with fail
  go_ret2
  exact ⟨rfl, hb⟩
theorem refoftag_4 (w : World) : Calls Tryd.prog 12 #[.int .i64 5] w (RetO (⟨#[117, 110, 105, 116]⟩, 0) w) := by
  go_enter Tryd.func12, Tryd.ntmps12
  go_wp2_with fail
  refine (refbases_s _).mono ?_
  rintro e w' ⟨g, cap, rfl, hg, hx, _, hb⟩
  have x4 : w'.cell? ⟨g, 4, none⟩ = some (.string ⟨#[117, 110, 105, 116]⟩) := hx 4 (by decide)
  have hlen : (baseW.length : Int) = 5 := rfl
  have hlen' : baseW.length = 5 := rfl
  clear hx
  go_wp2_with fail
  go_ret2
  exact ⟨rfl, hb⟩
theorem refoftag_any (t : Int) (w : World) : Calls Tryd.prog 12 #[.int .i64 t] w (RetO (ofTagV t) w) := by
  unfold ofTagV
  by_cases h0 : t = 1
  · rw [if_pos h0, h0]; exact refoftag_0 w
  rw [if_neg h0]
  by_cases h1 : t = 2
  · rw [if_pos h1, h1]; exact refoftag_1 w
  rw [if_neg h1]
  by_cases h2 : t = 3
  · rw [if_pos h2, h2]; exact refoftag_2 w
  rw [if_neg h2]
  by_cases h3 : t = 4
  · rw [if_pos h3, h3]; exact refoftag_3 w
  rw [if_neg h3]
  by_cases h4 : t = 5
  · rw [if_pos h4, h4]; exact refoftag_4 w
  rw [if_neg h4]
  exact refoftag_out t w (by omega)
end Go.Proofs.YtohnhnomlkcfjaaDoor
