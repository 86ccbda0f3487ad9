/- top at api.Value and at [2]int. -/
import Derived.Test.YtiaeckljpdhagaaFrTakeV
import Derived.Test.YtiaeckljpdhagaaText
import Derived.Laws.ResultCell
namespace Go.Proofs.Ytiaeckljpdhagaa
open Go.RowKit
attribute [local go_sem] Oper.semAt_some run_store_func run_store_nilFunc
/-- Two results, the first in a row of cells. -/
theorem results_row_tmp {P : Program} {fn : Func} {p u : Tmp} {ty : TypeId} (h : fn.results = #[.cell p ty, .tmp u]) (tmps : Array Value) (w : World) (g : Nat) (t : TypeId) (cs : Array Value) (fr : Nat × Nat) (d : TypeDesc)
    (hp : tmps.getD p undef = .pointer (some ⟨g, 0, none⟩)) (hg : w.heap[g]? = some (.cells cs t fr))
    (hu : P.underlying ty = some d) (hd : (match d with | .struct _ | .array _ _ => true | _ => false) = true) (hi : (P.info? ty).map (·.size) = some cs.size) :
    (results fn tmps).run P w = .ok (.tuple #[.agg cs, tmps.getD u undef]) w := by
  rw [results_cell_tmp h, hp]
  simp [asAddr, Result.andThen, run_loadVar_row w g t ty cs fr d hg hu hd hi]
def loT (i : Nat) : Nat := [0, 0, 0, 0, 0, 0, 0, 0, 0, 0, 0, 0, 0, 0, 0, 0, 1, 1, 1, 2].getD i 0
def upTx (i : Nat) : Nat := [0, 0, 0, 0, 0, 0, 0, 0, 0, 0, 0, 0, 0, 0, 0, 1, 1, 1, 2, 2].getD i 0
theorem topV_nil {N : Nat} {w0 W : World} {R : Thing} (f : Value) (H : Lies N w0 W R) : Calls Try.prog 40 #[.pointer none, .agg #[.int .i64 0, .int .i64 0, .int .u64 0, .string ⟨#[]⟩, .slice none 0 0], f] W fun e w' => e = .returned (.tuple #[.agg #[.int .i64 0, .int .i64 0, .int .u64 0, .string ⟨#[]⟩, .slice none 0 0], .int .i64 1]) ∧ Lies N w0 w' R := by
  have H1 := (H.newBlk 30 #[.int .i64 0, .int .i64 0, .int .u64 0, .string ⟨#[]⟩, .slice none 0 0]).newBlk 30 #[.int .i64 0, .int .i64 0, .int .u64 0, .string ⟨#[]⟩, .slice none 0 0]
  have hsz : (W.alloc (.cells #[.int .i64 0, .int .i64 0, .int .u64 0, .string ⟨#[]⟩, .slice none 0 0] 30)).heap.size = W.heap.size + 1 := by simp
  rw [hsz] at H1
  have bx := (H1.drop).blk.1
  have x0 := bx.cell 0
  have x1 := bx.cell 1
  have x2 := bx.cell 2
  have x3 := bx.cell 3
  have x4 := bx.cell 4
  simp at x0 x1 x2 x3 x4
  have HH := Lib.hid H1
  clear H H1 bx
  go_enter Try.func40, Try.ntmps40
  go_wp2_with fail
  refine (none_nil _).mono ?_
  rintro e w' ⟨rfl, rfl⟩
  go_wp2
  have HE := HH.out
  refine bodyPost_ret (results_row_tmp rfl _ _ (W.heap.size + 1) 30 #[.int .i64 0, .int .i64 0, .int .u64 0, .string ⟨#[]⟩, .slice none 0 0] (0, 0) _ rfl HE.blk.1 Try.underlying30 rfl (by kernel_rfl)) rfl ?_
  exact ⟨rfl, HE.drop.drop⟩
set_option maxRecDepth 100000 in
theorem topV_unmade {N : Nat} {w0 W : World} {R : Thing} (p c0 c : Nat) (A : Option Addr) (most : Int) (f : Value) (h0 : most = 0) (H : Lies N w0 W (sepT (blkT p 71 #[.slice A c0 c, .int .i64 most]) R)) : Calls Try.prog 40 #[.pointer (some ⟨p, 0, none⟩), .agg #[.int .i64 0, .int .i64 0, .int .u64 0, .string ⟨#[]⟩, .slice none 0 0], f] W fun e w' => e = .returned (.tuple #[.agg #[.int .i64 0, .int .i64 0, .int .u64 0, .string ⟨#[]⟩, .slice none 0 0], .int .i64 1]) ∧ Lies N w0 w' (sepT (blkT p 71 #[.slice A c0 c, .int .i64 most]) R) := by
  have hm : (most == 0) = true := by simp [h0]
  have H1 := (H.newBlk 30 #[.int .i64 0, .int .i64 0, .int .u64 0, .string ⟨#[]⟩, .slice none 0 0]).newBlk 30 #[.int .i64 0, .int .i64 0, .int .u64 0, .string ⟨#[]⟩, .slice none 0 0]
  have hsz : (W.alloc (.cells #[.int .i64 0, .int .i64 0, .int .u64 0, .string ⟨#[]⟩, .slice none 0 0] 30)).heap.size = W.heap.size + 1 := by simp
  rw [hsz] at H1
  have bp := H1.drop.drop.blk.1
  have p0 := bp.cell 0
  have p1 := bp.cell 1
  simp at p0 p1
  have bx := (H1.drop).blk.1
  have x0 := bx.cell 0
  have x1 := bx.cell 1
  have x2 := bx.cell 2
  have x3 := bx.cell 3
  have x4 := bx.cell 4
  simp at x0 x1 x2 x3 x4
  have HH := Lib.hid H1
  clear H H1 bx bp
  go_enter Try.func40, Try.ntmps40
  go_wp2_with fail
  refine (none_at p most _ p1).mono ?_
  rintro e w' ⟨rfl, rfl⟩
  go_wp2
  have HE := HH.out
  refine bodyPost_ret (results_row_tmp rfl _ _ (W.heap.size + 1) 30 #[.int .i64 0, .int .i64 0, .int .u64 0, .string ⟨#[]⟩, .slice none 0 0] (0, 0) _ rfl HE.blk.1 Try.underlying30 rfl (by kernel_rfl)) rfl ?_
  exact ⟨rfl, HE.drop.drop⟩
set_option maxRecDepth 100000 in
theorem topV_empty {N : Nat} {w0 W : World} {R : Thing} (p c0 c : Nat) (A : Option Addr) (most : Int) (f : Value) (hm : (most == 0) = false) (hn : c0 = 0) (H : Lies N w0 W (sepT (blkT p 71 #[.slice A c0 c, .int .i64 most]) R)) : Calls Try.prog 40 #[.pointer (some ⟨p, 0, none⟩), .agg #[.int .i64 0, .int .i64 0, .int .u64 0, .string ⟨#[]⟩, .slice none 0 0], f] W fun e w' => e = .returned (.tuple #[.agg #[.int .i64 0, .int .i64 0, .int .u64 0, .string ⟨#[]⟩, .slice none 0 0], .int .i64 17]) ∧ Lies N w0 w' (sepT (blkT p 71 #[.slice A c0 c, .int .i64 most]) R) := by
  subst hn
  have H1 := (H.newBlk 30 #[.int .i64 0, .int .i64 0, .int .u64 0, .string ⟨#[]⟩, .slice none 0 0]).newBlk 30 #[.int .i64 0, .int .i64 0, .int .u64 0, .string ⟨#[]⟩, .slice none 0 0]
  have hsz : (W.alloc (.cells #[.int .i64 0, .int .i64 0, .int .u64 0, .string ⟨#[]⟩, .slice none 0 0] 30)).heap.size = W.heap.size + 1 := by simp
  rw [hsz] at H1
  have bp := H1.drop.drop.blk.1
  have p0 := bp.cell 0
  have p1 := bp.cell 1
  simp at p0 p1
  have bx := (H1.drop).blk.1
  have x0 := bx.cell 0
  have x1 := bx.cell 1
  have x2 := bx.cell 2
  have x3 := bx.cell 3
  have x4 := bx.cell 4
  simp at x0 x1 x2 x3 x4
  have HH := Lib.hid H1
  clear H H1 bx bp
  go_enter Try.func40, Try.ntmps40
  go_wp2_with fail
  refine (none_at p most _ p1).mono ?_
  rintro e w' ⟨rfl, rfl⟩
  go_wp2
  have HE := HH.out
  refine bodyPost_ret (results_row_tmp rfl _ _ (W.heap.size + 1) 30 #[.int .i64 0, .int .i64 0, .int .u64 0, .string ⟨#[]⟩, .slice none 0 0] (0, 0) _ rfl HE.blk.1 Try.underlying30 rfl (by kernel_rfl)) rfl ?_
  exact ⟨rfl, HE.drop.drop⟩
set_option maxRecDepth 100000 in
set_option maxHeartbeats 800000 in
theorem topV_call {N : Nat} {w0 W : World} {R S : Thing} {S' : Int → Int → Int → ByteArray → Option Addr → Nat → Nat → Value → Thing} (p g n c d : Nat) (most : Int) (fn : FuncId) (first cap : Array Value) (he : ∀ args (w : World), (callFunc fn args).run Try.prog w = .ok (.enter fn args) w) (hn : n ≤ 1000) (hm : (most == 0) = false)
    (hS : ∀ R' W', Lies N w0 W' (sepT S R') → W'.cell? ⟨p, 0, none⟩ = some (.slice (some ⟨g, 0, none⟩) (n + 1) c) ∧ W'.cell? ⟨p, 1, none⟩ = some (.int .i64 most) ∧ W'.cell? ⟨g, n, none⟩ = some (ptrV d))
    (H : Lies N w0 W (sepT S R)) (hc : ∀ R' W', Lies N w0 W' (sepT S R') → Calls Try.prog fn (first.push (ptrV d) ++ cap) W' fun e w' => ∃ (tag : Int) (num : Int) (bits : Int) (s : ByteArray) (ca : Option Addr) (cl : Nat) (cc : Nat) (z : Value), e = .returned (.tuple #[.agg #[.int .i64 tag, .int .i64 num, .int .u64 bits, .string s, .slice ca cl cc], z]) ∧ Lies N w0 w' (sepT (S' tag num bits s ca cl cc z) R')) :
    Calls Try.prog 40 #[.pointer (some ⟨p, 0, none⟩), .agg #[.int .i64 0, .int .i64 0, .int .u64 0, .string ⟨#[]⟩, .slice none 0 0], .func (.func fn) first cap] W fun e w' => ∃ (tag : Int) (num : Int) (bits : Int) (s : ByteArray) (ca : Option Addr) (cl : Nat) (cc : Nat) (z : Value), e = .returned (.tuple #[.agg #[.int .i64 tag, .int .i64 num, .int .u64 bits, .string s, .slice ca cl cc], z]) ∧ Lies N w0 w' (sepT (S' tag num bits s ca cl cc z) R) := by
  have H1 := ((H.newBlk 30 #[.int .i64 0, .int .i64 0, .int .u64 0, .string ⟨#[]⟩, .slice none 0 0]).newBlk 30 #[.int .i64 0, .int .i64 0, .int .u64 0, .string ⟨#[]⟩, .slice none 0 0])
  have hsz : (W.alloc (.cells #[.int .i64 0, .int .i64 0, .int .u64 0, .string ⟨#[]⟩, .slice none 0 0] 30)).heap.size = W.heap.size + 1 := by simp
  rw [hsz] at H1
  have H2 := H1.turn (a' := sepT S (sepT (blkT (W.heap.size + 1) 30 #[.int .i64 0, .int .i64 0, .int .u64 0, .string ⟨#[]⟩, .slice none 0 0]) (sepT (blkT W.heap.size 30 #[.int .i64 0, .int .i64 0, .int .u64 0, .string ⟨#[]⟩, .slice none 0 0]) R))) (by ac_rfl)
  obtain ⟨h0, h1, ht⟩ := hS _ _ H2
  have HC := Lib.hid (hc _ _ H2.drew)
  have hwr : IntKind.i64.wrap (n : Int) = (n : Int) := IntWalk.i64_in _ (by omega)
  have hnlt : (n : Int) < (n : Int) + 1 := by omega
  clear H H1 H2 hS hc
  go_enter Try.func40, Try.ntmps40
  go_wp2_with fail
  refine (none_at p most _ h1).mono ?_
  rintro e w' ⟨rfl, rfl⟩
  go_wp2_with fail
  refine wp_region_text [15, 18] loT upTx (by kernel_rfl) (by kernel_rfl) (by kernel_rfl) (by kernel_rfl) (by kernel_rfl) ?_
  repeat (refine wpTx_now (by rfl) (by rfl) (by rfl) (fun K hK => ?_); go_simp; refine hK _ ?_; clear hK K)
  refine wpTx_eff (by rfl) (fun K hK => ?_)
  go_simp
  refine HC.out.mono ?_
  rintro e w2 ⟨tag, num, bits, s, ca, cl, cc, z, rfl, h⟩
  refine ⟨_, rfl, hK _ _ (by simp [lateOK]) ?_⟩
  clear hK K HC
  have h2 := h.turn (a' := sepT (blkT (W.heap.size + 1) 30 #[.int .i64 0, .int .i64 0, .int .u64 0, .string ⟨#[]⟩, .slice none 0 0]) (sepT (S' tag num bits s ca cl cc z) (sepT (blkT W.heap.size 30 #[.int .i64 0, .int .i64 0, .int .u64 0, .string ⟨#[]⟩, .slice none 0 0]) R))) (by ac_rfl)
  have b1 := h2.blk.1
  have f1 := b1.frozen
  have y0 := b1.cell 0
  have y1 := b1.cell 1
  have y2 := b1.cell 2
  have y3 := b1.cell 3
  have y4 := b1.cell 4
  simp at y0 y1 y2 y3 y4
  have HH := Lib.hid h2
  clear h h2 b1
  repeat (refine wpTx_now (by rfl) (by rfl) (by rfl) (fun K hK => ?_); go_simp; refine hK _ ?_; clear hK K)
  refine wpTx_eff (by rfl) (fun K hK => ?_)
  go_simp
  refine hK _ _ (by simp [lateOK]) ?_
  clear hK K
  repeat (refine wpTx_now (by rfl) (by rfl) (by rfl) (fun K hK => ?_); go_simp; refine hK _ ?_; clear hK K)
  refine wpTx_nil ?_
  go_wp2_with fail
  have HE := (((((HH.out.setBlk 0 (.int .i64 tag)).setBlk 1 (.int .i64 num)).setBlk 2 (.int .u64 bits)).setBlk 3 (.string s)).setBlk 4 (.slice ca cl cc))
  refine bodyPost_ret (results_row_tmp rfl _ _ (W.heap.size + 1) 30 #[.int .i64 tag, .int .i64 num, .int .u64 bits, .string s, .slice ca cl cc] (0, 0) _ rfl HE.blk.1 Try.underlying30 rfl (by kernel_rfl)) rfl ?_
  exact ⟨tag, num, bits, s, ca, cl, cc, z, rfl, (HE.drop.turn (a' := sepT (blkT W.heap.size 30 #[.int .i64 0, .int .i64 0, .int .u64 0, .string ⟨#[]⟩, .slice none 0 0]) (sepT (S' tag num bits s ca cl cc z) R)) (by ac_rfl)).drop⟩
theorem topA_nil {N : Nat} {w0 W : World} {R : Thing} (f : Value) (H : Lies N w0 W R) : Calls Try.prog 64 #[.pointer none, .agg #[.int .i64 0, .int .i64 0], f] W fun e w' => e = .returned (.tuple #[.agg #[.int .i64 0, .int .i64 0], .int .i64 1]) ∧ Lies N w0 w' R := by
  have H1 := (H.newBlk 95 #[.int .i64 0, .int .i64 0]).newBlk 95 #[.int .i64 0, .int .i64 0]
  have hsz : (W.alloc (.cells #[.int .i64 0, .int .i64 0] 95)).heap.size = W.heap.size + 1 := by simp
  rw [hsz] at H1
  have bx := (H1.drop).blk.1
  have x0 := bx.cell 0
  have x1 := bx.cell 1
  simp at x0 x1
  have HH := Lib.hid H1
  clear H H1 bx
  go_enter Try.func64, Try.ntmps64
  go_wp2_with fail
  refine (none_nil _).mono ?_
  rintro e w' ⟨rfl, rfl⟩
  go_wp2
  have HE := HH.out
  refine bodyPost_ret (results_row_tmp rfl _ _ (W.heap.size + 1) 95 #[.int .i64 0, .int .i64 0] (0, 0) _ rfl HE.blk.1 Try.underlying95 rfl (by kernel_rfl)) rfl ?_
  exact ⟨rfl, HE.drop.drop⟩
set_option maxRecDepth 100000 in
theorem topA_unmade {N : Nat} {w0 W : World} {R : Thing} (p c0 c : Nat) (A : Option Addr) (most : Int) (f : Value) (h0 : most = 0) (H : Lies N w0 W (sepT (blkT p 71 #[.slice A c0 c, .int .i64 most]) R)) : Calls Try.prog 64 #[.pointer (some ⟨p, 0, none⟩), .agg #[.int .i64 0, .int .i64 0], f] W fun e w' => e = .returned (.tuple #[.agg #[.int .i64 0, .int .i64 0], .int .i64 1]) ∧ Lies N w0 w' (sepT (blkT p 71 #[.slice A c0 c, .int .i64 most]) R) := by
  have hm : (most == 0) = true := by simp [h0]
  have H1 := (H.newBlk 95 #[.int .i64 0, .int .i64 0]).newBlk 95 #[.int .i64 0, .int .i64 0]
  have hsz : (W.alloc (.cells #[.int .i64 0, .int .i64 0] 95)).heap.size = W.heap.size + 1 := by simp
  rw [hsz] at H1
  have bp := H1.drop.drop.blk.1
  have p0 := bp.cell 0
  have p1 := bp.cell 1
  simp at p0 p1
  have bx := (H1.drop).blk.1
  have x0 := bx.cell 0
  have x1 := bx.cell 1
  simp at x0 x1
  have HH := Lib.hid H1
  clear H H1 bx bp
  go_enter Try.func64, Try.ntmps64
  go_wp2_with fail
  refine (none_at p most _ p1).mono ?_
  rintro e w' ⟨rfl, rfl⟩
  go_wp2
  have HE := HH.out
  refine bodyPost_ret (results_row_tmp rfl _ _ (W.heap.size + 1) 95 #[.int .i64 0, .int .i64 0] (0, 0) _ rfl HE.blk.1 Try.underlying95 rfl (by kernel_rfl)) rfl ?_
  exact ⟨rfl, HE.drop.drop⟩
set_option maxRecDepth 100000 in
theorem topA_empty {N : Nat} {w0 W : World} {R : Thing} (p c0 c : Nat) (A : Option Addr) (most : Int) (f : Value) (hm : (most == 0) = false) (hn : c0 = 0) (H : Lies N w0 W (sepT (blkT p 71 #[.slice A c0 c, .int .i64 most]) R)) : Calls Try.prog 64 #[.pointer (some ⟨p, 0, none⟩), .agg #[.int .i64 0, .int .i64 0], f] W fun e w' => e = .returned (.tuple #[.agg #[.int .i64 0, .int .i64 0], .int .i64 17]) ∧ Lies N w0 w' (sepT (blkT p 71 #[.slice A c0 c, .int .i64 most]) R) := by
  subst hn
  have H1 := (H.newBlk 95 #[.int .i64 0, .int .i64 0]).newBlk 95 #[.int .i64 0, .int .i64 0]
  have hsz : (W.alloc (.cells #[.int .i64 0, .int .i64 0] 95)).heap.size = W.heap.size + 1 := by simp
  rw [hsz] at H1
  have bp := H1.drop.drop.blk.1
  have p0 := bp.cell 0
  have p1 := bp.cell 1
  simp at p0 p1
  have bx := (H1.drop).blk.1
  have x0 := bx.cell 0
  have x1 := bx.cell 1
  simp at x0 x1
  have HH := Lib.hid H1
  clear H H1 bx bp
  go_enter Try.func64, Try.ntmps64
  go_wp2_with fail
  refine (none_at p most _ p1).mono ?_
  rintro e w' ⟨rfl, rfl⟩
  go_wp2
  have HE := HH.out
  refine bodyPost_ret (results_row_tmp rfl _ _ (W.heap.size + 1) 95 #[.int .i64 0, .int .i64 0] (0, 0) _ rfl HE.blk.1 Try.underlying95 rfl (by kernel_rfl)) rfl ?_
  exact ⟨rfl, HE.drop.drop⟩
set_option maxRecDepth 100000 in
set_option maxHeartbeats 800000 in
theorem topA_call {N : Nat} {w0 W : World} {R S : Thing} {S' : Int → Int → Value → Thing} (p g n c d : Nat) (most : Int) (fn : FuncId) (first cap : Array Value) (he : ∀ args (w : World), (callFunc fn args).run Try.prog w = .ok (.enter fn args) w) (hn : n ≤ 1000) (hm : (most == 0) = false)
    (hS : ∀ R' W', Lies N w0 W' (sepT S R') → W'.cell? ⟨p, 0, none⟩ = some (.slice (some ⟨g, 0, none⟩) (n + 1) c) ∧ W'.cell? ⟨p, 1, none⟩ = some (.int .i64 most) ∧ W'.cell? ⟨g, n, none⟩ = some (ptrV d))
    (H : Lies N w0 W (sepT S R)) (hc : ∀ R' W', Lies N w0 W' (sepT S R') → Calls Try.prog fn (first.push (ptrV d) ++ cap) W' fun e w' => ∃ (m : Int) (k : Int) (z : Value), e = .returned (.tuple #[.agg #[.int .i64 m, .int .i64 k], z]) ∧ Lies N w0 w' (sepT (S' m k z) R')) :
    Calls Try.prog 64 #[.pointer (some ⟨p, 0, none⟩), .agg #[.int .i64 0, .int .i64 0], .func (.func fn) first cap] W fun e w' => ∃ (m : Int) (k : Int) (z : Value), e = .returned (.tuple #[.agg #[.int .i64 m, .int .i64 k], z]) ∧ Lies N w0 w' (sepT (S' m k z) R) := by
  have H1 := ((H.newBlk 95 #[.int .i64 0, .int .i64 0]).newBlk 95 #[.int .i64 0, .int .i64 0])
  have hsz : (W.alloc (.cells #[.int .i64 0, .int .i64 0] 95)).heap.size = W.heap.size + 1 := by simp
  rw [hsz] at H1
  have H2 := H1.turn (a' := sepT S (sepT (blkT (W.heap.size + 1) 95 #[.int .i64 0, .int .i64 0]) (sepT (blkT W.heap.size 95 #[.int .i64 0, .int .i64 0]) R))) (by ac_rfl)
  obtain ⟨h0, h1, ht⟩ := hS _ _ H2
  have HC := Lib.hid (hc _ _ H2.drew)
  have hwr : IntKind.i64.wrap (n : Int) = (n : Int) := IntWalk.i64_in _ (by omega)
  have hnlt : (n : Int) < (n : Int) + 1 := by omega
  clear H H1 H2 hS hc
  go_enter Try.func64, Try.ntmps64
  go_wp2_with fail
  refine (none_at p most _ h1).mono ?_
  rintro e w' ⟨rfl, rfl⟩
  go_wp2_with fail
  refine wp_region_text [15, 18] loT upTx (by kernel_rfl) (by kernel_rfl) (by kernel_rfl) (by kernel_rfl) (by kernel_rfl) ?_
  repeat (refine wpTx_now (by rfl) (by rfl) (by rfl) (fun K hK => ?_); go_simp; refine hK _ ?_; clear hK K)
  refine wpTx_eff (by rfl) (fun K hK => ?_)
  go_simp
  refine HC.out.mono ?_
  rintro e w2 ⟨m, k, z, rfl, h⟩
  refine ⟨_, rfl, hK _ _ (by simp [lateOK]) ?_⟩
  clear hK K HC
  have h2 := h.turn (a' := sepT (blkT (W.heap.size + 1) 95 #[.int .i64 0, .int .i64 0]) (sepT (S' m k z) (sepT (blkT W.heap.size 95 #[.int .i64 0, .int .i64 0]) R))) (by ac_rfl)
  have b1 := h2.blk.1
  have f1 := b1.frozen
  have y0 := b1.cell 0
  have y1 := b1.cell 1
  simp at y0 y1
  have HH := Lib.hid h2
  clear h h2 b1
  repeat (refine wpTx_now (by rfl) (by rfl) (by rfl) (fun K hK => ?_); go_simp; refine hK _ ?_; clear hK K)
  refine wpTx_eff (by rfl) (fun K hK => ?_)
  go_simp
  refine hK _ _ (by simp [lateOK]) ?_
  clear hK K
  repeat (refine wpTx_now (by rfl) (by rfl) (by rfl) (fun K hK => ?_); go_simp; refine hK _ ?_; clear hK K)
  refine wpTx_nil ?_
  go_wp2_with fail
  have HE := ((HH.out.setBlk 0 (.int .i64 m)).setBlk 1 (.int .i64 k))
  refine bodyPost_ret (results_row_tmp rfl _ _ (W.heap.size + 1) 95 #[.int .i64 m, .int .i64 k] (0, 0) _ rfl HE.blk.1 Try.underlying95 rfl (by kernel_rfl)) rfl ?_
  exact ⟨m, k, z, rfl, (HE.drop.turn (a' := sepT (blkT W.heap.size 95 #[.int .i64 0, .int .i64 0]) (sepT (S' m k z) R)) (by ac_rfl)).drop⟩
end Go.Proofs.Ytiaeckljpdhagaa
