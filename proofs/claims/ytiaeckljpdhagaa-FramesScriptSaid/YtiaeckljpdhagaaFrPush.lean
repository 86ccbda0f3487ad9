/- stack.push at calls and at values. -/
import Derived.Test.YtiaeckljpdhagaaFrBase
namespace Go.Proofs.Ytiaeckljpdhagaa
open Go.RowKit
attribute [local go_sem] Oper.semAt_some run_store_func run_store_nilFunc
theorem new_reads (w : World) (e : TypeId) (size : Nat) (xs : List Value) (hs : xs.length = size) (A : Array Value) (hA : A.toList = xs) : Reads (w.alloc (.cells A e)) (w.heap.size + 1) size (some ⟨w.heap.size, 0, none⟩) 1 xs :=
  ⟨by omega, fun _ => ⟨_, rfl, Nat.lt_succ_self _, fun j u hu => by
    rw [Addr.add_lit, Nat.zero_add, (Blk.new w e A).cell j, ← hu, ← hA, Array.getElem?_toList]⟩⟩
set_option maxRecDepth 100000 in
set_option maxHeartbeats 800000 in
theorem pushC_any {N : Nat} {w0 W : World} {R : Thing} (p : Nat) (sl m : Value) (n c : Nat) (xs : List Value) (H : Lies N w0 W (sepT (blkT p 71 #[sl, m]) (sepT (rowT 78 1 sl n xs) R))) (hn : n ≤ 1000) :
    Calls Try.prog 43 #[.pointer (some ⟨p, 0, none⟩), ptrV c] W fun e w' => e = .returned (.tuple #[]) ∧ ∃ sl', Lies N w0 w' (sepT (blkT p 71 #[sl', m]) (sepT (rowT 78 1 sl' (n + 1) (xs ++ [ptrV c])) R)) := by
  have hb := H.blk.1
  have c0 := hb.cell 0
  have f0 := hb.frozen
  simp at c0
  have H2 : Lies N w0 W (sepT (rowT 78 1 sl n xs) (sepT (blkT p 71 #[sl, m]) R)) := H.turn (by ac_rfl)
  have hr := H2.row
  obtain ⟨A, cp, rfl, _⟩ := own_form hr
  obtain ⟨i0, hi0, hz0, hz1, hz2⟩ := info_parts infoC
  have HR := Lib.hid (hr.alloc (.cells #[ptrV c] 78))
  have HN := Lib.hid (new_reads W 78 1 [ptrV c] rfl #[ptrV c] rfl)
  have HL := Lib.hid (H2.alloc (.cells #[ptrV c] 78))
  clear H H2 hr hb
  unfold ptrV at *
  go_enter Try.func43, Try.ntmps43
  go_wp2_with (at_builtin; refine wpList_append_any _ rfl (.tmp 8) (.tmp 10) _ rfl 0 78 i0 _ 1 8 Try.underlying67 hi0 hz0 hz1 hz2 rfl (by decide) (.slice A n cp) n xs rfl HR.out (W.heap.size + 1) (some ⟨W.heap.size, 0, none⟩) 1 1 [.pointer (some ⟨c, 0, none⟩)] rfl HN.out (by intro u hu; simp at hu; subst hu; rfl) (by simp only [maxLen]; omega) (by omega) (by simp) ?_; intro v' w1 hown' hgrow hat; obtain ⟨A', c', rfl, _⟩ := own_form hown'; have HW := Lib.hid (HL.out.grown hown' hgrow hat); have hb := (HW.out.turn (a' := sepT (blkT p 71 #[.slice A n cp, m]) (sepT (rowT 78 1 (.slice A' (n + 1) c') (n + 1) (xs ++ [.pointer (some ⟨c, 0, none⟩)])) R)) (by ac_rfl)); have f1 := hb.blk.1.frozen; have c1 := hb.blk.1.cell 0; simp at c1; have HB := Lib.hid hb; clear hb HW hown' hgrow hat)
  go_end0
  exact ⟨rfl, _, (HB.out.setBlk 0 (.slice A' (n + 1) c'))⟩
def upV (i : Nat) : Nat := if i = 5 then 0 else if i = 4 then 1 else 3
set_option maxRecDepth 100000 in
set_option maxHeartbeats 800000 in
theorem pushV_any {N : Nat} {w0 W : World} {R : Thing} (c : Nat) (sl u1 u2 u3 ch : Value) (l : List AV) (v : Val) (H : Lies N w0 W (sepT (blkT c 82 #[sl, u1, u2, u3]) (sepT (rowsT sl l) (sepT (chainT v ch) R)))) (hn : l.length ≤ 5000) :
    Calls Try.prog 48 #[.pointer (some ⟨c, 0, none⟩), v.go ch] W fun e w' => e = .returned (.tuple #[]) ∧ ∃ sl', Lies N w0 w' (sepT (blkT c 82 #[sl', u1, u2, u3]) (sepT (rowsT sl' (l ++ [(v, ch)])) R)) := by
  obtain ⟨tag, n, bits, s, lay⟩ := v
  have hch : ∃ A' c', ch = .slice A' lay.length c' := by
    obtain ⟨A', c', h, _⟩ := own_form (H.turn (a' := sepT (rowT 104 3 ch lay.length (layV lay)) (sepT (blkT c 82 #[sl, u1, u2, u3]) (sepT (rowsT sl l) R))) (by unfold chainT; ac_rfl)).row
    exact ⟨A', c', h⟩
  obtain ⟨A', c', rfl⟩ := hch
  -- the worlds
  have H1 := (H.alloc (.cells #[.int .i64 tag, .int .i64 n, .int .u64 bits, .string s, .slice A' lay.length c'] 30)).drew
  have H2 := H1.alloc (.cells #[.int .i64 tag, .int .i64 n, .int .u64 bits, .string s, .slice A' lay.length c'] 30)
  have H3 : Lies N w0 _ (sepT (rowT 30 5 sl l.length (avV l)) (sepT (blkT c 82 #[sl, u1, u2, u3]) (sepT (chainsT l) (sepT (chainT ⟨tag, n, bits, s, lay⟩ (.slice A' lay.length c')) R)))) := H2.turn (by unfold rowsT; ac_rfl)
  have hr := H3.row
  obtain ⟨A, cp, rfl, _⟩ := own_form hr
  obtain ⟨i0, hi0, hz0, hz1, hz2⟩ := info_parts infoV
  obtain ⟨v', w2, hrun, hown, hgrow, hat⟩ := run_append_any (P := Try.prog) _ 0 31 31 30 i0 _ 5 64 Try.underlying31 hi0 hz0 hz1 hz2 rfl (by decide) _ _ _ hr _ (some ⟨(W.alloc (.cells #[.int .i64 tag, .int .i64 n, .int .u64 bits, .string s, .slice A' lay.length c'] 30)).drew.heap.size, 0, none⟩) 1 1 _
    (new_reads (W.alloc (.cells #[.int .i64 tag, .int .i64 n, .int .u64 bits, .string s, .slice A' lay.length c'] 30)).drew 30 5 [.int .i64 tag, .int .i64 n, .int .u64 bits, .string s, .slice A' lay.length c'] rfl #[.int .i64 tag, .int .i64 n, .int .u64 bits, .string s, .slice A' lay.length c'] rfl)
    (by intro u hu; simp at hu; rcases hu with rfl | rfl | rfl | rfl | rfl <;> rfl) (by simp only [maxLen]; omega) (by omega) (Nat.zero_le _)
  have hsz : (W.alloc (.cells #[.int .i64 tag, .int .i64 n, .int .u64 bits, .string s, .slice A' lay.length c'] 30)).drew.heap.size = W.heap.size + 1 := by simp
  rw [hsz] at hrun
  obtain ⟨A2, c2, rfl, _⟩ := own_form hown
  have H4 := H3.grown hown hgrow hat
  have H5 : Lies N w0 w2 (sepT (blkT c 82 #[.slice A l.length cp, u1, u2, u3]) (sepT (rowT 30 5 (.slice A2 (l.length + 1) c2) (l.length + 1) (avV l ++ [.int .i64 tag, .int .i64 n, .int .u64 bits, .string s, .slice A' lay.length c'])) (sepT (chainsT l) (sepT (chainT ⟨tag, n, bits, s, lay⟩ (.slice A' lay.length c')) R)))) := H4.turn (by ac_rfl)
  have H6 := H5.setBlk 0 (.slice A2 (l.length + 1) c2)
  have hfin : Lies N w0 (w2.setCell ⟨c, 0, none⟩ (.slice A2 (l.length + 1) c2)) (sepT (blkT c 82 #[.slice A2 (l.length + 1) c2, u1, u2, u3]) (sepT (rowsT (.slice A2 (l.length + 1) c2) (l ++ [(⟨tag, n, bits, s, lay⟩, .slice A' lay.length c')])) R)) := H6.turn (by
    unfold rowsT
    rw [avV_app, chainsT_app, List.length_append]
    show _ = sepT (blkT c 82 #[.slice A2 (l.length + 1) c2, u1, u2, u3]) (sepT (sepT (rowT 30 5 (.slice A2 (l.length + 1) c2) (l.length + 1) (avV l ++ [.int .i64 tag, .int .i64 n, .int .u64 bits, .string s, .slice A' lay.length c'])) (sepT (chainsT l) (sepT (chainT ⟨tag, n, bits, s, lay⟩ (.slice A' lay.length c')) empT))) R)
    rw [sep_empT]
    show sepT (blkT c 82 #[.slice A2 (l.length + 1) c2, u1, u2, u3]) _ = _
    ac_rfl)
  have cA : ∀ j, (Blk.cell (Blk.new W 30 #[.int .i64 tag, .int .i64 n, .int .u64 bits, .string s, .slice A' lay.length c']) j) = (Blk.cell (Blk.new W 30 #[.int .i64 tag, .int .i64 n, .int .u64 bits, .string s, .slice A' lay.length c']) j) := fun _ => rfl
  have b1 := H1.blk.1.cell 0
  have b2 := H2.blk.1.cell 0
  have b5 := H5.blk.1.cell 0
  have f5 := H5.blk.1.frozen 0
  simp at b1 b2 b5
  clear cA H H1 H2 H3 H4 H5 H6 hr hown hgrow hat
  have HF := Lib.hid hfin
  clear hfin
  simp only [Val.go]
  go_enter Try.func48, Try.ntmps48
  go_wp2_with fail
  refine wp_region_plan [6, 7, 10] upV _ (.own 6 (.slice (some ⟨W.heap.size + 1, 0, none⟩) 1 1) ((W.alloc (.cells #[.int .i64 tag, .int .i64 n, .int .u64 bits, .string s, .slice A' lay.length c'] 30)).drew.alloc (.cells #[.int .i64 tag, .int .i64 n, .int .u64 bits, .string s, .slice A' lay.length c'] 30)) _ (.own 7 (.slice A2 (l.length + 1) c2) w2 _ (.own 10 undef (w2.setCell ⟨c, 0, none⟩ (.slice A2 (l.length + 1) c2)) _ (.done _)))) (by kernel_rfl) (by kernel_rfl) (by kernel_rfl) (by kernel_rfl) (by decide) (by decide) ?_ ?_
  · rintro σ ⟨_, ⟨_, ⟨_, rfl, rfl⟩, rfl⟩, rfl⟩; rfl
  intro σ hT hne
  have hσ : σ = [⟨6, none, .slice (some ⟨W.heap.size + 1, 0, none⟩) 1 1, (W.alloc (.cells #[.int .i64 tag, .int .i64 n, .int .u64 bits, .string s, .slice A' lay.length c'] 30)).drew.alloc (.cells #[.int .i64 tag, .int .i64 n, .int .u64 bits, .string s, .slice A' lay.length c'] 30)⟩, ⟨7, none, .slice A2 (l.length + 1) c2, w2⟩, ⟨10, none, undef, w2.setCell ⟨c, 0, none⟩ (.slice A2 (l.length + 1) c2)⟩] := by
    obtain ⟨_, ⟨_, ⟨_, rfl, rfl⟩, rfl⟩, rfl⟩ := hT
    rfl
  clear hT
  have lk : ∀ i, look σ i = if 6 = i then some ⟨6, none, .slice (some ⟨W.heap.size + 1, 0, none⟩) 1 1, (W.alloc (.cells #[.int .i64 tag, .int .i64 n, .int .u64 bits, .string s, .slice A' lay.length c'] 30)).drew.alloc (.cells #[.int .i64 tag, .int .i64 n, .int .u64 bits, .string s, .slice A' lay.length c'] 30)⟩ else if 7 = i then some ⟨7, none, .slice A2 (l.length + 1) c2, w2⟩ else if 10 = i then some ⟨10, none, undef, w2.setCell ⟨c, 0, none⟩ (.slice A2 (l.length + 1) c2)⟩ else none := fun i => by rw [hσ]; rfl
  have l0 := lk 0; have l1 := lk 1; have l2 := lk 2; have l3 := lk 3; have l4 := lk 4; have l5 := lk 5; have l6 := lk 6; have l7 := lk 7; have l8 := lk 8; have l9 := lk 9; have l10 := lk 10
  clear lk
  simp only [Nat.reduceEqDiff, if_true, if_false] at l0 l1 l2 l3 l4 l5 l6 l7 l8 l9 l10
  have hx4 : ∀ x : Pre upV (W.alloc (.cells #[.int .i64 tag, .int .i64 n, .int .u64 bits, .string s, .slice A' lay.length c'] 30)).drew σ 4, x.w.cell? ⟨c, 0, none⟩ = some (.slice A l.length cp) := fun x => pn_fact (F := fun w => w.cell? ⟨c, 0, none⟩ = some (.slice A l.length cp)) (by rw [hσ]; exact ⟨b1, b2⟩) l4 x
  have ca := Blk.cell (Blk.new W 30 #[.int .i64 tag, .int .i64 n, .int .u64 bits, .string s, .slice A' lay.length c']).drew
  have a0 := ca 0
  have a1 := ca 1
  have a2 := ca 2
  have a3 := ca 3
  have a4 := ca 4
  clear ca
  have hy0 : ∀ x : Pre upV (W.alloc (.cells #[.int .i64 tag, .int .i64 n, .int .u64 bits, .string s, .slice A' lay.length c'] 30)).drew σ 5, x.w.cell? ⟨W.heap.size, 0, none⟩ = some (.int .i64 tag) := fun x => pn_fact (F := fun w => w.cell? ⟨W.heap.size, 0, none⟩ = some (.int .i64 tag)) (by rw [hσ]; exact a0) l5 x
  have hy1 : ∀ x : Pre upV (W.alloc (.cells #[.int .i64 tag, .int .i64 n, .int .u64 bits, .string s, .slice A' lay.length c'] 30)).drew σ 5, x.w.cell? ⟨W.heap.size, 1, none⟩ = some (.int .i64 n) := fun x => pn_fact (F := fun w => w.cell? ⟨W.heap.size, 1, none⟩ = some (.int .i64 n)) (by rw [hσ]; exact a1) l5 x
  have hy2 : ∀ x : Pre upV (W.alloc (.cells #[.int .i64 tag, .int .i64 n, .int .u64 bits, .string s, .slice A' lay.length c'] 30)).drew σ 5, x.w.cell? ⟨W.heap.size, 2, none⟩ = some (.int .u64 bits) := fun x => pn_fact (F := fun w => w.cell? ⟨W.heap.size, 2, none⟩ = some (.int .u64 bits)) (by rw [hσ]; exact a2) l5 x
  have hy3 : ∀ x : Pre upV (W.alloc (.cells #[.int .i64 tag, .int .i64 n, .int .u64 bits, .string s, .slice A' lay.length c'] 30)).drew σ 5, x.w.cell? ⟨W.heap.size, 3, none⟩ = some (.string s) := fun x => pn_fact (F := fun w => w.cell? ⟨W.heap.size, 3, none⟩ = some (.string s)) (by rw [hσ]; exact a3) l5 x
  have hy4 : ∀ x : Pre upV (W.alloc (.cells #[.int .i64 tag, .int .i64 n, .int .u64 bits, .string s, .slice A' lay.length c'] 30)).drew σ 5, x.w.cell? ⟨W.heap.size, 4, none⟩ = some (.slice A' lay.length c') := fun x => pn_fact (F := fun w => w.cell? ⟨W.heap.size, 4, none⟩ = some (.slice A' lay.length c')) (by rw [hσ]; exact a4) l5 x
  have e6 : ∀ x : Pre upV (W.alloc (.cells #[.int .i64 tag, .int .i64 n, .int .u64 bits, .string s, .slice A' lay.length c'] 30)).drew σ 6, x.w = (W.alloc (.cells #[.int .i64 tag, .int .i64 n, .int .u64 bits, .string s, .slice A' lay.length c'] 30)).drew := fun x => (pn_at l6 x).trans (by rw [hσ]; rfl)
  have e10 : ∀ x : Pre upV (W.alloc (.cells #[.int .i64 tag, .int .i64 n, .int .u64 bits, .string s, .slice A' lay.length c'] 30)).drew σ 10, x.w = w2 := fun x => (pn_at l10 x).trans (by rw [hσ]; rfl)
  have hp7 : prevW (W.alloc (.cells #[.int .i64 tag, .int .i64 n, .int .u64 bits, .string s, .slice A' lay.length c'] 30)).drew σ 7 = (W.alloc (.cells #[.int .i64 tag, .int .i64 n, .int .u64 bits, .string s, .slice A' lay.length c'] 30)).drew.alloc (.cells #[.int .i64 tag, .int .i64 n, .int .u64 bits, .string s, .slice A' lay.length c'] 30) := by rw [hσ]; rfl
  have n0 := hne 0; have n1 := hne 1; have n2 := hne 2; have n3 := hne 3; have n4 := hne 4; have n5 := hne 5; have n6 := hne 6; have n7 := hne 7; have n8 := hne 8; have n9 := hne 9; have n10 := hne 10
  have hlast : ∀ L : Array Bool, L.getD 6 true = true → L.getD 7 true = true → L.getD 10 true = true → stageW (W.alloc (.cells #[.int .i64 tag, .int .i64 n, .int .u64 bits, .string s, .slice A' lay.length c'] 30)).drew σ L = w2.setCell ⟨c, 0, none⟩ (.slice A2 (l.length + 1) c2) := fun L h6 h7 h10 => by
    rw [stage_full, hσ]
    · rfl
    · rw [hσ]; intro c hc; simp at hc; rcases hc with rfl | rfl | rfl <;> assumption
  have HR := Lib.hid hrun
  have HP := Lib.hid hp7
  have HL := Lib.hid hlast
  clear hσ hne hrun hp7 hlast a0 a1 a2 a3 a4
  repeat (refine wpPn_step (fun K hK => ?_); go_simp; refine hK _ ?_; clear hK K)
  refine wpPn_step (fun K hK => ?_)
  refine (if_pos (c := _ = true) (by rfl)).mpr ?_
  refine ⟨_, fun x => pn_append (j := 7) rfl l7 rfl (.tmp 8) (.tmp 10) 31 31 rfl rfl rfl rfl HP.out HR.out x, hK _ ?_⟩
  clear hK K
  repeat (refine wpPn_step (fun K hK => ?_); go_simp; refine hK _ ?_; clear hK K)
  refine wpPn_nil ?_
  rw [HL.out _ (by rfl) (by rfl) (by rfl)]
  go_end0
  exact ⟨rfl, _, HF.out⟩
end Go.Proofs.Ytiaeckljpdhagaa
