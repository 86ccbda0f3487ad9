/- Push. -/
import Derived.Test.YtiaeckljpdhagaaFrJump
namespace Go.Proofs.Ytiaeckljpdhagaa
open Go.RowKit
attribute [local go_sem] Oper.semAt_some run_store_func run_store_nilFunc
def Cal.push (k : Cal) (v : Val) : Cal := if 5000 ≤ k.stack.length then k else { k with stack := k.stack ++ [v] }
def pushE (k : Cal) : Int := if 5000 ≤ k.stack.length then 12 else 0
def upP (i : Nat) : Nat := if i = 3 then 0 else 2
set_option maxRecDepth 100000 in
set_option maxHeartbeats 800000 in
theorem push1_any {N : Nat} {w0 W : World} {R : Thing} {c b : Nat} {k : Cal} {A : Option Addr} {cp : Nat} (v : Val) (H : Lies N w0 W (sepT (callT c k) R)) (hv : VIs W v (v.go (.slice A v.lay.length cp))) (hb : Blk W b 30 #[.int .i64 v.tag, .int .i64 v.n, .int .u64 v.bits, .string v.s, .slice A v.lay.length cp]) :
    Calls Try.prog 47 #[ptrV c, .pointer (some ⟨b, 0, none⟩)] W fun e w' => ∃ y z, e = .returned (.tuple #[y, z]) ∧ z = .int .i64 (pushE k) ∧ Lies N w0 w' (sepT (callT c (k.push v)) R) := by
  unfold ptrV
  obtain ⟨ss, ls, la, sa, hk, H⟩ := call_parts H
  have hsl : sa.length = k.stack.length := by rw [← hk.2.2, List.length_map]
  have hvk : v.ok := by obtain ⟨_, _, _, _, h⟩ := hv; exact h
  have c0 := H.blk.1.cell 0
  simp at c0
  have H2 : Lies N w0 W (sepT (blkT c 82 #[ss, .int .i64 k.number, .int .i64 k.place, ls]) (sepT (rowsT ss sa) (sepT (rowsT ls la) R))) := H.turn (by ac_rfl)
  have hrow : W.ownsRow 0 30 5 ss sa.length (avV sa) := (H2.turn (a' := sepT (rowT 30 5 ss sa.length (avV sa)) (sepT (chainsT sa) (sepT (blkT c 82 #[ss, .int .i64 k.number, .int .i64 k.place, ls]) (sepT (rowsT ls la) R)))) (by unfold rowsT; ac_rfl)).row
  obtain ⟨As, cs, rfl, _⟩ := own_form hrow
  by_cases hp : 5000 ≤ k.stack.length
  · have HE : Hid (pushE k = 12 ∧ k.push v = k) := ⟨if_pos hp, if_pos hp⟩
    have hp' : (5000 : Int) ≤ (sa.length : Int) := by omega
    have HH := Lib.hid (call_whole hk H)
    clear H H2 hk hrow hv hb
    go_enter Try.func47, Try.ntmps47
    go_wp2
    go_ret2
    rw [HE.out.1, HE.out.2]
    exact ⟨_, _, rfl, rfl, HH.out⟩
  · have HE : Hid (pushE k = 0 ∧ k.push v = { k with stack := k.stack ++ [v] }) := ⟨if_neg hp, if_neg hp⟩
    have hp' : ¬ (5000 : Int) ≤ (sa.length : Int) := by omega
    have hplan : Plan Try.prog W.drew (fun σ => ∃ x w' τ, (∃ ch, x = v.go ch ∧ Lies N w0 w' (sepT (blkT c 82 #[.slice As sa.length cs, .int .i64 k.number, .int .i64 k.place, ls]) (sepT (rowsT (.slice As sa.length cs) sa) (sepT (chainT v ch) (sepT (rowsT ls la) R))))) ∧
        (∃ y w2 τ', (y = .tuple #[] ∧ Lies N w0 w2 (sepT (callT c { k with stack := k.stack ++ [v] }) R)) ∧ τ' = [] ∧ τ = ⟨5, some (48, #[.pointer (some ⟨c, 0, none⟩), x]), y, w2⟩ :: τ') ∧ σ = ⟨4, some (39, #[v.go (.slice A v.lay.length cp)]), x, w'⟩ :: τ) := by
      refine .call 4 39 #[v.go (.slice A v.lay.length cp)] (fun x w' => ∃ ch, x = v.go ch ∧ Lies N w0 w' (sepT (blkT c 82 #[.slice As sa.length cs, .int .i64 k.number, .int .i64 k.place, ls]) (sepT (rowsT (.slice As sa.length cs) sa) (sepT (chainT v ch) (sepT (rowsT ls la) R)))))
        (fun x _ τ => ∃ y w2 τ', (y = .tuple #[] ∧ Lies N w0 w2 (sepT (callT c { k with stack := k.stack ++ [v] }) R)) ∧ τ' = [] ∧ τ = ⟨5, some (48, #[.pointer (some ⟨c, 0, none⟩), x]), y, w2⟩ :: τ') ?_ ?_
      · refine (own_any v _ W.drew hv).mono ?_
        rintro e w' ⟨ch, rfl, ho, hbe⟩
        exact ⟨_, rfl, ch, rfl, (H2.drew.newRow ho hbe).turn (by unfold chainT; ac_rfl)⟩
      · rintro x w' ⟨ch, rfl, h⟩
        refine .call 5 48 #[.pointer (some ⟨c, 0, none⟩), v.go ch] (fun y w2 => y = .tuple #[] ∧ Lies N w0 w2 (sepT (callT c { k with stack := k.stack ++ [v] }) R)) (fun _ _ => (· = [])) ?_ (fun _ w2 _ => .done w2)
        refine (pushV_any c _ _ _ _ ch sa v h (by omega)).mono ?_
        rintro e w2 ⟨rfl, sl', h2⟩
        refine ⟨_, rfl, rfl, call_whole (k := { k with stack := k.stack ++ [v] }) (ss := sl') (ls := ls) (la := la) (sa := sa ++ [(v, ch)]) ⟨⟨hk.1.1, ?_, hk.1.2.2.1, ?_⟩, hk.2.1, ?_⟩ (h2.turn (by ac_rfl))⟩
        · simp; omega
        · intro u hu
          simp at hu
          rcases hu with hu | rfl
          · exact hk.1.2.2.2 u hu
          · exact hvk
        · simp [hk.2.2]
    have HP := Lib.hid hplan
    have b0 := hb.cell 0
    have b1 := hb.cell 1
    have b2 := hb.cell 2
    have b3 := hb.cell 3
    have b4 := hb.cell 4
    obtain ⟨tag, n, bits, s, lay⟩ := v
    simp only [Val.go] at *
    clear H H2 hk hrow hv hb hplan
    go_enter Try.func47, Try.ntmps47
    go_wp2_with fail
    refine wp_region_plan [4, 5] upP _ HP.out (by kernel_rfl) (by kernel_rfl) (by kernel_rfl) (by kernel_rfl) (by decide) (by decide) ?_ ?_
    · rintro σ ⟨_, _, _, _, ⟨_, _, _, _, rfl, rfl⟩, rfl⟩; rfl
    intro σ hT hne
    obtain ⟨x, w4, _, ⟨ch, rfl, _⟩, ⟨y, w5, _, ⟨rfl, hfin⟩, rfl, rfl⟩, hσ⟩ := hT
    have lk : ∀ i, look σ i = if 4 = i then some ⟨4, some (39, #[.agg #[.int .i64 tag, .int .i64 n, .int .u64 bits, .string s, .slice A lay.length cp]]), .agg #[.int .i64 tag, .int .i64 n, .int .u64 bits, .string s, ch], w4⟩ else if 5 = i then some ⟨5, some (48, #[.pointer (some ⟨c, 0, none⟩), .agg #[.int .i64 tag, .int .i64 n, .int .u64 bits, .string s, ch]]), .tuple #[], w5⟩ else none := fun i => by rw [hσ]; rfl
    have l0 := lk 0; have l1 := lk 1; have l2 := lk 2; have l3 := lk 3; have l4 := lk 4; have l5 := lk 5
    simp only [Nat.reduceEqDiff, if_true, if_false] at l0 l1 l2 l3 l4 l5
    have n0 := hne 0; have n1 := hne 1; have n2 := hne 2; have n3 := hne 3; have n4 := hne 4; have n5 := hne 5
    have x0 : ∀ x : Pre upP W.drew σ 3, x.w.cell? ⟨b, 0, none⟩ = some (.int .i64 tag) := fun x => pn_fact (F := fun w => w.cell? ⟨b, 0, none⟩ = _) (by rw [hσ]; exact b0) l3 x
    have x1 : ∀ x : Pre upP W.drew σ 3, x.w.cell? ⟨b, 1, none⟩ = some (.int .i64 n) := fun x => pn_fact (F := fun w => w.cell? ⟨b, 1, none⟩ = _) (by rw [hσ]; exact b1) l3 x
    have x2 : ∀ x : Pre upP W.drew σ 3, x.w.cell? ⟨b, 2, none⟩ = some (.int .u64 bits) := fun x => pn_fact (F := fun w => w.cell? ⟨b, 2, none⟩ = _) (by rw [hσ]; exact b2) l3 x
    have x3 : ∀ x : Pre upP W.drew σ 3, x.w.cell? ⟨b, 3, none⟩ = some (.string s) := fun x => pn_fact (F := fun w => w.cell? ⟨b, 3, none⟩ = _) (by rw [hσ]; exact b3) l3 x
    have x4 : ∀ x : Pre upP W.drew σ 3, x.w.cell? ⟨b, 4, none⟩ = some (.slice A lay.length cp) := fun x => pn_fact (F := fun w => w.cell? ⟨b, 4, none⟩ = _) (by rw [hσ]; exact b4) l3 x
    have hlast : ∀ L : Array Bool, L.getD 4 true = true → L.getD 5 true = true → stageW W.drew σ L = w5 := fun L h4 h5 => by
      rw [stage_full, hσ]
      · rfl
      · rw [hσ]; intro c hc; simp at hc; rcases hc with rfl | rfl <;> assumption
    have HL := Lib.hid hlast
    have HF := Lib.hid hfin
    clear lk hσ hne hlast HP hfin b0 b1 b2 b3 b4
    repeat (refine wpPn_step (fun K hK => ?_); go_simp; refine hK _ ?_; clear hK K)
    refine wpPn_nil ?_
    rw [HL.out _ (by rfl) (by rfl)]
    go_wp2_with fail
    go_ret2
    rw [HE.out.1, HE.out.2]
    exact ⟨_, _, rfl, rfl, HF.out⟩
set_option maxRecDepth 100000 in
theorem push_any {N : Nat} {w0 W : World} {R : Thing} {p : Nat} {most : Int} {fr : List Cal} {k : Cal} (v : Val) (x : Value) (H : Lies N w0 W (sepT (framesT p most (fr ++ [k])) R)) (hv : VIs W v x) :
    Calls Try.prog 21 #[.pointer (some ⟨p, 0, none⟩), x] W fun e w' => e = .returned (.int .i64 (pushE k)) ∧ Lies N w0 w' (sepT (framesT p most (fr ++ [k.push v])) R) := by
  obtain ⟨A, cv, rfl, hr, hk⟩ := hv
  have hv : VIs W v (v.go (.slice A v.lay.length cv)) := ⟨A, cv, rfl, hr, hk⟩
  obtain ⟨g, cp, cs, c, hl, hm, H⟩ := frames_top (H.alloc (.cells #[.int .i64 v.tag, .int .i64 v.n, .int .u64 v.bits, .string v.s, .slice A v.lay.length cv] 30))
  obtain ⟨h0, h1, ht⟩ := frames_cells hl H
  have hm0 : (most == 0) = false := by simp; omega
  have hj := push1_any (b := W.heap.size) v H.drew ((hv.quiet (Only.alloc _ _ (.cells #[.int .i64 v.tag, .int .i64 v.n, .int .u64 v.bits, .string v.s, .slice A v.lay.length cv] 30))).quiet (Only.drew _ _)) (Blk.new W 30 #[.int .i64 v.tag, .int .i64 v.n, .int .u64 v.bits, .string v.s, .slice A v.lay.length cv])
  have HT := Lib.hid (topI_call p g fr.length cp c most (.int .i64 0) 47 #[] #[.pointer (some ⟨W.heap.size, 0, none⟩)] _ _ (fun _ _ => rfl) (by omega) hm0 h0 h1 ht hj)
  have hmf : ∀ fn first cap (w : World), (Instr.makeFunc fn first cap).run Try.prog w = .ok (.func fn first cap) w := fun _ _ _ _ => rfl
  have HM := Lib.hid hm
  clear H h0 h1 ht hm0 hj hm hv hr
  obtain ⟨tag, n, bits, s, lay⟩ := v
  simp only [Val.go] at *
  go_enter Try.func21, Try.ntmps21
  go_wp2_with fail
  refine HT.out.mono ?_
  rintro e w' ⟨y, z, rfl, rfl, h⟩
  have HL := Lib.hid (frames_untop hl HM.out h)
  clear h HT
  go_wp2_with fail
  go_ret
  exact ⟨rfl, HL.out⟩
/-- Without calls. -/
theorem frames_none {N : Nat} {w0 W : World} {R : Thing} {p : Nat} {most : Int} (H : Lies N w0 W (sepT (framesT p most []) R)) : ∃ A c, (1 ≤ most ∧ most ≤ 200) ∧ W.cell? ⟨p, 0, none⟩ = some (.slice A 0 c) ∧ W.cell? ⟨p, 1, none⟩ = some (.int .i64 most) := by
  obtain ⟨sl, cs, hl, hm, H⟩ := frames_parts H
  have h1 := H.blk.1
  obtain ⟨A, c, rfl, _⟩ := own_form H.drop.row
  exact ⟨A, c, ⟨hm.1, hm.2.1⟩, h1.cell 0, h1.cell 1⟩
set_option maxRecDepth 100000 in
theorem push_none {N : Nat} {w0 W : World} {R : Thing} {p : Nat} {most : Int} (v : Val) (x : Value) (H : Lies N w0 W (sepT (framesT p most []) R)) (hv : VIs W v x) :
    Calls Try.prog 21 #[.pointer (some ⟨p, 0, none⟩), x] W fun e w' => e = .returned (.int .i64 17) ∧ Lies N w0 w' (sepT (framesT p most []) R) := by
  obtain ⟨A, cv, rfl, hr, hk⟩ := hv
  have H1 := (H.alloc (.cells #[.int .i64 v.tag, .int .i64 v.n, .int .u64 v.bits, .string v.s, .slice A v.lay.length cv] 30))
  obtain ⟨As, c, hm, h0, h1⟩ := frames_none H1
  have hm0 : (most == 0) = false := by simp; omega
  have HT := Lib.hid (topI_empty p c As most (.int .i64 0) (.func (.func 47) #[] #[.pointer (some ⟨W.heap.size, 0, none⟩)]) _ hm0 h0 h1)
  have hmf : ∀ fn first cap (w : World), (Instr.makeFunc fn first cap).run Try.prog w = .ok (.func fn first cap) w := fun _ _ _ _ => rfl
  have HH := Lib.hid H1
  clear H h0 h1 hm0 hm hr H1
  obtain ⟨tag, n, bits, s, lay⟩ := v
  simp only [Val.go] at *
  go_enter Try.func21, Try.ntmps21
  go_wp2_with fail
  refine HT.out.mono ?_
  rintro e w' ⟨rfl, rfl⟩
  clear HT
  go_wp2_with fail
  go_ret
  exact ⟨rfl, HH.out⟩
end Go.Proofs.Ytiaeckljpdhagaa
