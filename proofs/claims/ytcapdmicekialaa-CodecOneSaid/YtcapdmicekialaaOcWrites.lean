/- OctetWrites, walked. -/
import Derived.Test.YtcapdmicekialaaOcAwake
import Derived.Test.YtcapdmicekialaaPhase
namespace Go.Proofs.Ytcapdmicekialaa
open Go.RowKit
attribute [local go_sem] Oper.semAt_some run_store_func run_store_nilFunc
/-- An item of the law: its kind, its number, its text. -/
structure Item where
  k : Int
  n : Int
  s : ByteArray
/-- The items of a list, as they lie in memory. -/
structure ItemsAt (w : World) (b off : Nat) (its : List Item) : Prop where
  k : ∀ (i : Nat) (h : i < its.length), w.cell? ⟨b, off + i * 3, none⟩ = some (.int .i64 its[i].k)
  n : ∀ (i : Nat) (h : i < its.length), w.cell? ⟨b, off + i * 3 + 1, none⟩ = some (.int .i64 its[i].n)
  s : ∀ (i : Nat) (h : i < its.length), w.cell? ⟨b, off + i * 3 + 2, none⟩ = some (.string its[i].s)
/-- A slice of items. -/
def Items (w : World) (A : Option Addr) (its : List Item) : Prop := 0 < its.length → ∃ b off, A = some ⟨b, off, none⟩ ∧ b < w.heap.size ∧ ItemsAt w b off its
/-- What is known of each item. -/
def ItemsOk (its : List Item) : Prop := ∀ (i : Nat) (h : i < its.length), -9223372036854775808 ≤ its[i].n ∧ its[i].n ≤ 9223372036854775807
theorem ItemsAt.below {w w' : World} {b off k : Nat} {its : List Item} (h : ItemsAt w b off its) (hb : Below k w w') (hk : b < k) : ItemsAt w' b off its :=
  ⟨fun i hi => (hb.cell (p := ⟨b, off + i * 3, none⟩) hk).trans (h.k i hi), fun i hi => (hb.cell (p := ⟨b, off + i * 3 + 1, none⟩) hk).trans (h.n i hi), fun i hi => (hb.cell (p := ⟨b, off + i * 3 + 2, none⟩) hk).trans (h.s i hi)⟩
def RetLong (its : List Item) (w : World) (e : Ending) (w' : World) : Prop := ∃ r : Bool, e = .returned (.bool r) ∧ w = w' ∧ (r = false → its.length ≤ 40 ∧ ∀ (i : Nat) (h : i < its.length), its[i].s.size ≤ 100)
set_option maxHeartbeats 800000 in
theorem long_any (A : Option Addr) (c : Nat) (its : List Item) (w : World) (hit : Items w A its) (hl : its.length ≤ 140737488351232) : Calls Try.prog 13 #[.slice A its.length c] w (RetLong its w) := by
  have HI := Lib.hid hit
  clear hit
  go_enter Try.func13, Try.ntmps13
  go_wp2_with fail
  go_loop [3] (fun v => ∃ i : Nat, v = .int .i64 i ∧ i ≤ its.length ∧ i ≤ 41 ∧ ∀ (j : Nat) (h : j < its.length), j < i → its[j].s.size ≤ 100) (fun v => its.length - (intOf v).toNat)
  case atStart => exact ⟨0, rfl, Nat.zero_le _, by decide, fun j h hj => absurd hj (Nat.not_lt_zero _)⟩
  case round =>
    obtain ⟨i, rfl, hi, hj, hall⟩ := hrel
    have HA := Lib.hid hall
    clear hall
    by_cases hlt : i < its.length
    · have hlt' : (i : Int) < (its.length : Int) := by omega
      by_cases h41 : (i : Int) < 41
      · obtain ⟨b, off, rfl, hb, hat⟩ := HI.out (by omega)
        have hc := hat.s i hlt
        by_cases h100 : (100 : Int) < (its[i].s.size : Int)
        · go_wp2_with fail
          go_ret
          exact ⟨true, rfl, rfl, fun h => by cases h⟩
        · go_wp2_with fail
          refine ⟨⟨i + 1, by go_num, by omega, by omega, fun j h hj => ?_⟩, by simp [intOf]; omega⟩
          rcases Nat.lt_or_ge j i with k | k
          · exact HA.out j h k
          · obtain rfl : j = i := by omega
            omega
      · have h40 : (40 : Int) < (its.length : Int) := by omega
        go_wp2_with fail
        go_ret
        exact ⟨true, by simp, rfl, fun h => by cases h⟩
    · have hlt' : ¬ (i : Int) < (its.length : Int) := by omega
      by_cases h40 : (40 : Int) < (its.length : Int)
      · go_wp2_with fail
        go_ret
        exact ⟨true, by simp, rfl, fun h => by cases h⟩
      · go_wp2_with fail
        go_ret
        exact ⟨false, by simp, rfl, fun _ => ⟨by omega, fun j h => HA.out j h (by omega)⟩⟩
theorem Hold.len {N : Nat} {w0 W : World} {l : List Thing} (H : Hold N w0 W l) (i : Nat) {p : Nat} {most : Int} {r : List UInt8 × Int} (hi : l[i]? = some (wrT p most r)) : r.1.length ≤ 2147483647 := by
  obtain ⟨F, ⟨v, hv, rfl⟩, _⟩ := H.get i _ hi
  have h1 := hv.m1
  have h2 := hv.m2
  omega
/-- Both writers, each behind an item or still ahead of it. -/
def PairR (N : Nat) (w0 : World) (p q : Nat) (most : Int) (r r' : List UInt8 × Int) (d1 d2 : Bool) (W : World) : Prop := Hold N w0 W [wrT p most (if d1 then r' else r), rwT q most (if d2 then r' else r)]
theorem PairR.w {N : Nat} {w0 : World} {p q : Nat} {most : Int} {r r' : List UInt8 × Int} {f : FuncId} {args : Array Value} (h : ∀ W l, Hold N w0 W l → l[0]? = some (wrT p most r) → Calls Try.prog f args W fun e W' => e = .returned (.int .i64 r'.2) ∧ Hold N w0 W' (l.set 0 (wrT p most r'))) :
    ∀ d W, PairR N w0 p q most r r' false d W → Calls Try.prog f args W fun e W' => e = .returned (.int .i64 r'.2) ∧ PairR N w0 p q most r r' true d W' := fun _ W H => h W _ H rfl
theorem PairR.x {N : Nat} {w0 : World} {p q : Nat} {most : Int} {r r' : List UInt8 × Int} {f : FuncId} {args : Array Value} (h : ∀ W l, Hold N w0 W l → l[1]? = some (rwT q most r) → Calls Try.prog f args W fun e W' => e = .returned (.int .i64 r'.2) ∧ Hold N w0 W' (l.set 1 (rwT q most r'))) :
    ∀ d W, PairR N w0 p q most r r' d false W → Calls Try.prog f args W fun e W' => e = .returned (.int .i64 r'.2) ∧ PairR N w0 p q most r r' d true W' := fun _ W H => h W _ H rfl
theorem PairR.cell {N : Nat} {w0 : World} {p q : Nat} {most : Int} {r r' : List UInt8 × Int} {i j : Nat} {a : Addr} {v : Value} (ha : a.block < N) (hc : w0.cell? a = some v) (k : Nat) (x : Still (two i j (PairR N w0 p q most r r')) k) : x.w.cell? a = some v :=
  two_fact (F := fun W => W.cell? a = some v) (fun _ _ _ H => (H.old ha).trans hc) x
set_option maxRecDepth 100000 in
set_option maxHeartbeats 3200000 in
theorem writes_short (most : Int) (A : Option Addr) (c : Nat) (its : List Item) (w : World) (hit : Items w A its) (hok : ItemsOk its) (hl : its.length ≤ 140737488351232) (hm0 : 0 ≤ most) (hm1 : most ≤ 1048576) :
    Calls Try.prog 3 #[.int .i64 most, .slice A its.length c] w (RetBw (.bool true) w) := by
  have H := Lib.hid (Hold.nil w)
  have HI := Lib.hid hit
  have HK := Lib.hid hok
  clear hit hok
  go_enter Try.func3, Try.ntmps3
  go_wp2_with fail
  refine (H.out.wnew most hm0 hm1).mono ?_
  clear H
  rintro e w1 ⟨p, rfl, h⟩
  have H := Lib.hid h
  clear h
  go_wp2_with fail
  refine (H.out.xnew most hm0 hm1).mono ?_
  clear H
  rintro e w2 ⟨q, rfl, h⟩
  have H := Lib.hid h
  clear h
  have HI2 : Hid (Items w2 A its) := fun hp => by
    obtain ⟨b, off, hA, hb, hat⟩ := HI.out hp
    exact ⟨b, off, hA, by have := H.out.below.size; omega, hat.below H.out.below hb⟩
  go_wp2_with fail
  refine (long_any A c its w2 HI2.out hl).mono ?_
  rintro e w' ⟨r, rfl, rfl, hr⟩
  have HR := Lib.hid hr
  clear hr
  cases r with
  | true =>
    go_wp2_with fail
    refine (awake_yes w2).mono ?_
    rintro e w3 ⟨rfl, hb⟩
    go_wp2_with fail
    go_ret
    exact ⟨rfl, H.out.below.trans (hb.mono H.out.size)⟩
  | false =>
    have h40 := (HR.out rfl).1
    go_wp2_with fail
    go_loopw [9] (fun x wr => ∃ (i : Nat) (r : List UInt8 × Int), x = .int .i64 i ∧ i ≤ its.length ∧ Hold w.heap.size w wr [wrT p most r, rwT q most r]) (fun x wr => its.length - (intOf x).toNat)
    case atStart => exact ⟨0, _, rfl, Nat.zero_le _, H.out⟩
    case round =>
      obtain ⟨i, r, rfl, hi, hh⟩ := hrel
      clear H HI2
      have H := Lib.hid hh
      clear hh
      by_cases hlt : i < its.length
      · have hlt' : (i : Int) < (its.length : Int) := by omega
        obtain ⟨b, off, rfl, hb, hat⟩ := HI.out (by omega)
        obtain ⟨k0, k1⟩ := HK.out i hlt
        have k2 : its[i].s.size ≤ 140737488351232 := Nat.le_trans ((HR.out trivial).2 i hlt) (by decide)
        have hck := (H.out.old (a := ⟨b, off + i * 3, none⟩) hb).trans (hat.k i hlt)
        have HCN := Lib.hid (hat.n i hlt)
        have HCS := Lib.hid (hat.s i hlt)
        clear hat
        generalize its[i].k = kk at *
        generalize its[i].n = nn at *
        generalize its[i].s = ss at *
        by_cases hk0 : kk = 0
        · subst hk0
          go_wp2_with fail
          have hnn := fun k => PairR.cell (i := 6) (j := 13) (p := p) (q := q) (most := most) (r := r) (r' := wrNum most r.1 r.2 nn) (N := w.heap.size) (a := ⟨b, off + i * 3 + 1, none⟩) hb HCN.out k
          refine wp_region_phase (two 6 13 (PairR w.heap.size w p q most r (wrNum most r.1 r.2 nn))) [6, 13] (two_looks _ _ _) (by kernel_rfl) (by kernel_rfl) H.out.drew ?_
          intro hne
          have n0 := hne 0 (by decide); have n1 := hne 1 (by decide); have n2 := hne 2 (by decide); have n3 := hne 3 (by decide); have n4 := hne 4 (by decide); have n5 := hne 5 (by decide); have n6 := hne 6 (by decide); have n7 := hne 7 (by decide); have n8 := hne 8 (by decide); have n9 := hne 9 (by decide); have n10 := hne 10 (by decide); have n11 := hne 11 (by decide); have n12 := hne 12 (by decide); have n13 := hne 13 (by decide); have n14 := hne 14 (by decide); have n15 := hne 15 (by decide)
          clear hne
          repeat (refine wpPhase_step (fun K hK => ?_); go_simp; refine hK _ ?_; clear hK K)
          refine wpPhase_step (fun K hK => ?_)
          go_simp
          refine ⟨_, fun x => two_call1 (by decide) x (PairR.w (fun W l H hl => H.wnum 0 hl nn k0 k1)), hK _ ?_⟩
          clear hK K
          repeat (refine wpPhase_step (fun K hK => ?_); go_simp; refine hK _ ?_; clear hK K)
          refine wpPhase_step (fun K hK => ?_)
          go_simp
          refine ⟨_, fun x => two_call2 (by decide) x (PairR.x (fun W l H hl => H.xnum 1 hl nn k0 k1)), hK _ ?_⟩
          clear hK K
          repeat (refine wpPhase_step (fun K hK => ?_); go_simp; refine hK _ ?_; clear hK K)
          refine wpPhase_nil ?_
          intro w4 h4
          have h5 : PairR w.heap.size w p q most r (wrNum most r.1 r.2 nn) true true w4 := h4
          have h6 : Hold w.heap.size w w4 [wrT p most (wrNum most r.1 r.2 nn), rwT q most (wrNum most r.1 r.2 nn)] := h5
          clear h4 h5 hnn H
          clear n0 n1 n2 n3 n4 n5 n6 n7 n8 n9 n10 n11 n12 n13 n14 n15
          have H := Lib.hid h6
          clear h6
          generalize wrNum most r.1 r.2 nn = r2 at *
          have hbl := H.out.len 0 rfl
          have hsz : (if r2.2 = 0 then r2.1 else []).length ≤ 140737488355328 := by
            split
            · omega
            · exact Nat.zero_le _
          have HBS : Hid ((if r2.2 = 0 then r2.1 else []) = (if r2.2 = 0 then r2.1 else [])) := Lib.hid rfl
          have hw := H.out.wbytes 0 rfl
          have hx := fun (W : World) (l : List Thing) (K : Hold w.heap.size w W l) (hi : l[1]? = some (rwT q most r2)) => K.xbytes 1 hi
          generalize (if r2.2 = 0 then r2.1 else []) = bs at *
          have HW := Lib.hid hw
          have HX := Lib.hid hx
          clear hw hx HBS hbl
          go_wp2_with fail
          refine HW.out.mono ?_
          clear H HW
          rintro e w5 ⟨A1, c1, rfl, h, _⟩
          have H := Lib.hid h
          clear h
          go_wp2_with fail
          refine (HX.out _ _ H.out rfl).mono ?_
          clear H
          rintro e w6 ⟨A2, c2, rfl, h, _⟩
          have H := Lib.hid h
          clear h
          go_wp2_with fail
          refine (same_any A1 A2 c1 c2 bs bs w6 (H.out.reads 2 rfl) (H.out.reads 3 rfl)).mono ?_
          rintro e w' ⟨rfl, rfl⟩
          have hds : decide (bs = bs) = true := decide_eq_true rfl
          go_wp2_with fail
          refine (H.out.over 2 rfl hsz).mono ?_
          clear H
          rintro e w7 ⟨rfl, h⟩
          have H := Lib.hid (h.take 2)
          clear h
          go_wp2_with fail
          exact ⟨⟨i + 1, r2, by go_num, by omega, H.out⟩, by simp [intOf]; omega⟩
        · have hk0' : (kk == 0) = false := by simpa using hk0
          by_cases hk1 : kk = 1
          · subst hk1
            go_wp2_with fail
            have hnn := fun k => PairR.cell (i := 6) (j := 13) (p := p) (q := q) (most := most) (r := r) (r' := wrWhole most r.1 r.2 nn) (N := w.heap.size) (a := ⟨b, off + i * 3 + 1, none⟩) hb HCN.out k
            refine wp_region_phase (two 6 13 (PairR w.heap.size w p q most r (wrWhole most r.1 r.2 nn))) [6, 13] (two_looks _ _ _) (by kernel_rfl) (by kernel_rfl) H.out.drew ?_
            intro hne
            have n0 := hne 0 (by decide); have n1 := hne 1 (by decide); have n2 := hne 2 (by decide); have n3 := hne 3 (by decide); have n4 := hne 4 (by decide); have n5 := hne 5 (by decide); have n6 := hne 6 (by decide); have n7 := hne 7 (by decide); have n8 := hne 8 (by decide); have n9 := hne 9 (by decide); have n10 := hne 10 (by decide); have n11 := hne 11 (by decide); have n12 := hne 12 (by decide); have n13 := hne 13 (by decide); have n14 := hne 14 (by decide); have n15 := hne 15 (by decide)
            clear hne
            repeat (refine wpPhase_step (fun K hK => ?_); go_simp; refine hK _ ?_; clear hK K)
            refine wpPhase_step (fun K hK => ?_)
            go_simp
            refine ⟨_, fun x => two_call1 (by decide) x (PairR.w (fun W l H hl => H.wwhole 0 hl nn k0 k1)), hK _ ?_⟩
            clear hK K
            repeat (refine wpPhase_step (fun K hK => ?_); go_simp; refine hK _ ?_; clear hK K)
            refine wpPhase_step (fun K hK => ?_)
            go_simp
            refine ⟨_, fun x => two_call2 (by decide) x (PairR.x (fun W l H hl => H.xwhole 1 hl nn k0 k1)), hK _ ?_⟩
            clear hK K
            repeat (refine wpPhase_step (fun K hK => ?_); go_simp; refine hK _ ?_; clear hK K)
            refine wpPhase_nil ?_
            intro w4 h4
            have h5 : PairR w.heap.size w p q most r (wrWhole most r.1 r.2 nn) true true w4 := h4
            have h6 : Hold w.heap.size w w4 [wrT p most (wrWhole most r.1 r.2 nn), rwT q most (wrWhole most r.1 r.2 nn)] := h5
            clear h4 h5 hnn H
            clear n0 n1 n2 n3 n4 n5 n6 n7 n8 n9 n10 n11 n12 n13 n14 n15
            have H := Lib.hid h6
            clear h6
            generalize wrWhole most r.1 r.2 nn = r2 at *
            have hbl := H.out.len 0 rfl
            have hsz : (if r2.2 = 0 then r2.1 else []).length ≤ 140737488355328 := by
              split
              · omega
              · exact Nat.zero_le _
            have HBS : Hid ((if r2.2 = 0 then r2.1 else []) = (if r2.2 = 0 then r2.1 else [])) := Lib.hid rfl
            have hw := H.out.wbytes 0 rfl
            have hx := fun (W : World) (l : List Thing) (K : Hold w.heap.size w W l) (hi : l[1]? = some (rwT q most r2)) => K.xbytes 1 hi
            generalize (if r2.2 = 0 then r2.1 else []) = bs at *
            have HW := Lib.hid hw
            have HX := Lib.hid hx
            clear hw hx HBS hbl
            go_wp2_with fail
            refine HW.out.mono ?_
            clear H HW
            rintro e w5 ⟨A1, c1, rfl, h, _⟩
            have H := Lib.hid h
            clear h
            go_wp2_with fail
            refine (HX.out _ _ H.out rfl).mono ?_
            clear H
            rintro e w6 ⟨A2, c2, rfl, h, _⟩
            have H := Lib.hid h
            clear h
            go_wp2_with fail
            refine (same_any A1 A2 c1 c2 bs bs w6 (H.out.reads 2 rfl) (H.out.reads 3 rfl)).mono ?_
            rintro e w' ⟨rfl, rfl⟩
            have hds : decide (bs = bs) = true := decide_eq_true rfl
            go_wp2_with fail
            refine (H.out.over 2 rfl hsz).mono ?_
            clear H
            rintro e w7 ⟨rfl, h⟩
            have H := Lib.hid (h.take 2)
            clear h
            go_wp2_with fail
            exact ⟨⟨i + 1, r2, by go_num, by omega, H.out⟩, by simp [intOf]; omega⟩
          · have hk1' : (kk == 1) = false := by simpa using hk1
            by_cases hk2 : kk = 2
            · subst hk2
              go_wp2_with fail
              have hnn := fun k => PairR.cell (i := 6) (j := 13) (p := p) (q := q) (most := most) (r := r) (r' := wrWord most r.1 r.2 ss) (N := w.heap.size) (a := ⟨b, off + i * 3 + 2, none⟩) hb HCS.out k
              refine wp_region_phase (two 6 13 (PairR w.heap.size w p q most r (wrWord most r.1 r.2 ss))) [6, 13] (two_looks _ _ _) (by kernel_rfl) (by kernel_rfl) H.out.drew ?_
              intro hne
              have n0 := hne 0 (by decide); have n1 := hne 1 (by decide); have n2 := hne 2 (by decide); have n3 := hne 3 (by decide); have n4 := hne 4 (by decide); have n5 := hne 5 (by decide); have n6 := hne 6 (by decide); have n7 := hne 7 (by decide); have n8 := hne 8 (by decide); have n9 := hne 9 (by decide); have n10 := hne 10 (by decide); have n11 := hne 11 (by decide); have n12 := hne 12 (by decide); have n13 := hne 13 (by decide); have n14 := hne 14 (by decide); have n15 := hne 15 (by decide)
              clear hne
              repeat (refine wpPhase_step (fun K hK => ?_); go_simp; refine hK _ ?_; clear hK K)
              refine wpPhase_step (fun K hK => ?_)
              go_simp
              refine ⟨_, fun x => two_call1 (by decide) x (PairR.w (fun W l H hl => H.wword 0 hl ss k2)), hK _ ?_⟩
              clear hK K
              repeat (refine wpPhase_step (fun K hK => ?_); go_simp; refine hK _ ?_; clear hK K)
              refine wpPhase_step (fun K hK => ?_)
              go_simp
              refine ⟨_, fun x => two_call2 (by decide) x (PairR.x (fun W l H hl => H.xword 1 hl ss k2)), hK _ ?_⟩
              clear hK K
              repeat (refine wpPhase_step (fun K hK => ?_); go_simp; refine hK _ ?_; clear hK K)
              refine wpPhase_nil ?_
              intro w4 h4
              have h5 : PairR w.heap.size w p q most r (wrWord most r.1 r.2 ss) true true w4 := h4
              have h6 : Hold w.heap.size w w4 [wrT p most (wrWord most r.1 r.2 ss), rwT q most (wrWord most r.1 r.2 ss)] := h5
              clear h4 h5 hnn H
              clear n0 n1 n2 n3 n4 n5 n6 n7 n8 n9 n10 n11 n12 n13 n14 n15
              have H := Lib.hid h6
              clear h6
              generalize wrWord most r.1 r.2 ss = r2 at *
              have hbl := H.out.len 0 rfl
              have hsz : (if r2.2 = 0 then r2.1 else []).length ≤ 140737488355328 := by
                split
                · omega
                · exact Nat.zero_le _
              have HBS : Hid ((if r2.2 = 0 then r2.1 else []) = (if r2.2 = 0 then r2.1 else [])) := Lib.hid rfl
              have hw := H.out.wbytes 0 rfl
              have hx := fun (W : World) (l : List Thing) (K : Hold w.heap.size w W l) (hi : l[1]? = some (rwT q most r2)) => K.xbytes 1 hi
              generalize (if r2.2 = 0 then r2.1 else []) = bs at *
              have HW := Lib.hid hw
              have HX := Lib.hid hx
              clear hw hx HBS hbl
              go_wp2_with fail
              refine HW.out.mono ?_
              clear H HW
              rintro e w5 ⟨A1, c1, rfl, h, _⟩
              have H := Lib.hid h
              clear h
              go_wp2_with fail
              refine (HX.out _ _ H.out rfl).mono ?_
              clear H
              rintro e w6 ⟨A2, c2, rfl, h, _⟩
              have H := Lib.hid h
              clear h
              go_wp2_with fail
              refine (same_any A1 A2 c1 c2 bs bs w6 (H.out.reads 2 rfl) (H.out.reads 3 rfl)).mono ?_
              rintro e w' ⟨rfl, rfl⟩
              have hds : decide (bs = bs) = true := decide_eq_true rfl
              go_wp2_with fail
              refine (H.out.over 2 rfl hsz).mono ?_
              clear H
              rintro e w7 ⟨rfl, h⟩
              have H := Lib.hid (h.take 2)
              clear h
              go_wp2_with fail
              exact ⟨⟨i + 1, r2, by go_num, by omega, H.out⟩, by simp [intOf]; omega⟩
            · have hk2' : (kk == 2) = false := by simpa using hk2
              have h6 := H.out
              clear H
              have H := Lib.hid h6
              clear h6 hk0 hk1 hk2
              obtain ⟨r2, hr2⟩ : ∃ r2, r = r2 := ⟨_, rfl⟩
              subst hr2
              have hbl := H.out.len 0 rfl
              have hsz : (if r.2 = 0 then r.1 else []).length ≤ 140737488355328 := by
                split
                · omega
                · exact Nat.zero_le _
              have HBS : Hid ((if r.2 = 0 then r.1 else []) = (if r.2 = 0 then r.1 else [])) := Lib.hid rfl
              have hw := H.out.wbytes 0 rfl
              have hx := fun (W : World) (l : List Thing) (K : Hold w.heap.size w W l) (hi : l[1]? = some (rwT q most r)) => K.xbytes 1 hi
              generalize (if r.2 = 0 then r.1 else []) = bs at *
              have HW := Lib.hid hw
              have HX := Lib.hid hx
              clear hw hx HBS hbl
              go_wp2_with fail
              refine HW.out.mono ?_
              clear H HW
              rintro e w5 ⟨A1, c1, rfl, h, _⟩
              have H := Lib.hid h
              clear h
              go_wp2_with fail
              refine (HX.out _ _ H.out rfl).mono ?_
              clear H
              rintro e w6 ⟨A2, c2, rfl, h, _⟩
              have H := Lib.hid h
              clear h
              go_wp2_with fail
              refine (same_any A1 A2 c1 c2 bs bs w6 (H.out.reads 2 rfl) (H.out.reads 3 rfl)).mono ?_
              rintro e w' ⟨rfl, rfl⟩
              have hds : decide (bs = bs) = true := decide_eq_true rfl
              go_wp2_with fail
              refine (H.out.over 2 rfl hsz).mono ?_
              clear H
              rintro e w7 ⟨rfl, h⟩
              have H := Lib.hid (h.take 2)
              clear h
              go_wp2_with fail
              exact ⟨⟨i + 1, r, by go_num, by omega, H.out⟩, by simp [intOf]; omega⟩
      · have hlt' : ¬ (i : Int) < (its.length : Int) := by omega
        go_wp2_with fail
        refine (awake_yes wr).mono ?_
        rintro e w3 ⟨rfl, hb⟩
        go_wp2_with fail
        go_ret
        exact ⟨rfl, H.out.below.trans (hb.mono H.out.size)⟩
set_option maxRecDepth 100000 in
theorem writes_bad (most : Int) (A : Option Addr) (c : Nat) (its : List Item) (w : World) (hm : most < 0 ∨ 1048576 < most) :
    Calls Try.prog 3 #[.int .i64 most, .slice A its.length c] w (RetBw (.bool true) w) := by
  go_enter Try.func3, Try.ntmps3
  go_wp2_with fail
  refine (new_bad most w hm).mono ?_
  rintro e w' ⟨rfl, rfl⟩
  go_wp2_with fail
  refine (refnew_bad most w hm).mono ?_
  rintro e w' ⟨rfl, rfl⟩
  go_wp2_with fail
  refine (awake_yes w).mono ?_
  rintro e w3 ⟨rfl, hb⟩
  go_wp2_with fail
  go_ret
  exact ⟨rfl, hb⟩
theorem writes_walk (most : Int) (A : Option Addr) (c : Nat) (its : List Item) (w : World) (hit : Items w A its) (hok : ItemsOk its) (hl : its.length ≤ 140737488351232) :
    Calls Try.prog 3 #[.int .i64 most, .slice A its.length c] w (RetBw (.bool true) w) := by
  by_cases h0 : 0 ≤ most
  · by_cases h1 : most ≤ 1048576
    · exact writes_short most A c its w hit hok hl h0 h1
    · exact writes_bad most A c its w (.inr (by omega))
  · exact writes_bad most A c its w (.inl (by omega))
end Go.Proofs.Ytcapdmicekialaa
