/- Writers, readers and bytes as things; what calls make of them. -/
import Derived.Test.YtcapdmicekialaaGreatOcRdr3
import Derived.Test.YtcapdmicekialaaGreatHold
namespace Go.Proofs.YtcapdmicekialaaGreat
open Go.RowKit

def wrT (p : Nat) (most : Int) (r : List UInt8 × Int) : Thing where
  at_ W F := ∃ v, Wr W p most r.1 r.2 v ∧ F = foot p v
  keep := by
    rintro W W' F S ⟨v, h, rfl⟩ ho hS
    exact ⟨v, h.keep ho hS, rfl⟩
  lt := by
    rintro W F ⟨v, h, rfl⟩ b (rfl | hb)
    · exact h.blk.lt
    · exact (World.ownsRow.lt h.own b hb.symm).2
def rwT (p : Nat) (most : Int) (r : List UInt8 × Int) : Thing where
  at_ W F := ∃ v, Rw W p most r.1 r.2 v ∧ F = foot p v
  keep := by
    rintro W W' F S ⟨v, h, rfl⟩ ho hS
    exact ⟨v, h.keep ho hS, rfl⟩
  lt := by
    rintro W F ⟨v, h, rfl⟩ b (rfl | hb)
    · exact h.blk.lt
    · exact (World.ownsRow.lt h.own b hb.symm).2
def rdT (p : Nat) (bs : List UInt8) (s : RS) : Thing where
  at_ W F := ∃ v, Rd W p bs s.1 s.2.1 s.2.2 v ∧ F = foot p v
  keep := by
    rintro W W' F S ⟨v, h, rfl⟩ ho hS
    exact ⟨v, h.keep ho hS, rfl⟩
  lt := by
    rintro W F ⟨v, h, rfl⟩ b (rfl | hb)
    · exact h.blk.lt
    · exact (World.ownsRow.lt h.own b hb.symm).2
/-- A row of bytes of its own. -/
def byT (A : Option Addr) (c : Nat) (bs : List UInt8) : Thing where
  at_ W F := W.ownsRow 0 5 1 (.slice A bs.length c) bs.length (bytesV bs) ∧ F = fun b => some b = (Value.slice A bs.length c).ownBlock
  keep := by
    rintro W W' F S ⟨h, rfl⟩ ho hS
    exact ⟨own_only ho h (fun g _ hg => hS g hg.symm), rfl⟩
  lt := by
    rintro W F ⟨h, rfl⟩ b hb
    exact (World.ownsRow.lt h b hb.symm).2
section
variable {N : Nat} {w0 W : World} {l : List Thing}
theorem near_new {v v' : Value} {W : World} {p : Nat} (h : near v v' W) : ∀ b, foot p v' b → foot p v b ∨ W.heap.size ≤ b := by
  rintro b (rfl | hb)
  · exact .inl (.inl rfl)
  · rcases h with h | ⟨g, hg, hl⟩
    · exact .inl (.inr (hb.trans h))
    · rw [hg] at hb
      obtain rfl := Option.some.inj hb
      exact .inr hl
/-- A writer steps on. -/
theorem Hold.wstep (H : Hold N w0 W l) (i : Nat) {p : Nat} {most : Int} {r r' : List UInt8 × Int} (hi : l[i]? = some (wrT p most r)) {f : FuncId} {args : Array Value}
    (hc : ∀ v, Wr W p most r.1 r.2 v → Calls Tryz.prog f args W (WStep p most v r' W)) : Calls Tryz.prog f args W fun e W' => e = .returned (.int .i64 r'.2) ∧ Hold N w0 W' (l.set i (wrT p most r')) := by
  obtain ⟨F, ⟨v, hv, rfl⟩, _⟩ := H.get i _ hi
  refine (hc v hv).mono ?_
  rintro e W' ⟨he, v', h1, h2, h3⟩
  refine ⟨he, ?_⟩
  obtain ⟨⟨F, k1, k2⟩, k3, k4⟩ := H
  obtain ⟨⟨v2, hv2, hF⟩, _⟩ := k1 i _ hi
  have hvv : v2 = v := by
    have e1 := hv.blk.cell 1
    have e2 := hv2.blk.cell 1
    rw [e1] at e2
    simpa using e2.symm
  subst hvv
  refine Hold.step ⟨⟨F, k1, k2⟩, k3, k4⟩ i _ _ hi ?_
  rintro F2 ⟨v3, hv3, rfl⟩
  have hvv : v3 = v2 := by
    have e1 := hv.blk.cell 1
    have e2 := hv3.blk.cell 1
    rw [e1] at e2
    simpa using e2.symm
  subst hvv
  exact ⟨_, ⟨v', h1, rfl⟩, h2, near_new h3⟩
theorem Hold.rstep (H : Hold N w0 W l) (i : Nat) {p : Nat} {most : Int} {r r' : List UInt8 × Int} (hi : l[i]? = some (rwT p most r)) {f : FuncId} {args : Array Value}
    (hc : ∀ v, Rw W p most r.1 r.2 v → Calls Tryz.prog f args W (RStep p most v r' W)) : Calls Tryz.prog f args W fun e W' => e = .returned (.int .i64 r'.2) ∧ Hold N w0 W' (l.set i (rwT p most r')) := by
  obtain ⟨F, ⟨v, hv, rfl⟩, _⟩ := H.get i _ hi
  refine (hc v hv).mono ?_
  rintro e W' ⟨he, v', h1, h2, h3⟩
  refine ⟨he, Hold.step H i _ _ hi ?_⟩
  rintro F2 ⟨v3, hv3, rfl⟩
  have hvv : v3 = v := by
    have e1 := hv.blk.cell 0
    have e2 := hv3.blk.cell 0
    rw [e1] at e2
    simpa using e2.symm
  subst hvv
  exact ⟨_, ⟨v', h1, rfl⟩, h2, near_new h3⟩
/-- A reader steps on. -/
theorem Hold.dstep (H : Hold N w0 W l) (i : Nat) {p : Nat} {bs : List UInt8} {s s' : RS} (hi : l[i]? = some (rdT p bs s)) {f : FuncId} {args : Array Value} {E : Ending → Prop}
    (hc : ∀ v, Rd W p bs s.1 s.2.1 s.2.2 v → Calls Tryz.prog f args W fun e W' => E e ∧ RdAt p bs s'.1 s'.2.1 s'.2.2 v W W') : Calls Tryz.prog f args W fun e W' => E e ∧ Hold N w0 W' (l.set i (rdT p bs s')) := by
  obtain ⟨F, ⟨v, hv, rfl⟩, _⟩ := H.get i _ hi
  refine (hc v hv).mono ?_
  rintro e W' ⟨he, h1, h2⟩
  refine ⟨he, Hold.step H i _ _ hi ?_⟩
  rintro F2 ⟨v3, hv3, rfl⟩
  have hvv : v3 = v := by
    have e1 := hv.blk.cell 0
    have e2 := hv3.blk.cell 0
    rw [e1] at e2
    simpa using e2.symm
  subst hvv
  exact ⟨_, ⟨v3, h1, rfl⟩, h2.mono fun b hb => .inl hb, fun b hb => .inl hb⟩
theorem Hold.wnum (H : Hold N w0 W l) (i : Nat) {p : Nat} {most : Int} {r : List UInt8 × Int} (hi : l[i]? = some (wrT p most r)) (n : Int) (h0 : -9223372036854775808 ≤ n) (h1 : n ≤ 9223372036854775807) :
    Calls Tryz.prog 27 #[.pointer (some ⟨p, 0, none⟩), .int .i64 n] W fun e W' => e = .returned (.int .i64 (wrNum most r.1 r.2 n).2) ∧ Hold N w0 W' (l.set i (wrT p most (wrNum most r.1 r.2 n))) :=
  H.wstep i hi fun v hv => num_any p n most r.2 r.1 v W hv h0 h1
theorem Hold.wword (H : Hold N w0 W l) (i : Nat) {p : Nat} {most : Int} {r : List UInt8 × Int} (hi : l[i]? = some (wrT p most r)) (s : ByteArray) (hs : s.size ≤ 140737488351232) :
    Calls Tryz.prog 90 #[.pointer (some ⟨p, 0, none⟩), .string s] W fun e W' => e = .returned (.int .i64 (wrWord most r.1 r.2 s).2) ∧ Hold N w0 W' (l.set i (wrT p most (wrWord most r.1 r.2 s))) :=
  H.wstep i hi fun v hv => word_any p s most r.2 r.1 v W hv hs
theorem Hold.xnum (H : Hold N w0 W l) (i : Nat) {p : Nat} {most : Int} {r : List UInt8 × Int} (hi : l[i]? = some (rwT p most r)) (n : Int) (h0 : -9223372036854775808 ≤ n) (h1 : n ≤ 9223372036854775807) :
    Calls Tryz.prog 95 #[.pointer (some ⟨p, 0, none⟩), .int .i64 n] W fun e W' => e = .returned (.int .i64 (wrNum most r.1 r.2 n).2) ∧ Hold N w0 W' (l.set i (rwT p most (wrNum most r.1 r.2 n))) :=
  H.rstep i hi fun v hv => refnum_any p n most r.2 r.1 v W hv h0 h1
theorem Hold.xword (H : Hold N w0 W l) (i : Nat) {p : Nat} {most : Int} {r : List UInt8 × Int} (hi : l[i]? = some (rwT p most r)) (s : ByteArray) (hs : s.size ≤ 140737488351232) :
    Calls Tryz.prog 126 #[.pointer (some ⟨p, 0, none⟩), .string s] W fun e W' => e = .returned (.int .i64 (wrWord most r.1 r.2 s).2) ∧ Hold N w0 W' (l.set i (rwT p most (wrWord most r.1 r.2 s))) :=
  H.rstep i hi fun v hv => refword_any p s most r.2 r.1 v W hv hs
theorem Hold.dnum (H : Hold N w0 W l) (i : Nat) {p : Nat} {bs : List UInt8} {s : RS} (hi : l[i]? = some (rdT p bs s)) :
    Calls Tryz.prog 130 #[.pointer (some ⟨p, 0, none⟩)] W fun e W' => e = .returned (.int .i64 (rNum bs s).1) ∧ Hold N w0 W' (l.set i (rdT p bs (rNum bs s).2)) :=
  H.dstep (s' := (rNum bs s).2) i hi fun v hv => rdr_num p bs s.1 s.2.1 s.2.2 v W hv
theorem Hold.dword (H : Hold N w0 W l) (i : Nat) {p : Nat} {bs : List UInt8} {s : RS} (hi : l[i]? = some (rdT p bs s)) (most : Int) :
    Calls Tryz.prog 106 #[.pointer (some ⟨p, 0, none⟩), .int .i64 most] W fun e W' => e = .returned (.string (strB (rWord bs s most).1)) ∧ Hold N w0 W' (l.set i (rdT p bs (rWord bs s most).2)) :=
  H.dstep (s' := (rWord bs s most).2) i hi fun v hv => rdr_word p bs s.1 s.2.1 s.2.2 most v W hv
theorem Hold.drest (H : Hold N w0 W l) (i : Nat) {p : Nat} {bs : List UInt8} {s : RS} (hi : l[i]? = some (rdT p bs s)) :
    Calls Tryz.prog 129 #[.pointer (some ⟨p, 0, none⟩)] W fun e W' => e = .returned (.int .i64 (if s.2.1 ≠ 0 then 0 else (bs.length : Int) - s.1)) ∧ Hold N w0 W' l := by
  obtain ⟨F, ⟨v, hv, rfl⟩, _⟩ := H.get i _ hi
  exact (rdr_rest p bs s.1 s.2.1 s.2.2 v W hv).mono fun e W' h => ⟨h.1, H.quiet h.2⟩
theorem Hold.dend (H : Hold N w0 W l) (i : Nat) {p : Nat} {bs : List UInt8} {s : RS} (hi : l[i]? = some (rdT p bs s)) :
    Calls Tryz.prog 57 #[.pointer (some ⟨p, 0, none⟩)] W fun e W' => e = .returned (.agg #[.int .i64 (rEnd bs s).1, .int .i64 (rEnd bs s).2]) ∧ Hold N w0 W' l := by
  obtain ⟨F, ⟨v, hv, rfl⟩, _⟩ := H.get i _ hi
  exact (rdr_end p bs s.1 s.2.1 s.2.2 v W hv).mono fun e W' h => ⟨h.1, H.quiet h.2⟩
theorem Hold.wnew (H : Hold N w0 W l) (n : Int) (h0 : 0 ≤ n) (h1 : n ≤ 1048576) :
    Calls Tryz.prog 26 #[.int .i64 n] W fun e W' => ∃ p, e = .returned (.tuple #[.pointer (some ⟨p, 0, none⟩), .int .i64 0]) ∧ Hold N w0 W' (l ++ [wrT p n ([], 0)]) :=
  (new_ok n W h0 h1).mono fun e W' ⟨p, he, hp, hw, hb⟩ => ⟨p, he, H.add _ (only_below hb) ⟨_, ⟨_, hw, rfl⟩, by rintro b (rfl | hb'); omega; simp [Value.ownBlock] at hb'⟩⟩
theorem Hold.xnew (H : Hold N w0 W l) (n : Int) (h0 : 0 ≤ n) (h1 : n ≤ 1048576) :
    Calls Tryz.prog 39 #[.int .i64 n] W fun e W' => ∃ p, e = .returned (.tuple #[.pointer (some ⟨p, 0, none⟩), .int .i64 0]) ∧ Hold N w0 W' (l ++ [rwT p n ([], 0)]) :=
  (refnew_ok n W h0 h1).mono fun e W' ⟨p, he, hp, hw, hb⟩ => ⟨p, he, H.add _ (only_below hb) ⟨_, ⟨_, hw, rfl⟩, by rintro b (rfl | hb'); omega; simp [Value.ownBlock] at hb'⟩⟩
theorem Hold.dnew (H : Hold N w0 W l) {A : Option Addr} {c : Nat} {bs : List UInt8} (hx : Reads W W.heap.size 1 A bs.length (bytesV bs)) (hl : bs.length ≤ 140737488355328) :
    Calls Tryz.prog 47 #[.slice A bs.length c] W fun e W' => ∃ p, e = .returned (.pointer (some ⟨p, 0, none⟩)) ∧ Hold N w0 W' (l ++ [rdT p bs (0, 0, 0)]) :=
  (rdnew_any A c bs W hx hl).mono fun e W' ⟨p, v, he, hp, hg, hr, hb⟩ => ⟨p, he, H.add _ (only_below hb) ⟨_, ⟨v, hr, rfl⟩, by
    rintro b (rfl | hb')
    · exact hp
    · exact hg b hb'.symm⟩⟩
theorem Hold.wbytes (H : Hold N w0 W l) (i : Nat) {p : Nat} {most : Int} {r : List UInt8 × Int} (hi : l[i]? = some (wrT p most r)) :
    Calls Tryz.prog 36 #[.pointer (some ⟨p, 0, none⟩)] W fun e W' => ∃ A c, e = .returned (.tuple #[.slice A (if r.2 = 0 then r.1 else []).length c, .int .i64 r.2]) ∧ Hold N w0 W' (l ++ [byT A c (if r.2 = 0 then r.1 else [])]) ∧ Below W.heap.size W W' := by
  obtain ⟨F, ⟨v, hv, rfl⟩, _⟩ := H.get i _ hi
  exact (bytes_any p most r.2 r.1 v W hv).mono fun e W' ⟨A, c, he, ho, hb⟩ => ⟨A, c, he, H.add _ (only_below hb) ⟨_, ⟨ho.mono (Nat.zero_le _), rfl⟩, fun b hb' => (World.ownsRow.lt ho b hb'.symm).1⟩, hb⟩
theorem Hold.xbytes (H : Hold N w0 W l) (i : Nat) {p : Nat} {most : Int} {r : List UInt8 × Int} (hi : l[i]? = some (rwT p most r)) :
    Calls Tryz.prog 41 #[.pointer (some ⟨p, 0, none⟩)] W fun e W' => ∃ A c, e = .returned (.tuple #[.slice A (if r.2 = 0 then r.1 else []).length c, .int .i64 r.2]) ∧ Hold N w0 W' (l ++ [byT A c (if r.2 = 0 then r.1 else [])]) ∧ Below W.heap.size W W' := by
  obtain ⟨F, ⟨v, hv, rfl⟩, _⟩ := H.get i _ hi
  exact (refbytes_any p most r.2 r.1 v W hv).mono fun e W' ⟨A, c, he, ho, hb⟩ => ⟨A, c, he, H.add _ (only_below hb) ⟨_, ⟨ho.mono (Nat.zero_le _), rfl⟩, fun b hb' => (World.ownsRow.lt ho b hb'.symm).1⟩, hb⟩
theorem Hold.reads (H : Hold N w0 W l) (i : Nat) {A : Option Addr} {c : Nat} {bs : List UInt8} (hi : l[i]? = some (byT A c bs)) : Reads W W.heap.size 1 A bs.length (bytesV bs) := by
  obtain ⟨F, ⟨h, _⟩, _⟩ := H.get i _ hi
  exact Reads.of_own h
/-- Nothing. -/
def noT : Thing where
  at_ _ F := F = fun _ => False
  keep := by rintro W W' F S rfl _ _; rfl
  lt := by rintro W F rfl b hb; exact hb.elim
theorem Hold.over (H : Hold N w0 W l) (i : Nat) {A : Option Addr} {c : Nat} {bs : List UInt8} (hi : l[i]? = some (byT A c bs)) (hl : bs.length ≤ 140737488355328) :
    Calls Tryz.prog 11 #[.slice A bs.length c] W fun e W' => e = .returned (.tuple #[]) ∧ Hold N w0 W' (l.set i noT) := by
  obtain ⟨F, ⟨h, _⟩, _⟩ := H.get i _ hi
  refine (over_any A c 0 bs W h hl).mono fun e W' ⟨he, ho⟩ => ⟨he, Hold.step H i _ noT hi ?_⟩
  rintro F2 ⟨_, rfl⟩
  exact ⟨_, rfl, ho, fun b hb => hb.elim⟩
end
/-- A slice of bytes, written out. -/
theorem reads_new (W : World) (bs : List UInt8) : Reads (W.alloc (.cells (bytesV bs).toArray 5)) (W.alloc (.cells (bytesV bs).toArray 5)).heap.size 1 (some ⟨W.heap.size, 0, none⟩) bs.length (bytesV bs) := by
  refine ⟨by rw [bytesV_len, Nat.mul_one], fun hn => ⟨_, rfl, by simp, fun j u hu => ?_⟩⟩
  rw [show (⟨W.heap.size, 0, none⟩ : Addr).add j = ⟨W.heap.size, j, none⟩ from by unfold Addr.add; split <;> simp_all]
  rw [cell_of_row _ _ _ _ _ (0, 0) (World.alloc_heap_new W _)]
  simpa using hu
end Go.Proofs.YtcapdmicekialaaGreat
