/- Cell facts carried along; a return of a row and a number. Over any program. -/
import Derived.Test.YtclejidkahpemaaDoorText
import Derived.Test.YtclejidkahpemaaDoorSep
namespace Go.Proofs.YtclejidkahpemaaDoor
open Go.RowKit
theorem cell_lt {w : World} {p : Addr} {v : Value} (h : w.cell? p = some v) : p.block < w.heap.size := by
  rcases Nat.lt_or_ge p.block w.heap.size with hl | hg
  · exact hl
  · unfold World.cell? at h
    rw [Array.getElem?_eq_none hg] at h
    cases h
theorem cell_alloc {w : World} {p : Addr} {v : Value} (h : w.cell? p = some v) (o : Obj) : (w.alloc o).cell? p = some v := (World.cell?_alloc_lt w o p (cell_lt h)).trans h
theorem cell_below {w w' : World} {p : Addr} {v : Value} (h : w.cell? p = some v) (hb : Below w.heap.size w w') : w'.cell? p = some v := (hb.cell (cell_lt h)).trans h
/-- Where a row that is not empty lies. -/
theorem reads_addr {w : World} {B size : Nat} {A : Option Addr} {n : Nat} {xs : List Value} (h : Reads w B size A n xs) (hn : 0 < n) (hs : 0 < size) : ∃ b off, A = some ⟨b, off, none⟩ ∧ b < B ∧ ∀ j u, xs[j]? = some u → w.cell? ⟨b, off + j, none⟩ = some u := by
  obtain ⟨ad, rfl, hb, hc⟩ := h.2 hn
  have hl : 0 < xs.length := by rw [h.1]; exact Nat.mul_pos hn hs
  have h0 := hc 0 _ (List.getElem?_eq_getElem hl)
  have hsp : ad.spot = none := by
    unfold Addr.add at h0
    simp only [if_true] at h0
    unfold World.cell? at h0
    split at h0
    · split at h0
      · cases h0
      · rename_i hn
        simpa using hn
    · cases h0
  obtain ⟨b, off, sp⟩ := ad
  simp only at hsp
  subst hsp
  exact ⟨b, off, rfl, hb, fun j u hu => by rw [← hc j u hu, Addr.add_lit]⟩
/-- What only reads, and draws. -/
def RetD (v : Value) (W : World) (e : Ending) (w' : World) : Prop := e = .returned v ∧ ∃ n, w' = W.drewN n
/-- An append among the effects of a drawn region. -/
theorem wpTx_append {P : Program} {lo up : Nat → Nat} {cs : List Nat} {ops : Array Oper} {Q : Act → World → Prop} {k : Nat} {o : Oper} {rest : List Oper} {past : List World} {pend : List Late} {a : Act} {w w' : World} {v1 v2 v' : Value}
    (hk : cs.contains k = true) (hw : Region.wanted o (yielded ops a.tmps) = true) (u y : Operand) (t ty : TypeId) (ho : o.op = .call { callee := .builtin .append, args := #[u, y], argTypes := #[t, t] }) (hty : o.type = ty) (h1 : a.eval u = v1) (h2 : a.eval y = v2)
    (hr : (Builtin.append_ #[t, t] ty #[v1, v2]).run P w = .ok v' w') (hl : lateOK P up (past.length + 1) pend w') (h : wpTx P lo up cs ops Q (k + 1) rest (past ++ [w]) pend (a.put o.dst v') w') : wpTx P lo up cs ops Q k (o :: rest) past pend a w := by
  refine wpTx_eff hk (fun K hK => ?_)
  rw [if_pos hw]
  subst h1 h2 hty
  unfold effAt execOp
  simp only [ho, resolve, invoke, builtin, Sem.run_bind, Sem.run_pure, Result.andThen_ok, List.map_toArray, List.map_cons, List.map_nil, hr]
  exact hK _ _ hl h
/-- An append whose run is known. -/
theorem wpList_append_run {P : Program} {ops : Array Oper} {rest : List Oper} {o : Oper} {a : Act} {w w' : World} {Q : Exit → Act → World → Prop} {v1 v2 v' : Value} (hgd : o.guard = none) (s x : Operand) (t ty : TypeId)
    (ho : o.op = .call { callee := .builtin .append, args := #[s, x], argTypes := #[t, t] }) (hty : o.type = ty) (h1 : a.eval s = v1) (h2 : a.eval x = v2) (hr : (Builtin.append_ #[t, t] ty #[v1, v2]).run P w = .ok v' w')
    (h : wpList P ops Q rest (a.put o.dst v') w') : wpList P ops Q (o :: rest) a w :=
  wpList_plain hgd fun K hK => by
    unfold Oper.wp execOp
    subst hty h1 h2
    simp only [ho, resolve, invoke, builtin, Sem.run_bind, Sem.run_pure, Result.andThen_ok, List.map_toArray, List.map_cons, List.map_nil, hr]
    exact hK _ _ h
theorem below_drewN (w : World) (n : Nat) : Below w.heap.size w (w.drewN n) := (Only.drewN (fun _ => False) w n).below (Nat.le_refl _) (fun _ hb => hb.elim)
end Go.Proofs.YtclejidkahpemaaDoor
