/- A map literal with constant keys, and a look-up in a map block: the runs of the model's operations, as equations. -/
import Derived.WalkKit
import Derived.KernelRfl
import Derived.Lib.Hide
import Derived.RangeFuncRecord
import Derived.Laws.EntriesVeiled
import Derived.WalkSpells
import Derived.WalkLawsBesides
namespace Go.Proofs.YtclejidkahpemaaDoor
open Go.RowKit
variable {P : Program} {w : World}

theorem ba_beq (s t : ByteArray) : (s == t) = decide (s = t) := by
  rcases s with ⟨s⟩; rcases t with ⟨t⟩
  show (s == t) = _
  by_cases h : s = t
  · subst h; simp
  · simp [h]
theorem ba_ne {s t : ByteArray} (h : s ≠ t) : (s == t) = false := by rw [ba_beq]; simpa using h

theorem ba_loop (s : ByteArray) (i : Nat) (r : List UInt8) (h : i ≤ s.size) : ByteArray.toList.loop s i r = r.reverse ++ s.data.toList.drop i := by
  induction hd : s.size - i generalizing i r with
  | zero =>
    rw [ByteArray.toList.loop, if_neg (by omega)]
    rw [List.drop_eq_nil_of_le (by rw [Array.length_toList]; show s.size ≤ i; omega)]; simp
  | succ d ih =>
    rw [ByteArray.toList.loop, if_pos (by omega), ih _ _ (by omega) (by omega)]
    have hi : i < s.data.toList.length := by rw [Array.length_toList]; show i < s.size; omega
    rw [List.drop_eq_getElem_cons hi]
    have : s.get! i = s.data.toList[i] := by
      show s.data[i]! = _
      rw [getElem!_pos s.data i (by rw [← Array.length_toList]; exact hi)]; simp
    rw [this]; simp
theorem ba_toList (s : ByteArray) : s.toList = s.data.toList := by
  unfold ByteArray.toList
  rw [ba_loop s 0 [] (Nat.zero_le _)]; simp
theorem ba_list_ne {s : ByteArray} {l : List UInt8} (h : s ≠ ⟨l.toArray⟩) : (s.toList == l) = false := by
  have : s.toList ≠ l := fun e => h (by rcases s with ⟨⟨d⟩⟩; rw [ba_toList] at e; subst e; rfl)
  simpa using this

theorem heap_alloc_at (w : World) (o : Obj) : (w.alloc o).heap[w.heap.size]? = some o := World.alloc_heap_new w o

theorem putObj_alloc (w : World) (o o' : Obj) : (w.alloc o).putObj w.heap.size o' = w.alloc o' := by
  unfold World.putObj World.alloc
  congr 1
  apply Array.ext_getElem?
  intro i
  simp only [Array.getElem?_setIfInBounds, Array.getElem?_push, Array.size_push]
  by_cases h : w.heap.size = i
  · subst h; simp
  · simp [h, Ne.symm h]

theorem run_insert_at {t kt et : TypeId} {r : Nat} {es : Array MapEntry} {clock : Nat} {key val : Value} (hT : P.underlying t = some (.map kt et)) (hb : w.heap[r]? = some (.map es clock))
    (hck : ∀ w, (Instr.checkKey false 10000 kt key).run P w = .ok () w) (hf : ∀ w, (Instr.findKey kt key es.toList).run P w = .ok none w) :
    (Instr.mapUpdate t (.map (some r)) key val).run P w = .ok () (w.putObj r (.map (es.push ⟨key, val, clock⟩) (clock + 1))) := by
  unfold Instr.mapUpdate
  simp [Sem.run_bind, run_underlying hT, Result.andThen, getObj, setObj, Sem.run, hb, hck, hf, World.putObj]

/-- One entry more in the map that was just laid. -/
theorem run_insert_new {t kt et : TypeId} {es : Array MapEntry} {clock : Nat} {key val : Value} (hT : P.underlying t = some (.map kt et))
    (hck : ∀ w, (Instr.checkKey false 10000 kt key).run P w = .ok () w) (hf : ∀ w, (Instr.findKey kt key es.toList).run P w = .ok none w) :
    (Instr.mapUpdate t (.map (some w.heap.size)) key val).run P (w.alloc (.map es clock)) = .ok () (w.alloc (.map (es.push ⟨key, val, clock⟩) (clock + 1))) := by
  rw [run_insert_at hT (heap_alloc_at w _) hck hf, putObj_alloc]

theorem run_lookup_at {t kt et : TypeId} {r : Nat} {es : Array MapEntry} {clock : Nat} {key v : Value} {i : Nat} (hT : P.underlying t = some (.map kt et)) (hb : w.heap[r]? = some (.map es clock))
    (hck : ∀ w, (Instr.checkKey es.isEmpty 10000 kt key).run P w = .ok () w) (hf : ∀ w, (Instr.findKey kt key es.toList).run P w = .ok (some (i, v)) w) (ok : Bool) :
    (Instr.lookup t (.map (some r)) key ok).run P w = .ok (if ok then .tuple #[v, .bool true] else v) w := by
  unfold Instr.lookup
  simp [Sem.run_bind, run_underlying hT, Result.andThen, getObj, Sem.run, hb, hck, hf]

theorem run_lookup_none {t kt et : TypeId} {r : Nat} {es : Array MapEntry} {clock : Nat} {key z : Value} (hT : P.underlying t = some (.map kt et)) (hb : w.heap[r]? = some (.map es clock))
    (hck : ∀ w, (Instr.checkKey es.isEmpty 10000 kt key).run P w = .ok () w) (hf : ∀ w, (Instr.findKey kt key es.toList).run P w = .ok none w) (hz : ∀ w, (zeroValue et).run P w = .ok z w) (ok : Bool) :
    (Instr.lookup t (.map (some r)) key ok).run P w = .ok (if ok then .tuple #[z, .bool false] else z) w := by
  unfold Instr.lookup
  simp [Sem.run_bind, run_underlying hT, Result.andThen, getObj, Sem.run, hb, hck, hf, hz]
end Go.Proofs.YtclejidkahpemaaDoor
