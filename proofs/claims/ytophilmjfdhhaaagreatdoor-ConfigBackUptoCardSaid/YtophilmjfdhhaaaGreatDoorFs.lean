/- xs[k:] of a slice of one-cell elements: one equation for the operation, and what the rest reads as. Blocks known whole: their cells, stores into them. -/
import Derived.Test.YtophilmjfdhhaaaGreatDoorFq
import Derived.Laws.Rows
namespace Go.Proofs.YtophilmjfdhhaaaGreatDoor
open Go Go.RowKit Go.Shelf Go.Sort
set_option linter.unusedVariables false
set_option linter.unusedSimpArgs false

theorem run_from {P : Program} {T E : TypeId} {i : TypeInfo} (hT : P.underlying T = some (.slice E)) (hE : P.info? E = some i) (hs : i.size = 1) (b off n c k : Nat) (hk : k ≤ n) (w : World) :
    (Instr.slice T (.slice (some ⟨b, off, none⟩) n c) (some (.int .i64 k)) none none).run P w = .ok (.slice (some ⟨b, if c = k then off else off + k, none⟩) (n - k) (c - k)) w := by
  have he : P.elem T = E := by unfold Program.elem; rw [hT]
  rw [run_slice_l w T _ n c (by rw [he]; exact hT) .i64 k (by omega) (by omega), he]
  have hz : (sizeOf E).run P w = .ok 1 w := by simp [sizeOf, typeInfo, go_sem, hE, hs, Result.andThen]
  rw [hz]
  simp only [Result.andThen, sliced, Int.toNat_natCast]
  split <;> simp_all [Addr.add]
theorem from_c {P : Program} {T E : TypeId} {i : TypeInfo} (hT : P.underlying T = some (.slice E)) (hE : P.info? E = some i) (hs : i.size = 1) {w : World} {v : Value} {l : List Value} (h : RG w v l) (k : Nat) (hk : k ≤ l.length) (h0 : 0 < l.length) :
    ∃ v', (∀ w1, (Instr.slice T v (some (.int .i64 k)) none none).run P w1 = .ok v' w1) ∧ RG w v' (l.drop k) := by
  rcases h with ⟨rfl, _⟩ | ⟨b, off, cap, rfl, hcap, hb, hc⟩
  · simp at h0
  · refine ⟨_, run_from hT hE hs b off l.length cap k hk, ?_⟩
    by_cases he : k = l.length
    · subst he
      exact .inl ⟨by simp, _, _, by rw [Nat.sub_self], fun h => by simp at h⟩
    · refine .inr ⟨b, off + k, cap - k, by rw [if_neg (by omega), List.length_drop], by rw [List.length_drop]; omega, hb, fun j hj => ?_⟩
      have hj' : j < l.length - k := by simpa using hj
      rw [Nat.add_assoc, hc _ (by omega)]
      simp [List.getD]
theorem blk_frozen {w : World} {B : Nat} {cs : Array Value} {t : TypeId} (h : w.heap[B]? = some (.cells cs t)) (i : Nat) : w.frozen? ⟨B, i, none⟩ = false := by simp [World.frozen?, h]
theorem blk_set {w : World} {B : Nat} {cs : Array Value} {t : TypeId} (h : w.heap[B]? = some (.cells cs t)) (i : Nat) (v : Value) : (w.setCell ⟨B, i, none⟩ v).heap[B]? = some (.cells (cs.setIfInBounds i v) t) := heap_setCell_same w B i cs t v h
theorem blk_set_other {w : World} {B C : Nat} (h : C ≠ B) (i : Nat) (v : Value) : (w.setCell ⟨B, i, none⟩ v).heap[C]? = w.heap[C]? := heap_setCell_other w ⟨B, i, none⟩ C v h
theorem blk_alloc {w : World} {B : Nat} {x : Obj} (h : w.heap[B]? = some x) (o : Obj) : (w.alloc o).heap[B]? = some x := (Below.heap_alloc _ _ _ (Array.getElem?_eq_some_iff.1 h).1).trans h
theorem blk_lt {w : World} {B : Nat} {x : Obj} (h : w.heap[B]? = some x) : B < w.heap.size := (Array.getElem?_eq_some_iff.1 h).1
theorem blk_below {w w' : World} {B : Nat} {x : Obj} (h : w.heap[B]? = some x) (hb : Below w.heap.size w w') : w'.heap[B]? = some x := (hb.block _ (blk_lt h)).trans h
end Go.Proofs.YtophilmjfdhhaaaGreatDoor
