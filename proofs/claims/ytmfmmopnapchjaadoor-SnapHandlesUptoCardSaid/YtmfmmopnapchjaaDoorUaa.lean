/- Stores of whole structs into blocks known whole. -/
import Derived.Test.YtmfmmopnapchjaaDoorUa
namespace Go.Proofs.YtmfmmopnapchjaaDoor
open Go Go.RowKit
set_option linter.unusedVariables false
set_option linter.unusedSimpArgs false

theorem kb_new (w : World) (o : Obj) : (w.alloc o).heap[w.heap.size]? = some o := heap_alloc_new w o
/-- Eight cells laid into a block of eight. -/
def put8 (w : World) (n : Nat) (a b c d e f g h : Value) : World :=
  (((((((w.setCell ⟨n, 0, none⟩ a).setCell ⟨n, 1, none⟩ b).setCell ⟨n, 2, none⟩ c).setCell ⟨n, 3, none⟩ d).setCell ⟨n, 4, none⟩ e).setCell ⟨n, 5, none⟩ f).setCell ⟨n, 6, none⟩ g).setCell ⟨n, 7, none⟩ h
theorem put8_blk {w : World} {n : Nat} {T : TypeId} {a0 a1 a2 a3 a4 a5 a6 a7 : Value} (hb : w.heap[n]? = some (.cells #[a0, a1, a2, a3, a4, a5, a6, a7] T)) (a b c d e f g h : Value) : (put8 w n a b c d e f g h).heap[n]? = some (.cells #[a, b, c, d, e, f, g, h] T) := by
  have q0 := kb_set hb 0 a
  simp only [List.setIfInBounds_toArray, List.set_cons_zero, List.set_cons_succ] at q0
  have q1 := kb_set q0 1 b
  simp only [List.setIfInBounds_toArray, List.set_cons_zero, List.set_cons_succ] at q1
  have q2 := kb_set q1 2 c
  simp only [List.setIfInBounds_toArray, List.set_cons_zero, List.set_cons_succ] at q2
  have q3 := kb_set q2 3 d
  simp only [List.setIfInBounds_toArray, List.set_cons_zero, List.set_cons_succ] at q3
  have q4 := kb_set q3 4 e
  simp only [List.setIfInBounds_toArray, List.set_cons_zero, List.set_cons_succ] at q4
  have q5 := kb_set q4 5 f
  simp only [List.setIfInBounds_toArray, List.set_cons_zero, List.set_cons_succ] at q5
  have q6 := kb_set q5 6 g
  simp only [List.setIfInBounds_toArray, List.set_cons_zero, List.set_cons_succ] at q6
  have q7 := kb_set q6 7 h
  simp only [List.setIfInBounds_toArray, List.set_cons_zero, List.set_cons_succ] at q7
  exact q7
theorem put8_other {w : World} {n m : Nat} (hm : m ≠ n) (a b c d e f g h : Value) : (put8 w n a b c d e f g h).heap[m]? = w.heap[m]? := by
  unfold put8
  rw [kb_other hm, kb_other hm, kb_other hm, kb_other hm, kb_other hm, kb_other hm, kb_other hm, kb_other hm]
theorem put8_below {w w' : World} {B n : Nat} (hb : Below B w w') (hn : B ≤ n) (a b c d e f g h : Value) : Below B w (put8 w' n a b c d e f g h) :=
  (((((((hb.setCell hn _).setCell hn _).setCell hn _).setCell hn _).setCell hn _).setCell hn _).setCell hn _).setCell hn _
end Go.Proofs.YtmfmmopnapchjaaDoor
