/- Queues of marks: the small methods of package fifo. -/
import Derived.Test.YtmfmmopnapchjaaDoorMk
import Derived.Deep.QuietTactic
namespace Go.Proofs.YtmfmmopnapchjaaDoor
open Go Go.RowKit Go.ChangeShapes Go.WideShapes
set_option linter.unusedVariables false
set_option maxRecDepth 100000

/-- The four cells of a queue. -/
structure Q4 (w : World) (b : Nat) (rv : Value) (first many lim : Int) : Prop where
  lt : b < w.heap.size
  c0 : w.cell? ⟨b, 0, none⟩ = some rv
  c1 : w.cell? ⟨b, 1, none⟩ = some (.int .i64 first)
  c2 : w.cell? ⟨b, 2, none⟩ = some (.int .i64 many)
  c3 : w.cell? ⟨b, 3, none⟩ = some (.int .i64 lim)
  fr : ∀ o, w.frozen? ⟨b, o, none⟩ = false

theorem Q4.of_block {w w' : World} {b : Nat} {rv : Value} {f m l : Int} (h : Q4 w b rv f m l) (hs : w.heap.size ≤ w'.heap.size) (e : w'.heap[b]? = w.heap[b]?) : Q4 w' b rv f m l :=
  ⟨Nat.lt_of_lt_of_le h.lt hs, (World.cell?_of_block (w := w) (a := ⟨b, 0, none⟩) e).trans h.c0, (World.cell?_of_block (w := w) (a := ⟨b, 1, none⟩) e).trans h.c1, (World.cell?_of_block (w := w) (a := ⟨b, 2, none⟩) e).trans h.c2, (World.cell?_of_block (w := w) (a := ⟨b, 3, none⟩) e).trans h.c3, fun o => (World.frozen?_of_block (w := w) (a := ⟨b, o, none⟩) e).trans (h.fr o)⟩
theorem Q4.alloc {w : World} {b : Nat} {rv : Value} {f m l : Int} (h : Q4 w b rv f m l) (o : Obj) : Q4 (w.alloc o) b rv f m l :=
  h.of_block (by simp) (Below.heap_alloc _ _ _ h.lt)
theorem Q4.qt {w w' : World} {b : Nat} {rv : Value} {f m l : Int} (h : Q4 w b rv f m l) (q : Qt w w') : Q4 w' b rv f m l := by
  obtain ⟨n, rfl⟩ := q
  exact h.of_block (Nat.le_refl _) rfl

end Go.Proofs.YtmfmmopnapchjaaDoor
