/- Marks and slices of marks, as they lie in memory; whether two such slices are the same. -/
import Derived.Test.YtmfmmopnapchjaaDoorOwn
import Derived.Test.YtmfmmopnapchjaaDoorProg
import Derived.ProofKit
import Derived.BigQuiet
import Derived.Lib.Hide
import Derived.Laws.StructEq
namespace Go.Proofs.YtmfmmopnapchjaaDoor
open Go Go.RowKit Go.ChangeShapes Go.WideShapes
set_option linter.unusedVariables false
set_option maxRecDepth 100000

/-- A mark: its five numbers. -/
structure Mk where
  t : Int
  k : Int
  h : Int
  j : Int
  n : Int
deriving DecidableEq, Inhabited

def Mk.val (m : Mk) : Value := .agg #[.int .i64 m.t, .int .i64 m.k, .int .i64 m.h, .int .i64 m.j, .int .i64 m.n]
def Mk.cells (m : Mk) : List Value := [.int .i64 m.t, .int .i64 m.k, .int .i64 m.h, .int .i64 m.j, .int .i64 m.n]
theorem Mk.val_inj {a b : Mk} (h : a.val = b.val) : a = b := by
  cases a; cases b; simp [Mk.val] at h; simp [h]

/-- Five cells hold a mark. -/
structure At5 (w : World) (b o : Nat) (m : Mk) : Prop where
  c0 : w.cell? ⟨b, o, none⟩ = some (.int .i64 m.t)
  c1 : w.cell? ⟨b, o + 1, none⟩ = some (.int .i64 m.k)
  c2 : w.cell? ⟨b, o + 2, none⟩ = some (.int .i64 m.h)
  c3 : w.cell? ⟨b, o + 3, none⟩ = some (.int .i64 m.j)
  c4 : w.cell? ⟨b, o + 4, none⟩ = some (.int .i64 m.n)

theorem At5.of_block {w w' : World} {b o : Nat} {m : Mk} (h : At5 w b o m) (e : w'.heap[b]? = w.heap[b]?) : At5 w' b o m :=
  ⟨(World.cell?_of_block (w := w) (a := ⟨b, o, none⟩) e).trans h.c0, (World.cell?_of_block (w := w) (a := ⟨b, o + 1, none⟩) e).trans h.c1, (World.cell?_of_block (w := w) (a := ⟨b, o + 2, none⟩) e).trans h.c2, (World.cell?_of_block (w := w) (a := ⟨b, o + 3, none⟩) e).trans h.c3, (World.cell?_of_block (w := w) (a := ⟨b, o + 4, none⟩) e).trans h.c4⟩

/-- A slice value that reads as a list of marks. -/
def RM (w : World) (v : Value) (l : List Mk) : Prop :=
  (l = [] ∧ ∃ a cap, v = .slice a 0 cap ∧ (a = none → cap = 0)) ∨
  ∃ b off cap, v = .slice (some ⟨b, off, none⟩) l.length cap ∧ l.length ≤ cap ∧ b < w.heap.size ∧ ∀ i, i < l.length → At5 w b (off + i * 5) (l.getD i default)

theorem RM_nil (w : World) : RM w (.slice none 0 0) [] := .inl ⟨rfl, none, 0, rfl, fun _ => rfl⟩

theorem RM.out {w : World} {v : Value} {l : List Mk} (h : RM w v l) : ∃ p cap, v = .slice p l.length cap ∧ (0 < l.length → ∃ b off, p = some ⟨b, off, none⟩ ∧ l.length ≤ cap ∧ b < w.heap.size ∧ ∀ i, i < l.length → At5 w b (off + i * 5) (l.getD i default)) := by
  rcases h with ⟨rfl, a, cap, rfl, _⟩ | ⟨b, off, cap, rfl, hcap, hb, hc⟩
  · exact ⟨a, cap, rfl, fun h => by simp at h⟩
  · exact ⟨_, cap, rfl, fun _ => ⟨b, off, rfl, hcap, hb, hc⟩⟩
theorem RM.of_block {w w' : World} {v : Value} {l : List Mk} (h : RM w v l) (hs : w.heap.size ≤ w'.heap.size) (e : ∀ k, v.ownBlock = some k → w'.heap[k]? = w.heap[k]?) : RM w' v l := by
  rcases h with h | ⟨b, off, cap, rfl, hcap, hb, hc⟩
  · exact .inl h
  · exact .inr ⟨b, off, cap, rfl, hcap, by omega, fun i hi => (hc i hi).of_block (e b rfl)⟩
theorem RM.below {w w' : World} {v : Value} {l : List Mk} (h : RM w v l) (hb : Below w.heap.size w w') : RM w' v l := by
  rcases h with h | ⟨b, off, cap, rfl, hcap, hlt, hc⟩
  · exact .inl h
  · exact .inr ⟨b, off, cap, rfl, hcap, Nat.lt_of_lt_of_le hlt hb.size, fun i hi => (hc i hi).of_block (hb.block b hlt)⟩

/-- Nothing has turned but the tape of draws. -/
def Qt (W w : World) : Prop := ∃ m, w = W.drewN m
theorem Qt.refl (W : World) : Qt W W := ⟨0, rfl⟩
theorem Qt.below {W w : World} {B : Nat} (h : Qt W w) : Below B W w := by
  obtain ⟨m, rfl⟩ := h
  exact ⟨rfl, rfl, rfl, Nat.le_refl _, fun _ _ => rfl⟩
theorem Qt.drew {W w : World} (h : Qt W w) (n : Nat) : Qt W (w.drewN n) := by
  obtain ⟨m, rfl⟩ := h
  exact ⟨m + n, World.drewN_drewN _ _ _⟩

end Go.Proofs.YtmfmmopnapchjaaDoor
