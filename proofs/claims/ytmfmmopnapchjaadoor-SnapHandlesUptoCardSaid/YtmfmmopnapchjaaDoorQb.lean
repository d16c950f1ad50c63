/- Queues of marks: Pop. -/
import Derived.Test.YtmfmmopnapchjaaDoorQa
import Derived.StillTailTactics
import Derived.BigRegion
namespace Go.Proofs.YtmfmmopnapchjaaDoor
open Go Go.RowKit Go.ChangeShapes Go.WideShapes
set_option linter.unusedVariables false
set_option maxRecDepth 100000
set_option maxHeartbeats 800000

/-- Nothing has turned but new blocks and the blocks in S. -/
structure Ch (S : Nat → Prop) (w w' : World) : Prop where
  os : w'.os = w.os
  tape : w'.tape = w.tape
  output : w'.output = w.output
  size : w.heap.size ≤ w'.heap.size
  block : ∀ k, k < w.heap.size → ¬ S k → w'.heap[k]? = w.heap[k]?
theorem Ch.refl (S : Nat → Prop) (w : World) : Ch S w w := ⟨rfl, rfl, rfl, Nat.le_refl _, fun _ _ _ => rfl⟩
theorem Ch.trans {S T : Nat → Prop} {a b c : World} (h : Ch S a b) (k : Ch T b c) (hT : ∀ i, T i → S i ∨ a.heap.size ≤ i) : Ch S a c :=
  ⟨k.os.trans h.os, k.tape.trans h.tape, k.output.trans h.output, Nat.le_trans h.size k.size, fun i hi hS => (k.block i (Nat.lt_of_lt_of_le hi h.size) (fun t => (hT i t).elim hS (fun h => by omega))).trans (h.block i hi hS)⟩
theorem Ch.alloc {S : Nat → Prop} {a w : World} (h : Ch S a w) (o : Obj) : Ch S a (w.alloc o) :=
  ⟨h.os, h.tape, h.output, by have := h.size; simp; omega, fun i hi hS => (Below.heap_alloc _ _ _ (Nat.lt_of_lt_of_le hi h.size)).trans (h.block i hi hS)⟩
theorem Ch.drew {S : Nat → Prop} {a w : World} (h : Ch S a w) : Ch S a w.drew := ⟨h.os, h.tape, h.output, h.size, h.block⟩
theorem Ch.qt {S : Nat → Prop} {a w w' : World} (h : Ch S a w) (q : Qt w w') : Ch S a w' := by
  obtain ⟨n, rfl⟩ := q
  exact ⟨h.os, h.tape, h.output, h.size, h.block⟩
theorem Ch.set {S : Nat → Prop} {a w : World} (h : Ch S a w) (p : Addr) (hp : S p.block ∨ a.heap.size ≤ p.block) (v : Value) : Ch S a (w.setCell p v) :=
  ⟨h.os, h.tape, h.output, by simpa [World.setCell] using h.size, fun i hi hS => (Below.heap_setCell _ _ _ _ (fun e => by subst e; exact hp.elim hS (fun h => by omega))).trans (h.block i hi hS)⟩
theorem Ch.below {S : Nat → Prop} {w w' : World} {B : Nat} (h : Ch S w w') (hS : ∀ k, S k → B ≤ k) (hB : B ≤ w.heap.size) : Below B w w' :=
  ⟨h.os, h.tape, h.output, h.size, fun k hk => h.block k (by omega) (fun s => by have := hS k s; omega)⟩
theorem Ch.of_below {w w' : World} (h : Below w.heap.size w w') (S : Nat → Prop) : Ch S w w' := ⟨h.os, h.tape, h.output, h.size, fun k hk _ => h.block k hk⟩
theorem Ch.mono {S T : Nat → Prop} {w w' : World} (h : Ch S w w') (hS : ∀ k, S k → T k) : Ch T w w' := ⟨h.os, h.tape, h.output, h.size, fun k hk t => h.block k hk (fun s => t (hS k s))⟩

def Mk.zero : Mk := ⟨0, 0, 0, 0, 0⟩
theorem At5.alloc {w : World} {b o : Nat} {m : Mk} (h : At5 w b o m) (ob : Obj) (hb : b < w.heap.size) : At5 (w.alloc ob) b o m :=
  h.of_block (Below.heap_alloc _ _ _ hb)
theorem At5.qt {w w' : World} {b o : Nat} {m : Mk} (h : At5 w b o m) (q : Qt w w') : At5 w' b o m := by
  obtain ⟨n, rfl⟩ := q
  exact h.of_block rfl
theorem cell_new (w : World) (cs : Array Value) (t : TypeId) (i : Nat) (v : Value) (h : cs[i]? = some v) : (w.alloc (.cells cs t)).cell? ⟨w.heap.size, i, none⟩ = some v := by
  simp only [World.cell?, heap_alloc_new]
  exact h
theorem frozen_new (w : World) (cs : Array Value) (t : TypeId) (i : Nat) : (w.alloc (.cells cs t)).frozen? ⟨w.heap.size, i, none⟩ = false := by
  simp only [World.frozen?, heap_alloc_new]
  simp
theorem frozen_old {w w' : World} {b : Nat} (h : ∀ o, w.frozen? ⟨b, o, none⟩ = false) (e : w'.heap[b]? = w.heap[b]?) : ∀ o, w'.frozen? ⟨b, o, none⟩ = false :=
  fun o => (World.frozen?_of_block (w := w) (a := ⟨b, o, none⟩) e).trans (h o)
/-- What Pop's stores meet: the queue, its ring's head, the new blocks. -/
structure PopF (w : World) (b g R c : Nat) (f m l : Int) (o : Nat) (x' x : Mk) (n : Nat) : Prop where
  q : Q4 w b (.slice (some ⟨g, 0, none⟩) R c) f m l
  a : At5 w g o x'
  k : ∀ o, w.frozen? ⟨g, o, none⟩ = false
  y : At5 w n 0 Mk.zero
  z : At5 w (n + 1) 0 Mk.zero
  t : ∀ o, w.frozen? ⟨n, o, none⟩ = false
  v : At5 w (n + 2) 0 x
  s : w.heap.size = n + 3
theorem PopF.same {w w' : World} {b g R c : Nat} {f m l : Int} {o : Nat} {x' x : Mk} {n : Nat} (h : PopF w b g R c f m l o x' x n) (e : w'.heap = w.heap) : PopF w' b g R c f m l o x' x n :=
  ⟨h.q.of_block (by rw [e]; exact Nat.le_refl _) (by rw [e]), h.a.of_block (by rw [e]), frozen_old h.k (by rw [e]), h.y.of_block (by rw [e]), h.z.of_block (by rw [e]), frozen_old h.t (by rw [e]), h.v.of_block (by rw [e]), by rw [e]; exact h.s⟩

/-- A mark laid into five cells. -/
def put5 (w : World) (g o : Nat) (m : Mk) : World := ((((w.setCell ⟨g, o, none⟩ (.int .i64 m.t)).setCell ⟨g, o + 1, none⟩ (.int .i64 m.k)).setCell ⟨g, o + 2, none⟩ (.int .i64 m.h)).setCell ⟨g, o + 3, none⟩ (.int .i64 m.j)).setCell ⟨g, o + 4, none⟩ (.int .i64 m.n)
theorem put5_block (w : World) (g o : Nat) (m : Mk) (k : Nat) (h : k ≠ g) : (put5 w g o m).heap[k]? = w.heap[k]? := by
  unfold put5
  rw [Below.heap_setCell _ _ _ _ h, Below.heap_setCell _ _ _ _ h, Below.heap_setCell _ _ _ _ h, Below.heap_setCell _ _ _ _ h, Below.heap_setCell _ _ _ _ h]
theorem put5_size (w : World) (g o : Nat) (m : Mk) : (put5 w g o m).heap.size = w.heap.size := by
  simp [put5, World.setCell]
theorem put5_else (w : World) (g o : Nat) (m : Mk) (o' : Nat) (h : o' < o ∨ o + 5 ≤ o') : (put5 w g o m).cell? ⟨g, o', none⟩ = w.cell? ⟨g, o', none⟩ := by
  unfold put5
  rw [World.cell?_setCell_other, World.cell?_setCell_other, World.cell?_setCell_other, World.cell?_setCell_other, World.cell?_setCell_other]
  all_goals (intro e; injection e with _ e2; omega)
theorem set_frozen {w : World} {b : Nat} (h : ∀ o, w.frozen? ⟨b, o, none⟩ = false) (a : Addr) (v : Value) : ∀ o, (w.setCell a v).frozen? ⟨b, o, none⟩ = false := by
  intro o
  rw [World.frozen?_setCell]
  exact h o
theorem same_set {w : World} {a : Addr} {v u : Value} (h : w.cell? a = some u) : (w.setCell a v).cell? a = some v := World.cell?_setCell_same w a v h
theorem other_set {w : World} {a b : Addr} {v u : Value} (e : a ≠ b) (h : w.cell? b = some u) : (w.setCell a v).cell? b = some u := (World.cell?_setCell_other w a b v e).trans h
theorem put5_at {w : World} {g o : Nat} {x : Mk} (h : At5 w g o x) (m : Mk) : At5 (put5 w g o m) g o m := by
  have ne : ∀ i j : Nat, i ≠ j → (⟨g, o + i, none⟩ : Addr) ≠ ⟨g, o + j, none⟩ := fun i j hij e => by injection e with _ e2; omega
  have ne0 : ∀ j : Nat, 0 ≠ j → (⟨g, o, none⟩ : Addr) ≠ ⟨g, o + j, none⟩ := fun j hij e => by injection e with _ e2; omega
  have en0 : ∀ j : Nat, 0 ≠ j → (⟨g, o + j, none⟩ : Addr) ≠ ⟨g, o, none⟩ := fun j hij e => by injection e with _ e2; omega
  refine ⟨?_, ?_, ?_, ?_, ?_⟩
  · exact other_set (en0 4 (by decide)) (other_set (en0 3 (by decide)) (other_set (en0 2 (by decide)) (other_set (en0 1 (by decide)) (same_set h.c0))))
  · exact other_set (ne 4 1 (by decide)) (other_set (ne 3 1 (by decide)) (other_set (ne 2 1 (by decide)) (same_set (other_set (ne0 1 (by decide)) h.c1))))
  · exact other_set (ne 4 2 (by decide)) (other_set (ne 3 2 (by decide)) (same_set (other_set (ne 1 2 (by decide)) (other_set (ne0 2 (by decide)) h.c2))))
  · exact other_set (ne 4 3 (by decide)) (same_set (other_set (ne 2 3 (by decide)) (other_set (ne 1 3 (by decide)) (other_set (ne0 3 (by decide)) h.c3))))
  · exact same_set (other_set (ne 3 4 (by decide)) (other_set (ne 2 4 (by decide)) (other_set (ne 1 4 (by decide)) (other_set (ne0 4 (by decide)) h.c4))))
theorem At5.put_else {w : World} {g o' : Nat} {x : Mk} (h : At5 w g o' x) (o : Nat) (m : Mk) (e : o' + 5 ≤ o ∨ o + 5 ≤ o') : At5 (put5 w g o m) g o' x :=
  ⟨(put5_else _ _ _ _ _ (by omega)).trans h.c0, (put5_else _ _ _ _ _ (by omega)).trans h.c1, (put5_else _ _ _ _ _ (by omega)).trans h.c2, (put5_else _ _ _ _ _ (by omega)).trans h.c3, (put5_else _ _ _ _ _ (by omega)).trans h.c4⟩
theorem put5_frozen {w : World} {b : Nat} (h : ∀ o, w.frozen? ⟨b, o, none⟩ = false) (g o : Nat) (m : Mk) : ∀ o', (put5 w g o m).frozen? ⟨b, o', none⟩ = false :=
  set_frozen (set_frozen (set_frozen (set_frozen (set_frozen h _ _) _ _) _ _) _ _) _ _
theorem PopF.put {w : World} {b g R c : Nat} {f m l : Int} {o : Nat} {x' x : Mk} {n : Nat} (h : PopF w b g R c f m l o x' x n) (hb : b ≠ g) (hg : g < n) (y : Mk) : PopF (put5 w g o y) b g R c f m l o y x n :=
  ⟨h.q.of_block (by rw [put5_size]; exact Nat.le_refl _) (put5_block _ _ _ _ _ hb), put5_at h.a y, put5_frozen h.k _ _ _, h.y.of_block (put5_block _ _ _ _ _ (by omega)), h.z.of_block (put5_block _ _ _ _ _ (by omega)), put5_frozen h.t _ _ _, h.v.of_block (put5_block _ _ _ _ _ (by omega)), by rw [put5_size]; exact h.s⟩

theorem Ch.put {S : Nat → Prop} {a w : World} (h : Ch S a w) (g : Nat) (hp : S g ∨ a.heap.size ≤ g) (o : Nat) (m : Mk) : Ch S a (put5 w g o m) :=
  ((((h.set _ hp _).set _ hp _).set _ hp _).set _ hp _).set _ hp _
/-- A ring of R marks in a block. -/
structure Ring (w : World) (g R : Nat) (ms : Nat → Mk) : Prop where
  lt : g < w.heap.size
  fr : ∀ o, w.frozen? ⟨g, o, none⟩ = false
  at5 : ∀ j, j < R → At5 w g (j * 5) (ms j)
theorem Ring.of_block {w w' : World} {g R : Nat} {ms : Nat → Mk} (h : Ring w g R ms) (hs : w.heap.size ≤ w'.heap.size) (e : w'.heap[g]? = w.heap[g]?) : Ring w' g R ms :=
  ⟨Nat.lt_of_lt_of_le h.lt hs, frozen_old h.fr e, fun j hj => (h.at5 j hj).of_block e⟩
theorem Ring.put {w : World} {g R : Nat} {ms : Nat → Mk} (h : Ring w g R ms) (j : Nat) (hj : j < R) (m : Mk) : Ring (put5 w g (j * 5) m) g R (fun i => if i = j then m else ms i) := by
  refine ⟨by rw [put5_size]; exact h.lt, put5_frozen h.fr _ _ _, fun i hi => ?_⟩
  show At5 _ _ _ (if i = j then m else ms i)
  by_cases e : i = j
  · subst e
    rw [if_pos rfl]
    exact put5_at (h.at5 i hi) m
  · rw [if_neg e]
    exact (h.at5 i hi).put_else _ _ (by omega)
theorem Q4.set {w : World} {b : Nat} {rv : Value} {f m l : Int} (h : Q4 w b rv f m l) (f' m' : Int) : Q4 ((w.setCell ⟨b, 1, none⟩ (.int .i64 f')).setCell ⟨b, 2, none⟩ (.int .i64 m')) b rv f' m' l :=
  ⟨by simpa [World.setCell] using h.lt, other_set (by intro e; injection e with _ e2; omega) (other_set (by intro e; injection e with _ e2; omega) h.c0), other_set (by intro e; injection e with _ e2; omega) (same_set h.c1), same_set (other_set (by intro e; injection e with _ e2; omega) h.c2), other_set (by intro e; injection e with _ e2; omega) (other_set (by intro e; injection e with _ e2; omega) h.c3), set_frozen (set_frozen h.fr _ _) _ _⟩

end Go.Proofs.YtmfmmopnapchjaaDoor
