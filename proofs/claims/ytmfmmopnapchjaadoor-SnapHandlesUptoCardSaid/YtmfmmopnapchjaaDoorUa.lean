/- Rows of structs in whole blocks: cells, stores; tables of slots. -/
import Derived.Test.YtmfmmopnapchjaaDoorHb
import Derived.Test.YtmfmmopnapchjaaDoorQc
import Derived.Laws.Rows
import Derived.Test.YtmfmmopnapchjaaDoorPb
namespace Go.Proofs.YtmfmmopnapchjaaDoor
open Go Go.RowKit Go.ChangeShapes Go.WideShapes
set_option linter.unusedVariables false
set_option maxRecDepth 100000

theorem kb_frozen {w : World} {B : Nat} {cs : Array Value} {t : TypeId} (h : w.heap[B]? = some (.cells cs t)) (i : Nat) : w.frozen? ⟨B, i, none⟩ = false := by simp [World.frozen?, h]
theorem kb_set {w : World} {B : Nat} {cs : Array Value} {t : TypeId} (h : w.heap[B]? = some (.cells cs t)) (i : Nat) (v : Value) : (w.setCell ⟨B, i, none⟩ v).heap[B]? = some (.cells (cs.setIfInBounds i v) t) := heap_setCell_same w B i cs t v h
theorem kb_other {w : World} {B C : Nat} (h : C ≠ B) (i : Nat) (v : Value) : (w.setCell ⟨B, i, none⟩ v).heap[C]? = w.heap[C]? := heap_setCell_other w ⟨B, i, none⟩ C v h
theorem kb_alloc {w : World} {B : Nat} {x : Obj} (h : w.heap[B]? = some x) (o : Obj) : (w.alloc o).heap[B]? = some x := (Below.heap_alloc _ _ _ (Array.getElem?_eq_some_iff.1 h).1).trans h
theorem kb_lt {w : World} {B : Nat} {x : Obj} (h : w.heap[B]? = some x) : B < w.heap.size := (Array.getElem?_eq_some_iff.1 h).1
theorem kb_below {w w' : World} {B : Nat} {x : Obj} (h : w.heap[B]? = some x) (hb : Below w.heap.size w w') : w'.heap[B]? = some x := (hb.block _ (kb_lt h)).trans h
theorem kb_cell {w : World} {b : Nat} {T : TypeId} {cs : Array Value} (h : w.heap[b]? = some (.cells cs T)) (i : Nat) : w.cell? ⟨b, i, none⟩ = cs[i]? := by simp [World.cell?, h]

/-- A contract that leaves the world, in the form that quiet regions take. -/
theorem Calls.q_of {P : Program} {f : FuncId} {args : Array Value} {v : Value} (h : ∀ w, Calls P f args w fun e w' => e = .returned v ∧ w = w') (w : World) (n : Nat) : Calls P f args (w.drewN n) fun e w'' => e = .returned v ∧ ∃ m, w'' = w.drewN m :=
  (h (w.drewN n)).mono fun _ _ ⟨he, hm⟩ => ⟨he, n, hm.symm⟩

/-- .. behind other draws. -/
theorem Calls.q2_of {P : Program} {f : FuncId} {args : Array Value} {v : Value} (h : ∀ w, Calls P f args w fun e w' => e = .returned v ∧ w = w') (w : World) (m n : Nat) : Calls P f args (w.drewN (m + n)) fun e w'' => e = .returned v ∧ ∃ n, w'' = w.drewN (m + n) :=
  (h (w.drewN (m + n))).mono fun _ _ ⟨he, hm⟩ => ⟨he, n, hm.symm⟩

/-- A function with another value at a place. -/
def upd {α : Type} (f : Nat → α) (i : Nat) (x : α) : Nat → α := fun j => if j = i then x else f j
theorem upd_same {α : Type} (f : Nat → α) (i : Nat) (x : α) : upd f i x i = x := by simp [upd]
theorem upd_other {α : Type} (f : Nat → α) {i j : Nat} (x : α) (h : j ≠ i) : upd f i x j = f j := by simp [upd, h]
theorem upd_upd {α : Type} (f : Nat → α) (i : Nat) (x y : α) : upd (upd f i x) i y = upd f i y := by
  funext j; by_cases h : j = i <;> simp [upd, h]

/-- N structs of S cells each, in a whole block. -/
structure Row (w : World) (b : Nat) (T : TypeId) (S N : Nat) (f : Nat → List Value) : Prop where
  blk : ∃ arr : Array Value, w.heap[b]? = some (.cells arr T) ∧ arr.size = N * S ∧ ∀ i c, i < N → c < S → arr[i * S + c]? = (f i)[c]?
  len : ∀ i, i < N → (f i).length = S
theorem Row.lt {w : World} {b : Nat} {T : TypeId} {S N : Nat} {f : Nat → List Value} (h : Row w b T S N f) : b < w.heap.size := by
  obtain ⟨arr, h, _⟩ := h.blk
  exact kb_lt h
theorem Row.fr {w : World} {b : Nat} {T : TypeId} {S N : Nat} {f : Nat → List Value} (h : Row w b T S N f) (o : Nat) : w.frozen? ⟨b, o, none⟩ = false := by
  obtain ⟨arr, h, _⟩ := h.blk
  exact kb_frozen h o
theorem Row.of_block {w w' : World} {b : Nat} {T : TypeId} {S N : Nat} {f : Nat → List Value} (h : Row w b T S N f) (e : w'.heap[b]? = w.heap[b]?) : Row w' b T S N f :=
  ⟨by rw [e]; exact h.blk, h.len⟩
theorem Row.below {w w' : World} {B : Nat} {b : Nat} {T : TypeId} {S N : Nat} {f : Nat → List Value} (h : Row w b T S N f) (hb : Below w.heap.size w w') : Row w' b T S N f := h.of_block (hb.block b h.lt)
theorem Row.congr {w : World} {b : Nat} {T : TypeId} {S N : Nat} {f g : Nat → List Value} (h : Row w b T S N f) (e : ∀ i, i < N → f i = g i) : Row w b T S N g := by
  refine ⟨?_, fun i hi => by rw [← e i hi]; exact h.len i hi⟩
  obtain ⟨arr, h1, h2, h3⟩ := h.blk
  exact ⟨arr, h1, h2, fun i c hi hc => by rw [← e i hi]; exact h3 i c hi hc⟩
theorem Row.cell {w : World} {b : Nat} {T : TypeId} {S N : Nat} {f : Nat → List Value} (h : Row w b T S N f) (i c : Nat) (hi : i < N) (hc : c < S) : w.cell? ⟨b, i * S + c, none⟩ = (f i)[c]? := by
  obtain ⟨arr, h1, h2, h3⟩ := h.blk
  rw [← h3 i c hi hc]
  simp [World.cell?, h1]
theorem Row.set {w : World} {b : Nat} {T : TypeId} {S N : Nat} {f : Nat → List Value} (h : Row w b T S N f) (i c : Nat) (hi : i < N) (hc : c < S) (v : Value) : Row (w.setCell ⟨b, i * S + c, none⟩ v) b T S N (upd f i ((f i).set c v)) := by
  refine ⟨?_, fun j hj => ?_⟩
  · obtain ⟨arr, h1, h2, h3⟩ := h.blk
    refine ⟨arr.setIfInBounds (i * S + c) v, kb_set h1 _ _, by simp [h2], fun j d hj hd => ?_⟩
    have hin : i * S + c < arr.size := by
      rw [h2]
      calc i * S + c < i * S + S := by omega
        _ = (i + 1) * S := by rw [Nat.succ_mul]
        _ ≤ N * S := Nat.mul_le_mul_right _ hi
    by_cases e : j = i
    · subst e
      rw [upd_same]
      by_cases e2 : d = c
      · subst e2
        rw [Array.getElem?_setIfInBounds_self_of_lt hin, List.getElem?_set_self (by rw [h.len j hi]; exact hc)]
      · rw [Array.getElem?_setIfInBounds_ne (by omega), List.getElem?_set_ne (by omega)]
        exact h3 j d hj hd
    · rw [upd_other _ _ e]
      rw [Array.getElem?_setIfInBounds_ne ?_]
      · exact h3 j d hj hd
      · intro e2
        rcases Nat.lt_or_gt_of_ne e with hl | hl
        · have : (j + 1) * S ≤ i * S := Nat.mul_le_mul_right _ hl
          rw [Nat.succ_mul] at this
          omega
        · have : (i + 1) * S ≤ j * S := Nat.mul_le_mul_right _ hl
          rw [Nat.succ_mul] at this
          omega
  · by_cases e : j = i
    · subst e; rw [upd_same, List.length_set]; exact h.len j hj
    · rw [upd_other _ _ e]; exact h.len j hj


/-- A table: its kind, its slots. -/
structure TabAt (w : World) (b r : Nat) (TT TS : TypeId) (S N k : Nat) (f : Nat → List Value) : Prop where
  tb : w.heap[b]? = some (.cells #[.int .i64 k, .slice (some ⟨r, 0, none⟩) N N] TT)
  row : Row w r TS S N f
theorem TabAt.of_block {w w' : World} {b r : Nat} {TT TS : TypeId} {S N k : Nat} {f : Nat → List Value} (h : TabAt w b r TT TS S N k f) (e1 : w'.heap[b]? = w.heap[b]?) (e2 : w'.heap[r]? = w.heap[r]?) : TabAt w' b r TT TS S N k f :=
  ⟨e1.trans h.tb, h.row.of_block e2⟩
theorem TabAt.below {w w' : World} {b r : Nat} {TT TS : TypeId} {S N k : Nat} {f : Nat → List Value} (h : TabAt w b r TT TS S N k f) (hb : Below w.heap.size w w') : TabAt w' b r TT TS S N k f :=
  h.of_block (hb.block _ (kb_lt h.tb)) (hb.block _ h.row.lt)
theorem TabAt.qt {w w' : World} {b r : Nat} {TT TS : TypeId} {S N k : Nat} {f : Nat → List Value} (h : TabAt w b r TT TS S N k f) (q : Qt w w') : TabAt w' b r TT TS S N k f := by
  obtain ⟨n, rfl⟩ := q
  exact h.of_block rfl rfl

/-- A task as it lies in memory. -/
structure TkV where
  prio : Int
  jp : Option Addr
  jn : Nat
  jc : Nat
  acc : Acc6
def TkV.zero : TkV := ⟨0, none, 0, 0, Acc6.zero⟩
abbrev TkV.jobs (t : TkV) : Value := .slice t.jp t.jn t.jc
def Acc6.cells (a : Acc6) : List Value := [.int .i64 a.gv, .int .i64 a.own, .int .i64 a.lent, .int .i64 a.done, .int .i64 a.cut, .int .i64 a.late]
def Acc6.val (a : Acc6) : Value := .agg #[.int .i64 a.gv, .int .i64 a.own, .int .i64 a.lent, .int .i64 a.done, .int .i64 a.cut, .int .i64 a.late]
def TkV.cells (t : TkV) : List Value := [.int .i64 t.prio, .slice t.jp t.jn t.jc, .int .i64 t.acc.gv, .int .i64 t.acc.own, .int .i64 t.acc.lent, .int .i64 t.acc.done, .int .i64 t.acc.cut, .int .i64 t.acc.late]
def TkV.val (t : TkV) : Value := .agg #[.int .i64 t.prio, .slice t.jp t.jn t.jc, .int .i64 t.acc.gv, .int .i64 t.acc.own, .int .i64 t.acc.lent, .int .i64 t.acc.done, .int .i64 t.acc.cut, .int .i64 t.acc.late]
/-- The slots of a table of tasks, of a table of nodes. -/
def slotT (g : Nat → Nat) (tk : Nat → Bool) (t : Nat → TkV) (i : Nat) : List Value := [.int .i64 (g i), .bool (tk i), .int .i64 (t i).prio, .slice (t i).jp (t i).jn (t i).jc, .int .i64 (t i).acc.gv, .int .i64 (t i).acc.own, .int .i64 (t i).acc.lent, .int .i64 (t i).acc.done, .int .i64 (t i).acc.cut, .int .i64 (t i).acc.late]
def slotN (g : Nat → Nat) (tk : Nat → Bool) (t : Nat → Value) (i : Nat) : List Value := [.int .i64 (g i), .bool (tk i), t i]

/-- The slot that a handle of a kind finds. -/
def fnd (N k : Nat) (g : Nat → Nat) (tk : Nat → Bool) (h : Int) : Option Nat :=
  if HV h ∧ hK h = k ∧ hS h < N ∧ tk (hS h).toNat = true ∧ (g (hS h).toNat : Int) = hG h then some (hS h).toNat else none
theorem fnd_some {N k : Nat} {g : Nat → Nat} {tk : Nat → Bool} {h : Int} {i : Nat} (e : fnd N k g tk h = some i) : HV h ∧ hK h = k ∧ hS h = i ∧ i < N ∧ tk i = true ∧ (g i : Int) = hG h := by
  unfold fnd at e
  split at e
  · next c =>
    obtain ⟨c1, c2, c3, c4, c5⟩ := c
    injection e with e
    have : 0 ≤ hS h := by unfold HV HOk at c1; omega
    subst e
    exact ⟨c1, c2, by omega, by omega, c4, c5⟩
  · cases e
end Go.Proofs.YtmfmmopnapchjaaDoor
