/- Queues of marks: Pop. -/
import Derived.Test.YtohodbpjcbjifaaGreatDoorQa
import Derived.StillTailTactics
import Derived.BigRegion
namespace Go.Proofs.YtohodbpjcbjifaaGreatDoor
open Go Go.RowKit Go.ChangeShapes Go.WideShapes
set_option linter.unusedVariables false
set_option maxRecDepth 100000
set_option maxHeartbeats 800000

/-- Nothing has turned but new blocks and the blocks in S. -/
structure Ch (S : Nat → Prop) (w w' : World) : Prop where
  os : w'.os = w.os
  tape : w'.tape = w.tape
  output : w'.output = w.output
  size : w.heap.size ≤ w'.heap.size
  block : ∀ k, k < w.heap.size → ¬ S k → w'.heap[k]? = w.heap[k]?
theorem Ch.refl (S : Nat → Prop) (w : World) : Ch S w w := ⟨rfl, rfl, rfl, Nat.le_refl _, fun _ _ _ => rfl⟩
theorem Ch.trans {S T : Nat → Prop} {a b c : World} (h : Ch S a b) (k : Ch T b c) (hT : ∀ i, T i → S i ∨ a.heap.size ≤ i) : Ch S a c :=
  ⟨k.os.trans h.os, k.tape.trans h.tape, k.output.trans h.output, Nat.le_trans h.size k.size, fun i hi hS => (k.block i (Nat.lt_of_lt_of_le hi h.size) (fun t => (hT i t).elim hS (fun h => by omega))).trans (h.block i hi hS)⟩
theorem Ch.alloc {S : Nat → Prop} {a w : World} (h : Ch S a w) (o : Obj) : Ch S a (w.alloc o) :=
  ⟨h.os, h.tape, h.output, by have := h.size; simp; omega, fun i hi hS => (Below.heap_alloc _ _ _ (Nat.lt_of_lt_of_le hi h.size)).trans (h.block i hi hS)⟩
theorem Ch.drew {S : Nat → Prop} {a w : World} (h : Ch S a w) : Ch S a w.drew := ⟨h.os, h.tape, h.output, h.size, h.block⟩
theorem Ch.qt {S : Nat → Prop} {a w w' : World} (h : Ch S a w) (q : Qt w w') : Ch S a w' := by
  obtain ⟨n, rfl⟩ := q
  exact ⟨h.os, h.tape, h.output, h.size, h.block⟩
theorem Ch.set {S : Nat → Prop} {a w : World} (h : Ch S a w) (p : Addr) (hp : S p.block ∨ a.heap.size ≤ p.block) (v : Value) : Ch S a (w.setCell p v) :=
  ⟨h.os, h.tape, h.output, by simpa [World.setCell] using h.size, fun i hi hS => (Below.heap_setCell _ _ _ _ (fun e => by subst e; exact hp.elim hS (fun h => by omega))).trans (h.block i hi hS)⟩
theorem Ch.below {S : Nat → Prop} {w w' : World} {B : Nat} (h : Ch S w w') (hS : ∀ k, S k → B ≤ k) (hB : B ≤ w.heap.size) : Below B w w' :=
  ⟨h.os, h.tape, h.output, h.size, fun k hk => h.block k (by omega) (fun s => by have := hS k s; omega)⟩
theorem Ch.of_below {w w' : World} (h : Below w.heap.size w w') (S : Nat → Prop) : Ch S w w' := ⟨h.os, h.tape, h.output, h.size, fun k hk _ => h.block k hk⟩
theorem Ch.mono {S T : Nat → Prop} {w w' : World} (h : Ch S w w') (hS : ∀ k, S k → T k) : Ch T w w' := ⟨h.os, h.tape, h.output, h.size, fun k hk t => h.block k hk (fun s => t (hS k s))⟩

/-- A new block of five noughts. -/
abbrev zero5 : Obj := .cells #[.int .i64 0, .int .i64 0, .int .i64 0, .int .i64 0, .int .i64 0] 24
def Mk.zero : Mk := ⟨0, 0, 0, 0, 0⟩
theorem At5.alloc {w : World} {b o : Nat} {m : Mk} (h : At5 w b o m) (ob : Obj) (hb : b < w.heap.size) : At5 (w.alloc ob) b o m :=
  h.of_block (Below.heap_alloc _ _ _ hb)
theorem At5.qt {w w' : World} {b o : Nat} {m : Mk} (h : At5 w b o m) (q : Qt w w') : At5 w' b o m := by
  obtain ⟨n, rfl⟩ := q
  exact h.of_block rfl
theorem cell_new (w : World) (cs : Array Value) (t : TypeId) (i : Nat) (v : Value) (h : cs[i]? = some v) : (w.alloc (.cells cs t)).cell? ⟨w.heap.size, i, none⟩ = some v := by
  simp only [World.cell?, heap_alloc_new]
  exact h
theorem frozen_new (w : World) (cs : Array Value) (t : TypeId) (i : Nat) : (w.alloc (.cells cs t)).frozen? ⟨w.heap.size, i, none⟩ = false := by
  simp only [World.frozen?, heap_alloc_new]
  simp
theorem frozen_old {w w' : World} {b : Nat} (h : ∀ o, w.frozen? ⟨b, o, none⟩ = false) (e : w'.heap[b]? = w.heap[b]?) : ∀ o, w'.frozen? ⟨b, o, none⟩ = false :=
  fun o => (World.frozen?_of_block (w := w) (a := ⟨b, o, none⟩) e).trans (h o)
theorem At5_new (w : World) : At5 (w.alloc zero5) w.heap.size 0 Mk.zero :=
  ⟨cell_new w _ _ 0 _ rfl, cell_new w _ _ 1 _ rfl, cell_new w _ _ 2 _ rfl, cell_new w _ _ 3 _ rfl, cell_new w _ _ 4 _ rfl⟩

/-- What Pop's stores meet: the queue, its ring's head, the new blocks. -/
structure PopF (w : World) (b g R c : Nat) (f m l : Int) (o : Nat) (x' x : Mk) (n : Nat) : Prop where
  q : Q4 w b (.slice (some ⟨g, 0, none⟩) R c) f m l
  a : At5 w g o x'
  k : ∀ o, w.frozen? ⟨g, o, none⟩ = false
  y : At5 w n 0 Mk.zero
  z : At5 w (n + 1) 0 Mk.zero
  t : ∀ o, w.frozen? ⟨n, o, none⟩ = false
  v : At5 w (n + 2) 0 x
  s : w.heap.size = n + 3
theorem PopF.same {w w' : World} {b g R c : Nat} {f m l : Int} {o : Nat} {x' x : Mk} {n : Nat} (h : PopF w b g R c f m l o x' x n) (e : w'.heap = w.heap) : PopF w' b g R c f m l o x' x n :=
  ⟨h.q.of_block (by rw [e]; exact Nat.le_refl _) (by rw [e]), h.a.of_block (by rw [e]), frozen_old h.k (by rw [e]), h.y.of_block (by rw [e]), h.z.of_block (by rw [e]), frozen_old h.t (by rw [e]), h.v.of_block (by rw [e]), by rw [e]; exact h.s⟩

/-- A mark laid into five cells. -/
def put5 (w : World) (g o : Nat) (m : Mk) : World := ((((w.setCell ⟨g, o, none⟩ (.int .i64 m.t)).setCell ⟨g, o + 1, none⟩ (.int .i64 m.k)).setCell ⟨g, o + 2, none⟩ (.int .i64 m.h)).setCell ⟨g, o + 3, none⟩ (.int .i64 m.j)).setCell ⟨g, o + 4, none⟩ (.int .i64 m.n)
theorem put5_block (w : World) (g o : Nat) (m : Mk) (k : Nat) (h : k ≠ g) : (put5 w g o m).heap[k]? = w.heap[k]? := by
  unfold put5
  rw [Below.heap_setCell _ _ _ _ h, Below.heap_setCell _ _ _ _ h, Below.heap_setCell _ _ _ _ h, Below.heap_setCell _ _ _ _ h, Below.heap_setCell _ _ _ _ h]
theorem put5_size (w : World) (g o : Nat) (m : Mk) : (put5 w g o m).heap.size = w.heap.size := by
  simp [put5, World.setCell]
theorem put5_else (w : World) (g o : Nat) (m : Mk) (o' : Nat) (h : o' < o ∨ o + 5 ≤ o') : (put5 w g o m).cell? ⟨g, o', none⟩ = w.cell? ⟨g, o', none⟩ := by
  unfold put5
  rw [World.cell?_setCell_other, World.cell?_setCell_other, World.cell?_setCell_other, World.cell?_setCell_other, World.cell?_setCell_other]
  all_goals (intro e; injection e with _ e2; omega)
theorem set_frozen {w : World} {b : Nat} (h : ∀ o, w.frozen? ⟨b, o, none⟩ = false) (a : Addr) (v : Value) : ∀ o, (w.setCell a v).frozen? ⟨b, o, none⟩ = false := by
  intro o
  rw [World.frozen?_setCell]
  exact h o
theorem same_set {w : World} {a : Addr} {v u : Value} (h : w.cell? a = some u) : (w.setCell a v).cell? a = some v := World.cell?_setCell_same w a v h
theorem other_set {w : World} {a b : Addr} {v u : Value} (e : a ≠ b) (h : w.cell? b = some u) : (w.setCell a v).cell? b = some u := (World.cell?_setCell_other w a b v e).trans h
theorem put5_at {w : World} {g o : Nat} {x : Mk} (h : At5 w g o x) (m : Mk) : At5 (put5 w g o m) g o m := by
  have ne : ∀ i j : Nat, i ≠ j → (⟨g, o + i, none⟩ : Addr) ≠ ⟨g, o + j, none⟩ := fun i j hij e => by injection e with _ e2; omega
  have ne0 : ∀ j : Nat, 0 ≠ j → (⟨g, o, none⟩ : Addr) ≠ ⟨g, o + j, none⟩ := fun j hij e => by injection e with _ e2; omega
  have en0 : ∀ j : Nat, 0 ≠ j → (⟨g, o + j, none⟩ : Addr) ≠ ⟨g, o, none⟩ := fun j hij e => by injection e with _ e2; omega
  refine ⟨?_, ?_, ?_, ?_, ?_⟩
  · exact other_set (en0 4 (by decide)) (other_set (en0 3 (by decide)) (other_set (en0 2 (by decide)) (other_set (en0 1 (by decide)) (same_set h.c0))))
  · exact other_set (ne 4 1 (by decide)) (other_set (ne 3 1 (by decide)) (other_set (ne 2 1 (by decide)) (same_set (other_set (ne0 1 (by decide)) h.c1))))
  · exact other_set (ne 4 2 (by decide)) (other_set (ne 3 2 (by decide)) (same_set (other_set (ne 1 2 (by decide)) (other_set (ne0 2 (by decide)) h.c2))))
  · exact other_set (ne 4 3 (by decide)) (same_set (other_set (ne 2 3 (by decide)) (other_set (ne 1 3 (by decide)) (other_set (ne0 3 (by decide)) h.c3))))
  · exact same_set (other_set (ne 3 4 (by decide)) (other_set (ne 2 4 (by decide)) (other_set (ne 1 4 (by decide)) (other_set (ne0 4 (by decide)) h.c4))))
theorem At5.put_else {w : World} {g o' : Nat} {x : Mk} (h : At5 w g o' x) (o : Nat) (m : Mk) (e : o' + 5 ≤ o ∨ o + 5 ≤ o') : At5 (put5 w g o m) g o' x :=
  ⟨(put5_else _ _ _ _ _ (by omega)).trans h.c0, (put5_else _ _ _ _ _ (by omega)).trans h.c1, (put5_else _ _ _ _ _ (by omega)).trans h.c2, (put5_else _ _ _ _ _ (by omega)).trans h.c3, (put5_else _ _ _ _ _ (by omega)).trans h.c4⟩
theorem put5_frozen {w : World} {b : Nat} (h : ∀ o, w.frozen? ⟨b, o, none⟩ = false) (g o : Nat) (m : Mk) : ∀ o', (put5 w g o m).frozen? ⟨b, o', none⟩ = false :=
  set_frozen (set_frozen (set_frozen (set_frozen (set_frozen h _ _) _ _) _ _) _ _) _ _
theorem PopF.put {w : World} {b g R c : Nat} {f m l : Int} {o : Nat} {x' x : Mk} {n : Nat} (h : PopF w b g R c f m l o x' x n) (hb : b ≠ g) (hg : g < n) (y : Mk) : PopF (put5 w g o y) b g R c f m l o y x n :=
  ⟨h.q.of_block (by rw [put5_size]; exact Nat.le_refl _) (put5_block _ _ _ _ _ hb), put5_at h.a y, put5_frozen h.k _ _ _, h.y.of_block (put5_block _ _ _ _ _ (by omega)), h.z.of_block (put5_block _ _ _ _ _ (by omega)), put5_frozen h.t _ _ _, h.v.of_block (put5_block _ _ _ _ _ (by omega)), by rw [put5_size]; exact h.s⟩

theorem Ch.put {S : Nat → Prop} {a w : World} (h : Ch S a w) (g : Nat) (hp : S g ∨ a.heap.size ≤ g) (o : Nat) (m : Mk) : Ch S a (put5 w g o m) :=
  ((((h.set _ hp _).set _ hp _).set _ hp _).set _ hp _).set _ hp _
/-- A ring of R marks in a block. -/
structure Ring (w : World) (g R : Nat) (ms : Nat → Mk) : Prop where
  lt : g < w.heap.size
  fr : ∀ o, w.frozen? ⟨g, o, none⟩ = false
  at5 : ∀ j, j < R → At5 w g (j * 5) (ms j)
theorem Ring.of_block {w w' : World} {g R : Nat} {ms : Nat → Mk} (h : Ring w g R ms) (hs : w.heap.size ≤ w'.heap.size) (e : w'.heap[g]? = w.heap[g]?) : Ring w' g R ms :=
  ⟨Nat.lt_of_lt_of_le h.lt hs, frozen_old h.fr e, fun j hj => (h.at5 j hj).of_block e⟩
theorem Ring.put {w : World} {g R : Nat} {ms : Nat → Mk} (h : Ring w g R ms) (j : Nat) (hj : j < R) (m : Mk) : Ring (put5 w g (j * 5) m) g R (fun i => if i = j then m else ms i) := by
  refine ⟨by rw [put5_size]; exact h.lt, put5_frozen h.fr _ _ _, fun i hi => ?_⟩
  show At5 _ _ _ (if i = j then m else ms i)
  by_cases e : i = j
  · subst e
    rw [if_pos rfl]
    exact put5_at (h.at5 i hi) m
  · rw [if_neg e]
    exact (h.at5 i hi).put_else _ _ (by omega)
theorem Q4.set {w : World} {b : Nat} {rv : Value} {f m l : Int} (h : Q4 w b rv f m l) (f' m' : Int) : Q4 ((w.setCell ⟨b, 1, none⟩ (.int .i64 f')).setCell ⟨b, 2, none⟩ (.int .i64 m')) b rv f' m' l :=
  ⟨by simpa [World.setCell] using h.lt, other_set (by intro e; injection e with _ e2; omega) (other_set (by intro e; injection e with _ e2; omega) h.c0), other_set (by intro e; injection e with _ e2; omega) (same_set h.c1), same_set (other_set (by intro e; injection e with _ e2; omega) h.c2), other_set (by intro e; injection e with _ e2; omega) (other_set (by intro e; injection e with _ e2; omega) h.c3), set_frozen (set_frozen h.fr _ _) _ _⟩

theorem pop_t (w : World) (b g R c : Nat) (f : Nat) (m l : Int) (ms : Nat → Mk) (x : Mk) (h : Q4 w b (.slice (some ⟨g, 0, none⟩) R c) f m l) (hR : 0 < R) (hR' : R ≤ 4096) (hRc : R ≤ c) (hf : f < R) (hm : 0 < m) (hl : m ≤ l) (hl' : l ≤ 4096)
    (hr : Ring w g R ms) (hxm : ms f = x) (hgb : g ≠ b) :
    Calls Tryz.prog 53 #[.pointer (some ⟨b, 0, none⟩)] w fun e w' => e = .returned (.tuple #[x.val, .nilIface]) ∧ Q4 w' b (.slice (some ⟨g, 0, none⟩) R c) ((f + 1) % R) (m - 1) l ∧ Ring w' g R (fun i => if i = f then Mk.zero else ms i) ∧ Ch (fun k => k = b ∨ k = g) w w' := by
  have hg := hr.lt
  have hfr := hr.fr
  have hx : At5 w g (f * 5) x := hxm ▸ hr.at5 f hf
  have HR := Lib.hid hr
  clear hr hxm
  have HA := Lib.hid (fun w' h' => has_t w' b (.slice (some ⟨g, 0, none⟩) R c) f m l 0 h')
  have hm' : decide (0 ≤ (0 : Int) ∧ 0 < m) = true := by simp; omega
  rw [hm'] at HA
  clear hm'
  have H4 := Lib.hid h
  have hfR : (f : Int) < (R : Int) := by omega
  obtain ⟨w1, hw1⟩ : ∃ w1, w1 = w.alloc zero5 := ⟨_, rfl⟩
  obtain ⟨w2, hw2⟩ : ∃ w2, w2 = w1.alloc zero5 := ⟨_, rfl⟩
  have s1 : w1.heap.size = w.heap.size + 1 := by rw [hw1]; simp
  have s2 : w2.heap.size = w.heap.size + 2 := by rw [hw2]; simp; omega
  have z1 : At5 w2 w.heap.size 0 Mk.zero := by rw [hw2]; refine At5.alloc ?_ _ (by omega); rw [hw1]; exact At5_new w
  have z2 : At5 w2 (w.heap.size + 1) 0 Mk.zero := by rw [hw2, ← s1]; exact At5_new w1
  have hg2 : w2.heap[g]? = w.heap[g]? := by rw [hw2, Below.heap_alloc _ _ _ (by omega), hw1, Below.heap_alloc _ _ _ (by omega)]
  have hb2 : w2.heap[b]? = w.heap[b]? := by have := H4.out.lt; rw [hw2, Below.heap_alloc _ _ _ (by omega), hw1, Below.heap_alloc _ _ _ (by omega)]
  have k4 : Q4 w2 b (.slice (some ⟨g, 0, none⟩) R c) f m l := h.of_block (by omega) hb2
  have k5 : At5 w2 g (f * 5) x := hx.of_block hg2
  have kf := frozen_old hfr hg2
  have t1 : ∀ o, w2.frozen? ⟨w.heap.size, o, none⟩ = false := by
    refine frozen_old (w := w1) ?_ (by rw [hw2, Below.heap_alloc _ _ _ (by omega)])
    intro o; rw [hw1]; exact frozen_new _ _ _ _
  have t2 : ∀ o, w2.frozen? ⟨w.heap.size + 1, o, none⟩ = false := by
    intro o; rw [hw2, ← s1]; exact frozen_new _ _ _ _
  have A := Lib.hid (⟨Nat.lt_of_lt_of_le h.lt (by omega), by omega, hg2, hb2, k4, k5, kf, z1, z2, t1, t2⟩ : b < w2.heap.size ∧ g < w2.heap.size ∧ _ ∧ _ ∧ _ ∧ _ ∧ _ ∧ _ ∧ _ ∧ _ ∧ _)
  rw [hw1] at hw2
  have HW2 := Lib.hid hw2
  clear hw1 hw2 s1 z1 z2 hg2 hb2 k4 k5 kf t1 t2 h hx hfr w1
  go_enter Tryz.func53, Tryz.ntmps53
  go_wp2_with fail
  rw [← HW2.out]
  refine (HA.out _ A.out.2.2.2.2.1).mono ?_
  rintro e w' ⟨rfl, rfl⟩
  obtain ⟨hbs, hgs, hg2, hb2, ⟨lt, c0, c1, c2, c3, fr⟩, ⟨x0, x1, x2, x3, x4⟩, kf, ⟨y0, y1, y2, y3, y4⟩, ⟨z0, z1, z2, z3, z4⟩, t1, t2⟩ := A.out
  obtain ⟨lt', c0', c1', c2', c3', fr'⟩ := A.out.2.2.2.2.1.alloc zero5
  obtain ⟨x0', x1', x2', x3', x4'⟩ := A.out.2.2.2.2.2.1.alloc zero5 hgs
  go_wp2_with fail
  go_region
  have hrest := Lib.hid s2
  obtain ⟨w3, hw3⟩ : ∃ w3, w3 = (w2.alloc (.cells #[.int .i64 x.t, .int .i64 x.k, .int .i64 x.h, .int .i64 x.j, .int .i64 x.n] 24)).drew := ⟨_, rfl⟩
  have eb : ∀ k, k < w2.heap.size → w3.heap[k]? = w2.heap[k]? := fun k hk => by rw [hw3]; exact Below.heap_alloc _ _ _ hk
  have s3 : w3.heap.size = w.heap.size + 3 := by rw [hw3]; show (w2.heap.push _).size = _; simp; omega
  have n3 : At5 w3 (w.heap.size + 2) 0 x := by rw [hw3, ← s2]; exact ⟨cell_new w2 _ _ 0 _ rfl, cell_new w2 _ _ 1 _ rfl, cell_new w2 _ _ 2 _ rfl, cell_new w2 _ _ 3 _ rfl, cell_new w2 _ _ 4 _ rfl⟩
  have B := Lib.hid (⟨A.out.2.2.2.2.1.of_block (by omega) (eb b hbs), A.out.2.2.2.2.2.1.of_block (eb g hgs), frozen_old A.out.2.2.2.2.2.2.1 (eb g hgs), A.out.2.2.2.2.2.2.2.1.of_block (eb _ (by omega)), A.out.2.2.2.2.2.2.2.2.1.of_block (eb _ (by omega)), frozen_old A.out.2.2.2.2.2.2.2.2.2.1 (eb _ (by omega)), n3, s3⟩ : PopF w3 b g R c f m l (f * 5) x x w.heap.size)
  have HG := Lib.hid ((eb g hgs).trans hg2)
  have HB := Lib.hid ((eb b hbs).trans hb2)
  rw [← hw3]
  have HW3 := Lib.hid hw3
  clear hw3 eb s3 n3 lt c0 c1 c2 c3 fr x0 x1 x2 x3 x4 kf y0 y1 y2 y3 y4 z0 z1 z2 z3 z4 t1 t2 lt' c0' c1' c2' c3' fr' x0' x1' x2' x3' x4' hbs hgs hg2 hb2
  obtain ⟨⟨lt, c0, c1, c2, c3, fr⟩, ⟨x0, x1, x2, x3, x4⟩, kf, ⟨y0, y1, y2, y3, y4⟩, ⟨z0, z1, z2, z3, z4⟩, t1, ⟨v0, v1, v2, v3, v4⟩, s3⟩ := B.out
  go_wp2_with fail
  go_still_tail 10, (by kernel_rfl)
  change wpList _ _ _ _ _ w3.drew
  obtain ⟨w4, hw4⟩ : ∃ w4, w4 = w3.drew := ⟨_, rfl⟩
  rw [← hw4]
  have B4 : PopF w4 b g R c f m l (f * 5) x x w.heap.size := B.out.same (by rw [hw4]; rfl)
  have HW4 := Lib.hid hw4
  have B4h := Lib.hid B4
  clear hw4 lt c0 c1 c2 c3 fr x0 x1 x2 x3 x4 kf y0 y1 y2 y3 y4 z0 z1 z2 z3 z4 t1 v0 v1 v2 v3 v4 s3
  obtain ⟨⟨lt, c0, c1, c2, c3, fr⟩, ⟨x0, x1, x2, x3, x4⟩, kf, ⟨y0, y1, y2, y3, y4⟩, ⟨z0, z1, z2, z3, z4⟩, t1, ⟨v0, v1, v2, v3, v4⟩, s3⟩ := B4
  go_wp2_with fail
  obtain ⟨w5, hw5⟩ : ∃ w5, w5 = put5 w4 g (f * 5) Mk.zero := ⟨_, rfl⟩
  rw [show ((((w4.setCell ⟨g, f * 5, none⟩ (.int .i64 Mk.zero.t)).setCell ⟨g, f * 5 + 1, none⟩ (.int .i64 Mk.zero.k)).setCell ⟨g, f * 5 + 2, none⟩ (.int .i64 Mk.zero.h)).setCell ⟨g, f * 5 + 3, none⟩ (.int .i64 Mk.zero.j)).setCell ⟨g, f * 5 + 4, none⟩ (.int .i64 Mk.zero.n) = w5 from hw5.symm]
  have B5 := Lib.hid (hw5 ▸ PopF.put B4h.out (fun e => hgb e.symm) hg Mk.zero : PopF w5 b g R c f m l (f * 5) Mk.zero x w.heap.size)
  refine (at_t w5 b (some ⟨g, 0, none⟩) f m l R c 1 B5.out.q hR hR' ⟨by omega, by omega⟩ (by decide)).mono ?_
  rintro e w6 ⟨rfl, hq6⟩
  have B6 : PopF w6 b g R c f m l (f * 5) Mk.zero x w.heap.size := B5.out.same (by obtain ⟨n, rfl⟩ := hq6; rfl)
  have H6 := Lib.hid hq6
  have H5 := Lib.hid hw5
  clear hq6 hw5 lt c0 c1 c2 c3 fr x0 x1 x2 x3 x4 kf y0 y1 y2 y3 y4 z0 z1 z2 z3 z4 t1 v0 v1 v2 v3 v4 s3
  obtain ⟨⟨lt, c0, c1, c2, c3, fr⟩, ⟨x0, x1, x2, x3, x4⟩, kf, ⟨y0, y1, y2, y3, y4⟩, ⟨z0, z1, z2, z3, z4⟩, t1, ⟨v0, v1, v2, v3, v4⟩, s3⟩ := B6
  simp only [Nat.zero_add] at y1 y2 y3 y4 v1 v2 v3 v4
  have hb := H4.out.lt
  go_wp2_with fail
  refine bodyPost_ret (v := .tuple #[x.val, .nilIface]) ?_ rfl ?_
  · have Y : At5 ((w6.setCell ⟨b, 1, none⟩ (.int .i64 ((f + 1) % R))).setCell ⟨b, 2, none⟩ (.int .i64 (m - 1))) w.heap.size 0 Mk.zero := by
      refine At5.of_block (w := w6) ⟨y0, y1, y2, y3, y4⟩ ?_
      rw [Below.heap_setCell _ _ _ _ (by show w.heap.size ≠ b; omega), Below.heap_setCell _ _ _ _ (by show w.heap.size ≠ b; omega)]
    have P5 := put5_at Y x
    show (results Tryz.f53 _).run Tryz.prog (put5 ((w6.setCell ⟨b, 1, none⟩ (.int .i64 ((f + 1) % R))).setCell ⟨b, 2, none⟩ (.int .i64 (m - 1))) w.heap.size 0 x) = .ok _ (put5 ((w6.setCell ⟨b, 1, none⟩ (.int .i64 ((f + 1) % R))).setCell ⟨b, 2, none⟩ (.int .i64 (m - 1))) w.heap.size 0 x)
    generalize put5 ((w6.setCell ⟨b, 1, none⟩ (.int .i64 ((f + 1) % R))).setCell ⟨b, 2, none⟩ (.int .i64 (m - 1))) w.heap.size 0 x = W7 at P5 ⊢
    obtain ⟨p0, p1, p2, p3, p4⟩ := P5
    simp only [Nat.zero_add] at p1 p2 p3 p4
    simp [results, Tryz.f53, go_sem, Mk.val, p0, p1, p2, p3, p4]
  · refine ⟨rfl, ?_⟩
    have r2 : Ring w2 g R ms := HR.out.of_block (by omega) A.out.2.2.1
    have e3 : w3.heap[g]? = w2.heap[g]? := HG.out.trans A.out.2.2.1.symm
    have r3 : Ring w3 g R ms := r2.of_block (by rw [B.out.s]; omega) e3
    have r4 : Ring w4 g R ms := r3.of_block (by rw [HW4.out]; exact Nat.le_refl _) (by rw [HW4.out]; rfl)
    have r5 : Ring w5 g R (fun i => if i = f then Mk.zero else ms i) := by rw [H5.out]; exact r4.put f hf _
    have e6 : w6.heap = w5.heap := by obtain ⟨n, e⟩ := H6.out; rw [e]; rfl
    have r6 : Ring w6 g R (fun i => if i = f then Mk.zero else ms i) := r5.of_block (by rw [e6]; exact Nat.le_refl _) (by rw [e6])
    have q6 : Q4 w6 b (.slice (some ⟨g, 0, none⟩) R c) f m l := ⟨lt, c0, c1, c2, c3, fr⟩
    have q7 := q6.set ((f + 1) % R) (m - 1)
    have ch : Ch (fun k => k = b ∨ k = g) w w6 := by
      have c2 : Ch (fun k => k = b ∨ k = g) w w2 := by rw [HW2.out]; exact ((Ch.refl _ w).alloc _).alloc _
      have c3 : Ch (fun k => k = b ∨ k = g) w w3 := by rw [HW3.out]; exact (c2.alloc _).drew
      have c4 : Ch (fun k => k = b ∨ k = g) w w4 := by rw [HW4.out]; exact c3.drew
      have c5 : Ch (fun k => k = b ∨ k = g) w w5 := by rw [H5.out]; exact c4.put g (.inl (.inr rfl)) _ _
      exact c5.qt H6.out
    have es : ∀ X : World, ∀ k, k ≠ w.heap.size → (put5 X w.heap.size 0 x).heap[k]? = X.heap[k]? := fun X k hk => put5_block _ _ _ _ _ hk
    refine ⟨q7.of_block (by show _ ≤ (put5 _ w.heap.size 0 x).heap.size; rw [put5_size]; exact Nat.le_refl _) (es _ b (by omega)), ?_, ?_⟩
    · refine r6.of_block (by show _ ≤ (put5 _ w.heap.size 0 x).heap.size; rw [put5_size]; simp [World.setCell]) ((es _ g (by omega)).trans ?_)
      rw [Below.heap_setCell _ _ _ _ hgb, Below.heap_setCell _ _ _ _ hgb]
    · exact Ch.put ((ch.set _ (.inl (.inl rfl)) _).set _ (.inl (.inl rfl)) _) w.heap.size (.inr (Nat.le_refl _)) 0 x
end Go.Proofs.YtohodbpjcbjifaaGreatDoor
