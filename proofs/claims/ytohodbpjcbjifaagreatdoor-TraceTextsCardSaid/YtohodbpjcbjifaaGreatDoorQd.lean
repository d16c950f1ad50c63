/- Queues of marks: Push where there is room in the ring. -/
import Derived.Test.YtohodbpjcbjifaaGreatDoorQc
namespace Go.Proofs.YtohodbpjcbjifaaGreatDoor
open Go Go.RowKit Go.ChangeShapes Go.WideShapes
set_option linter.unusedVariables false
set_option maxRecDepth 100000
set_option maxHeartbeats 800000

theorem Ring.qt {w w' : World} {g R : Nat} {ms : Nat → Mk} (h : Ring w g R ms) (q : Qt w w') : Ring w' g R ms := by
  obtain ⟨n, rfl⟩ := q
  exact h.of_block (Nat.le_refl _) rfl
theorem Qt.trans {a b c : World} (h : Qt a b) (k : Qt b c) : Qt a c := by
  obtain ⟨n, rfl⟩ := h
  obtain ⟨m, rfl⟩ := k
  exact ⟨n + m, World.drewN_drewN _ _ _⟩
/-- The cells of a struct that was boxed. -/
theorem At5_box (w : World) (m : Mk) : At5 (w.alloc (.cells #[.int .i64 m.t, .int .i64 m.k, .int .i64 m.h, .int .i64 m.j, .int .i64 m.n] 24)) w.heap.size 0 m :=
  ⟨cell_new w _ _ 0 _ rfl, cell_new w _ _ 1 _ rfl, cell_new w _ _ 2 _ rfl, cell_new w _ _ 3 _ rfl, cell_new w _ _ 4 _ rfl⟩

theorem Q4.set2 {w : World} {b : Nat} {rv : Value} {f m l : Int} (h : Q4 w b rv f m l) (m' : Int) : Q4 (w.setCell ⟨b, 2, none⟩ (.int .i64 m')) b rv f m' l :=
  ⟨by simpa [World.setCell] using h.lt, other_set (by intro e; injection e with _ e2; omega) h.c0, other_set (by intro e; injection e with _ e2; omega) h.c1, same_set h.c2, other_set (by intro e; injection e with _ e2; omega) h.c3, set_frozen h.fr _ _⟩

theorem pushA (W : World) (b g R c : Nat) (f n : Nat) (l : Int) (ms : Nat → Mk) (x : Mk) (h : Q4 W b (.slice (some ⟨g, 0, none⟩) R c) f n l) (hR : 0 < R) (hR' : R ≤ 4096) (hRc : R ≤ c) (hf : f < R) (hn : n < R) (hl : n < l) (hl' : l ≤ 4096)
    (hr : Ring W g R ms) (hgb : g ≠ b) :
    Calls Tryz.prog 54 #[.pointer (some ⟨b, 0, none⟩), x.val] W fun e w' => e = .returned .nilIface ∧ Q4 w' b (.slice (some ⟨g, 0, none⟩) R c) f (n + 1 : Int) l ∧ Ring w' g R (fun i => if i = (f + n) % R then x else ms i) ∧ Ch (fun k => k = b ∨ k = g) W w' := by
  obtain ⟨w1, hw1⟩ : ∃ w1, w1 = W.alloc (.cells #[.int .i64 x.t, .int .i64 x.k, .int .i64 x.h, .int .i64 x.j, .int .i64 x.n] 24) := ⟨_, rfl⟩
  have q1 : Q4 w1 b (.slice (some ⟨g, 0, none⟩) R c) f n l := hw1 ▸ h.alloc _
  have r1 : Ring w1 g R ms := hr.of_block (by rw [hw1]; simp) (by rw [hw1]; exact Below.heap_alloc _ _ _ hr.lt)
  have b1 : At5 w1 W.heap.size 0 x := by rw [hw1]; exact At5_box W x
  have s1 : w1.heap.size = W.heap.size + 1 := by rw [hw1]; simp
  have c1 : Ch (fun k => k = b ∨ k = g) W w1 := by rw [hw1]; exact (Ch.refl _ W).alloc _
  have hbW := h.lt
  have hgW := hr.lt
  clear h hr
  have RM' := Lib.hid (room_t w1 b _ f n l q1 (by omega) (by omega) hl')
  have HW1 := Lib.hid hw1
  have hnz : (l - n == (0 : Int)) = false := by simp; omega
  have hnR : ((n : Int) == (R : Int)) = false := by simp; omega
  clear hw1
  go_enter Tryz.func54, Tryz.ntmps54
  simp only [Mk.val]
  go_wp2_with fail
  rw [← HW1.out]
  refine RM'.out.mono ?_
  rintro e w' ⟨rfl, rfl⟩
  have Q1 := Lib.hid q1
  have B1 := Lib.hid b1
  obtain ⟨lt, c0, c1', c2, c3, fr⟩ := q1
  go_wp2_with fail
  go_quiet (fail)
  obtain ⟨w2, hw2⟩ : ∃ w2, w2 = w1.drewN nq := ⟨_, rfl⟩
  rw [← hw2]
  have hq2 : Qt w1 w2 := ⟨nq, hw2⟩
  clear hw2 lt c0 c1' c2 c3 fr
  have AT := Lib.hid (fun w' q => at_t w' b (some ⟨g, 0, none⟩) f n l R c n q hR hR' ⟨by omega, by omega⟩ (by omega))
  have hj : (f + n) % R < R := Nat.mod_lt _ hR
  have ej : ((f : Int) + (n : Int)) % (R : Int) = (((f + n) % R : Nat) : Int) := by simp
  simp only [ej] at AT
  clear ej
  have R1 := Lib.hid r1
  clear r1
  generalize hjd : (f + n) % R = j at *
  have HJ := Lib.hid hjd
  clear hjd
  have hjR : (j : Int) < (R : Int) := by omega
  have KQ : Hid (∀ w', Qt w1 w' → w'.cell? ⟨b, 0, none⟩ = some (.slice (some ⟨g, 0, none⟩) R c) ∧ w'.cell? ⟨b, 2, none⟩ = some (.int .i64 n) ∧ w'.cell? ⟨W.heap.size, 0, none⟩ = some (.int .i64 x.t) ∧ w'.cell? ⟨W.heap.size, 1, none⟩ = some (.int .i64 x.k) ∧ w'.cell? ⟨W.heap.size, 2, none⟩ = some (.int .i64 x.h) ∧ w'.cell? ⟨W.heap.size, 3, none⟩ = some (.int .i64 x.j) ∧ w'.cell? ⟨W.heap.size, 4, none⟩ = some (.int .i64 x.n)) := by
    intro w' q
    have q4 := Q1.out.qt q
    have a5 := B1.out.qt q
    exact ⟨q4.c0, q4.c2, a5.c0, a5.c1, a5.c2, a5.c3, a5.c4⟩
  have KP : Hid (∀ w', Qt w1 w' → (put5 w' g (j * 5) x).cell? ⟨b, 0, none⟩ = some (.slice (some ⟨g, 0, none⟩) R c) ∧ (put5 w' g (j * 5) x).cell? ⟨b, 2, none⟩ = some (.int .i64 n) ∧ (put5 w' g (j * 5) x).cell? ⟨W.heap.size, 0, none⟩ = some (.int .i64 x.t) ∧ (put5 w' g (j * 5) x).cell? ⟨W.heap.size, 1, none⟩ = some (.int .i64 x.k) ∧ (put5 w' g (j * 5) x).cell? ⟨W.heap.size, 2, none⟩ = some (.int .i64 x.h) ∧ (put5 w' g (j * 5) x).cell? ⟨W.heap.size, 3, none⟩ = some (.int .i64 x.j) ∧ (put5 w' g (j * 5) x).cell? ⟨W.heap.size, 4, none⟩ = some (.int .i64 x.n)) := by
    intro w' q
    have q4 := (Q1.out.qt q).of_block (w' := put5 w' g (j * 5) x) (by rw [put5_size]; exact Nat.le_refl _) (put5_block _ _ _ _ _ (fun e => hgb e.symm))
    have a5 := (B1.out.qt q).of_block (w' := put5 w' g (j * 5) x) (put5_block _ _ _ _ _ (by omega))
    exact ⟨q4.c0, q4.c2, a5.c0, a5.c1, a5.c2, a5.c3, a5.c4⟩
  have hqd : Qt w1 w2.drew := hq2.drew 1
  obtain ⟨d0, d1, d2, d3, d4, d5, d6⟩ := KQ.out _ hq2
  go_wp2_with fail
  go_region_held3 (fun w' => w'.cell? ⟨b, 0, none⟩ = some (.slice (some ⟨g, 0, none⟩) R c) ∧ w'.cell? ⟨b, 2, none⟩ = some (.int .i64 n) ∧ w'.cell? ⟨W.heap.size, 0, none⟩ = some (.int .i64 x.t) ∧ w'.cell? ⟨W.heap.size, 1, none⟩ = some (.int .i64 x.k) ∧ w'.cell? ⟨W.heap.size, 2, none⟩ = some (.int .i64 x.h) ∧ w'.cell? ⟨W.heap.size, 3, none⟩ = some (.int .i64 x.j) ∧ w'.cell? ⟨W.heap.size, 4, none⟩ = some (.int .i64 x.n)) ((first | exact KQ.out _ hqd | exact KQ.out _ hq3 | exact KP.out _ hq3)) ((first | (go_at_call 78; refine (AT.out _ (Q1.out.qt hqd)).mono ?_; rintro e w3 ⟨rfl, hqe⟩; have hq3 := hqd.trans hqe; have r3 := R1.out.qt hq3; have y5 := r3.at5 j hj; obtain ⟨y0, y1, y2, y3, y4⟩ := y5; have yf := r3.fr)))
  obtain ⟨w4, hw4⟩ : ∃ w4, w4 = put5 w3 g (j * 5) x := ⟨_, rfl⟩
  rw [show ((((w3.setCell ⟨g, j * 5, none⟩ (.int .i64 x.t)).setCell ⟨g, j * 5 + 1, none⟩ (.int .i64 x.k)).setCell ⟨g, j * 5 + 2, none⟩ (.int .i64 x.h)).setCell ⟨g, j * 5 + 3, none⟩ (.int .i64 x.j)).setCell ⟨g, j * 5 + 4, none⟩ (.int .i64 x.n) = w4 from hw4.symm]
  have q4 : Q4 w4 b (.slice (some ⟨g, 0, none⟩) R c) f n l := by
    rw [hw4]; exact (Q1.out.qt hq3).of_block (by rw [put5_size]; exact Nat.le_refl _) (put5_block _ _ _ _ _ (fun e => hgb e.symm))
  have r4 : Ring w4 g R (fun i => if i = j then x else ms i) := by rw [hw4]; exact r3.put j hj x
  have c4 : Ch (fun k => k = b ∨ k = g) W w4 := by rw [hw4]; exact (c1.qt hq3).put g (.inl (.inr rfl)) _ _
  have Q4' := Lib.hid q4
  have HX := Lib.hid hw4
  clear hw4 d0 d1 d2 d3 d4 d5 d6 y0 y1 y2 y3 y4 yf r3
  obtain ⟨lt, c0, c1', c2, c3, fr⟩ := q4
  go_wp2_with fail
  go_ret
  refine ⟨rfl, ?_, ?_, c4.set _ (.inl (.inl rfl)) _⟩
  · exact Q4'.out.set2 _
  · rw [HJ.out]; exact r4.of_block (by simp [World.setCell]) (Below.heap_setCell _ ⟨b, 2, none⟩ _ g hgb)
end Go.Proofs.YtohodbpjcbjifaaGreatDoor
