/- Package trace: word, valid at marks of no node and no task, New, All. -/
import Derived.Test.YtpaffemjdffoiaaTw
namespace Go.Proofs.Ytpaffemjdffoiaa
open Go Go.RowKit Go.ChangeShapes Go.WideShapes
set_option linter.unusedVariables false
set_option maxRecDepth 100000
set_option maxHeartbeats 800000

theorem is0 (W : World) : Calls Try.prog 23 #[.int .i64 0] W fun e w' => e = .returned (.bool true) ∧ W = w' := by
  go_enter Try.func23, Try.ntmps23
  go_wp2
  go_ret
  exact ⟨rfl, rfl⟩

/-- A mark that may be, of no node and no task. -/
structure Ok0 (m : Mk) : Prop where
  t : 0 ≤ m.t ∧ m.t ≤ 1073741824
  k : 1 ≤ m.k ∧ m.k ≤ 9
  h : m.h = 0
  j : m.j = 0
  n : 0 ≤ m.n ∧ m.n ≤ 1073741824

theorem valid0 (m : Mk) (W : World) (hm : Ok0 m) :
    Calls Try.prog 15 #[m.val] W fun e w' => e = .returned (.bool true) ∧ Below W.heap.size W w' := by
  obtain ⟨t, k, h, j, n⟩ := m
  obtain ⟨⟨t0, t1⟩, hk, rfl, rfl, n0, n1⟩ := hm
  simp only at t0 t1 hk n0 n1
  have WD := Lib.hid (word_some k hk)
  have IS := Lib.hid is0
  clear hk
  obtain ⟨w1, hw1⟩ : ∃ w1, w1 = W.alloc (.cells #[.int .i64 t, .int .i64 k, .int .i64 0, .int .i64 0, .int .i64 n] 32) := ⟨_, rfl⟩
  have b1 : At5 w1 W.heap.size 0 ⟨t, k, 0, 0, n⟩ := by rw [hw1]; exact At5_box W ⟨t, k, 0, 0, n⟩
  have c1 : Below W.heap.size W w1 := by rw [hw1]; exact (Below.refl _ _).alloc (Nat.le_refl _) _
  have s1 : w1.heap.size = W.heap.size + 1 := by rw [hw1]; simp
  have HW1 := Lib.hid hw1
  clear hw1
  go_enter Try.func15, Try.ntmps15
  simp only [Mk.val]
  go_wp2_with fail
  rw [← HW1.out]
  refine (WD.out _).mono ?_
  rintro e w2 ⟨s, rfl, hs, hb⟩
  have hs2 : ¬ s.toList = [] := fun e => hs (by
    rw [ByteArray.toList_eq] at e
    obtain ⟨⟨d⟩⟩ := s
    simp at e
    subst e
    rfl)
  have hs3 : s.toList.isEmpty = false := by cases h : s.toList with | nil => exact absurd h hs2 | cons a l => rfl
  clear hs
  have b2 : At5 w2 W.heap.size 0 ⟨t, k, 0, 0, n⟩ := b1.of_block (hb.block _ (by omega))
  have c2 : Below W.heap.size W w2 := c1.trans (hb.mono c1.size)
  clear b1 c1 hb
  obtain ⟨b0, b1, b2, b3, b4⟩ := b2
  simp only [Nat.zero_add] at b1 b2 b3 b4
  go_wp2_with (first | (go_at_call 23; refine (IS.out _).mono ?_; rintro e w' ⟨rfl, rfl⟩))
  go_ret
  exact ⟨rfl, c2⟩
end Go.Proofs.Ytpaffemjdffoiaa
