




/- Package trace: valid at every mark. -/
import Derived.Test.YtohodbpjcbjifaaGreatDoorTw
import Derived.Test.YtohodbpjcbjifaaGreatDoorVa
namespace Go.Proofs.YtohodbpjcbjifaaGreatDoor
open Go Go.RowKit Go.ChangeShapes Go.WideShapes
set_option linter.unusedVariables false
set_option maxRecDepth 100000
set_option maxHeartbeats 800000

/-- A handle that may stand in a mark. -/
def H0 (h : Int) : Prop := h = 0 ∨ HV h
theorem is_t (h : Int) (v : H0 h) (W : World) : Calls Tryz.prog 31 #[.int .i64 h] W fun e w' => e = .returned (.bool true) ∧ W = w' := by
  by_cases h0 : h = 0
  · subst h0
    go_enter Tryz.func31, Tryz.ntmps31
    go_wp2
    go_ret
    exact ⟨rfl, rfl⟩
  · have V := Lib.hid (v.resolve_left h0)
    have e0 : (h == 0) = false := by simpa using h0
    clear v h0
    go_enter Tryz.func31, Tryz.ntmps31
    go_wp2_with (go_at_call 32; refine (valid_t _ V.out).mono ?_; rintro e w' ⟨rfl, rfl⟩)
    go_ret
    exact ⟨rfl, rfl⟩
theorem is_f (h : Int) (v : ¬ H0 h) (W : World) : Calls Tryz.prog 31 #[.int .i64 h] W fun e w' => e = .returned (.bool false) ∧ W = w' := by
  have h0 : h ≠ 0 := fun e => v (.inl e)
  have V := Lib.hid (fun e => v (.inr e) : ¬ HV h)
  have e0 : (h == 0) = false := by simpa using h0
  clear v h0
  go_enter Tryz.func31, Tryz.ntmps31
  go_wp2_with (go_at_call 32; refine (valid_f _ V.out).mono ?_; rintro e w' ⟨rfl, rfl⟩)
  go_ret
  exact ⟨rfl, rfl⟩

/-- A mark that may be. -/
structure Ok0 (m : Mk) : Prop where
  t : 0 ≤ m.t ∧ m.t ≤ 1073741824
  k : 1 ≤ m.k ∧ m.k ≤ 9
  h : H0 m.h
  j : H0 m.j
  n : 0 ≤ m.n ∧ m.n ≤ 1073741824
theorem ok0_mk {t k n : Int} (ht : 0 ≤ t ∧ t ≤ 1073741824) (hk : 1 ≤ k ∧ k ≤ 9) (hn : 0 ≤ n ∧ n ≤ 1073741824) : Ok0 ⟨t, k, 0, 0, n⟩ := ⟨ht, hk, .inl rfl, .inl rfl, hn⟩

theorem word_ne {s : ByteArray} (hs : s ≠ ⟨#[]⟩) : ¬ s.toList = [] ∧ s.toList.isEmpty = false := by
  have hs2 : ¬ s.toList = [] := fun e => hs (by
    rw [ByteArray.toList_eq] at e
    obtain ⟨⟨d⟩⟩ := s
    simp at e
    subst e
    rfl)
  exact ⟨hs2, by cases h : s.toList with | nil => exact absurd h hs2 | cons a l => rfl⟩

theorem valid0 (m : Mk) (W : World) (hm : Ok0 m) :
    Calls Tryz.prog 12 #[m.val] W fun e w' => e = .returned (.bool true) ∧ Below W.heap.size W w' := by
  obtain ⟨t, k, h, j, n⟩ := m
  obtain ⟨⟨t0, t1⟩, hk, hh, hj, n0, n1⟩ := hm
  simp only at t0 t1 hk hh hj n0 n1
  have WD := Lib.hid (word_some k hk)
  have IH := Lib.hid (is_t h hh)
  have IJ := Lib.hid (is_t j hj)
  clear hk hh hj
  obtain ⟨w1, hw1⟩ : ∃ w1, w1 = W.alloc (.cells #[.int .i64 t, .int .i64 k, .int .i64 h, .int .i64 j, .int .i64 n] 24) := ⟨_, rfl⟩
  have b1 : At5 w1 W.heap.size 0 ⟨t, k, h, j, n⟩ := by rw [hw1]; exact At5_box W ⟨t, k, h, j, n⟩
  have c1 : Below W.heap.size W w1 := by rw [hw1]; exact (Below.refl _ _).alloc (Nat.le_refl _) _
  have s1 : w1.heap.size = W.heap.size + 1 := by rw [hw1]; simp
  have HW1 := Lib.hid hw1
  clear hw1
  go_enter Tryz.func12, Tryz.ntmps12
  simp only [Mk.val]
  go_wp2_with fail
  rw [← HW1.out]
  refine (WD.out _).mono ?_
  rintro e w2 ⟨s, rfl, hs, hb⟩
  obtain ⟨hs2, hs3⟩ := word_ne hs
  clear hs
  have b2 : At5 w2 W.heap.size 0 ⟨t, k, h, j, n⟩ := b1.of_block (hb.block _ (by omega))
  have c2 : Below W.heap.size W w2 := c1.trans (hb.mono c1.size)
  clear b1 c1 hb
  obtain ⟨b0, b1, b2, b3, b4⟩ := b2
  simp only [Nat.zero_add] at b1 b2 b3 b4
  go_wp2_with fail
  refine (IH.out _).mono ?_
  rintro e w' ⟨rfl, rfl⟩
  go_wp2_with fail
  refine (IJ.out _).mono ?_
  rintro e w' ⟨rfl, rfl⟩
  go_wp2_with fail
  go_ret
  exact ⟨rfl, c2⟩

theorem valid0_f (m : Mk) (W : World) (hm : ¬ Ok0 m) :
    Calls Tryz.prog 12 #[m.val] W fun e w' => e = .returned (.bool false) ∧ Below W.heap.size W w' := by
  obtain ⟨t, k, h, j, n⟩ := m
  have HN := Lib.hid hm
  clear hm
  have WS := Lib.hid (word_some k)
  have WN := Lib.hid (word_none k)
  have IHT := Lib.hid (is_t h)
  have IHF := Lib.hid (is_f h)
  have IJT := Lib.hid (is_t j)
  have IJF := Lib.hid (is_f j)
  obtain ⟨w1, hw1⟩ : ∃ w1, w1 = W.alloc (.cells #[.int .i64 t, .int .i64 k, .int .i64 h, .int .i64 j, .int .i64 n] 24) := ⟨_, rfl⟩
  have b1 : At5 w1 W.heap.size 0 ⟨t, k, h, j, n⟩ := by rw [hw1]; exact At5_box W ⟨t, k, h, j, n⟩
  have c1 : Below W.heap.size W w1 := by rw [hw1]; exact (Below.refl _ _).alloc (Nat.le_refl _) _
  have s1 : w1.heap.size = W.heap.size + 1 := by rw [hw1]; simp
  have HW1 := Lib.hid hw1
  clear hw1
  have done : ∀ w2, Below w1.heap.size w1 w2 → At5 w2 W.heap.size 0 ⟨t, k, h, j, n⟩ ∧ Below W.heap.size W w2 := fun w2 hb => ⟨b1.of_block (hb.block _ (by omega)), c1.trans (hb.mono c1.size)⟩
  have DONE := Lib.hid done
  clear done b1
  by_cases ht0 : 0 ≤ t
  · by_cases ht1 : t ≤ 1073741824
    · by_cases hk : 1 ≤ k ∧ k ≤ 9
      · have HK := Lib.hid hk
        clear hk
        have HN2 := Lib.hid (fun a b c => HN.out ⟨⟨ht0, ht1⟩, HK.out, a, b, c⟩ : H0 h → H0 j → ¬ (0 ≤ n ∧ n ≤ 1073741824))
        go_enter Tryz.func12, Tryz.ntmps12
        simp only [Mk.val]
        go_wp2_with fail
        rw [← HW1.out]
        refine (WS.out HK.out _).mono ?_
        rintro e w2 ⟨s, rfl, hs, hb⟩
        obtain ⟨hs2, hs3⟩ := word_ne hs
        obtain ⟨⟨b0, b1, b2, b3, b4⟩, c2⟩ := DONE.out _ hb
        have C2 := Lib.hid c2
        simp only [Nat.zero_add] at b1 b2 b3 b4
        clear hs hb c2 c1
        go_wp2_with fail
        by_cases hh : H0 h
        · have HH := Lib.hid hh
          clear hh
          refine (IHT.out HH.out _).mono ?_
          rintro e w' ⟨rfl, rfl⟩
          go_wp2_with fail
          by_cases hj : H0 j
          · have HJ := Lib.hid hj
            clear hj
            refine (IJT.out HJ.out _).mono ?_
            rintro e w' ⟨rfl, rfl⟩
            have hn := HN2.out HH.out HJ.out
            by_cases hn0 : 0 ≤ n
            · have hn1 : decide (n ≤ 1073741824) = false := decide_eq_false (fun h => hn ⟨hn0, h⟩)
              clear hn
              go_wp2_with fail
              go_ret
              exact ⟨rfl, C2.out⟩
            · have hn2 : decide (0 ≤ n) = false := decide_eq_false hn0
              clear hn
              go_wp2_with fail
              go_ret
              exact ⟨rfl, C2.out⟩
          · have HJ := Lib.hid hj
            clear hj
            refine (IJF.out HJ.out _).mono ?_
            rintro e w' ⟨rfl, rfl⟩
            go_wp2_with fail
            go_ret
            exact ⟨rfl, C2.out⟩
        · have HH := Lib.hid hh
          clear hh
          refine (IHF.out HH.out _).mono ?_
          rintro e w' ⟨rfl, rfl⟩
          go_wp2_with fail
          go_ret
          exact ⟨rfl, C2.out⟩
      · have HK := Lib.hid hk
        clear hk
        go_enter Tryz.func12, Tryz.ntmps12
        simp only [Mk.val]
        go_wp2_with fail
        rw [← HW1.out]
        refine (WN.out HK.out _).mono ?_
        rintro e w2 ⟨rfl, hb⟩
        obtain ⟨_, c2⟩ := DONE.out _ hb
        have C2 := Lib.hid c2
        clear hb c2 c1
        go_wp2_with fail
        go_ret
        exact ⟨rfl, C2.out⟩
    · go_enter Tryz.func12, Tryz.ntmps12
      simp only [Mk.val]
      go_wp2_with fail
      go_ret
      exact ⟨rfl, (Below.refl _ _).alloc (Nat.le_refl _) _⟩
  · go_enter Tryz.func12, Tryz.ntmps12
    simp only [Mk.val]
    go_wp2_with fail
    go_ret
    exact ⟨rfl, (Below.refl _ _).alloc (Nat.le_refl _) _⟩
end Go.Proofs.YtohodbpjcbjifaaGreatDoor
