/- titheref19: handle, Valid, New, Add. -/
import Derived.Test.YtohodbpjcbjifaaGreatDoorOs
import Derived.Test.YtohodbpjcbjifaaGreatDoorTa
namespace Go.Proofs.YtohodbpjcbjifaaGreatDoor
open Go Go.RowKit Go.ChangeShapes Go.WideShapes
set_option linter.unusedVariables false
set_option maxRecDepth 100000
set_option maxHeartbeats 800000

theorem rh_t (h : Int) (v : H0 h) (W : World) : Calls Tryz.prog 23 #[.int .i64 h] W fun e w' => e = .returned (.bool true) ∧ W = w' := by
  by_cases h0 : h = 0
  · subst h0
    go_enter Tryz.func23, Tryz.ntmps23
    go_wp2
    go_ret
    exact ⟨rfl, rfl⟩
  · have V := Lib.hid (v.resolve_left h0)
    have e0 : (h == 0) = false := by simpa using h0
    clear v h0
    go_enter Tryz.func23, Tryz.ntmps23
    go_wp2_with (go_at_call 46; refine (rvalid_t _ V.out).mono ?_; rintro e w' ⟨rfl, rfl⟩)
    go_ret
    exact ⟨rfl, rfl⟩
theorem rh_f (h : Int) (v : ¬ H0 h) (W : World) : Calls Tryz.prog 23 #[.int .i64 h] W fun e w' => e = .returned (.bool false) ∧ W = w' := by
  have h0 : h ≠ 0 := fun e => v (.inl e)
  have V := Lib.hid (fun e => v (.inr e) : ¬ HV h)
  have e0 : (h == 0) = false := by simpa using h0
  clear v h0
  go_enter Tryz.func23, Tryz.ntmps23
  go_wp2_with (go_at_call 46; refine (rvalid_f _ V.out).mono ?_; rintro e w' ⟨rfl, rfl⟩)
  go_ret
  exact ⟨rfl, rfl⟩

theorem rvalid0 (m : Mk) (W : World) (hm : Ok0 m) :
    Calls Tryz.prog 8 #[m.val] W fun e w' => e = .returned (.bool true) ∧ Below W.heap.size W w' := by
  obtain ⟨t, k, h, j, n⟩ := m
  obtain ⟨⟨t0, t1⟩, ⟨hk0, hk1⟩, hh, hj, n0, n1⟩ := hm
  simp only at t0 t1 hk0 hk1 hh hj n0 n1
  have IH := Lib.hid (rh_t h hh)
  have IJ := Lib.hid (rh_t j hj)
  clear hh hj
  go_enter Tryz.func8, Tryz.ntmps8
  simp only [Mk.val]
  go_wp2_with fail
  refine (IH.out _).mono ?_
  rintro e w' ⟨rfl, rfl⟩
  go_wp2_with fail
  refine (IJ.out _).mono ?_
  rintro e w' ⟨rfl, rfl⟩
  go_wp2_with fail
  go_ret
  exact ⟨rfl, (Below.refl _ _).alloc (Nat.le_refl _) _⟩
theorem rvalid0_f (m : Mk) (W : World) (hm : ¬ Ok0 m) :
    Calls Tryz.prog 8 #[m.val] W fun e w' => e = .returned (.bool false) ∧ Below W.heap.size W w' := by
  obtain ⟨t, k, h, j, n⟩ := m
  have HN := Lib.hid hm
  clear hm
  have IHT := Lib.hid (rh_t h)
  have IHF := Lib.hid (rh_f h)
  have IJT := Lib.hid (rh_t j)
  have IJF := Lib.hid (rh_f j)
  have BL : Hid (∀ o, Below W.heap.size W (W.alloc o)) := Lib.hid fun o => (Below.refl _ _).alloc (Nat.le_refl _) _
  by_cases hk : 0 ≤ t ∧ t ≤ 1073741824 ∧ 1 ≤ k ∧ k ≤ 9
  · obtain ⟨ht0, ht1, hk0, hk1⟩ := hk
    have HN2 := Lib.hid (fun a b c => HN.out ⟨⟨ht0, ht1⟩, ⟨hk0, hk1⟩, a, b, c⟩ : H0 h → H0 j → ¬ (0 ≤ n ∧ n ≤ 1073741824))
    go_enter Tryz.func8, Tryz.ntmps8
    simp only [Mk.val]
    go_wp2_with fail
    by_cases hh : H0 h
    · have HH := Lib.hid hh
      clear hh
      refine (IHT.out HH.out _).mono ?_
      rintro e w' ⟨rfl, rfl⟩
      go_wp2_with fail
      by_cases hj : H0 j
      · have HJ := Lib.hid hj
        clear hj
        refine (IJT.out HJ.out _).mono ?_
        rintro e w' ⟨rfl, rfl⟩
        have hn := HN2.out HH.out HJ.out
        by_cases hn0 : 0 ≤ n
        · have hn1 : decide (n ≤ 1073741824) = false := decide_eq_false (fun h => hn ⟨hn0, h⟩)
          clear hn
          go_wp2_with fail
          go_ret
          exact ⟨rfl, BL.out _⟩
        · have hn2 : decide (0 ≤ n) = false := decide_eq_false hn0
          clear hn
          go_wp2_with fail
          go_ret
          exact ⟨rfl, BL.out _⟩
      · have HJ := Lib.hid hj
        clear hj
        refine (IJF.out HJ.out _).mono ?_
        rintro e w' ⟨rfl, rfl⟩
        go_wp2_with fail
        go_ret
        exact ⟨rfl, BL.out _⟩
    · have HH := Lib.hid hh
      clear hh
      refine (IHF.out HH.out _).mono ?_
      rintro e w' ⟨rfl, rfl⟩
      go_wp2_with fail
      go_ret
      exact ⟨rfl, BL.out _⟩
  · by_cases ht0 : 0 ≤ t
    · by_cases ht1 : t ≤ 1073741824
      · by_cases hk0 : 1 ≤ k
        · have hk1 : ¬ k ≤ 9 := fun h => hk ⟨ht0, ht1, hk0, h⟩
          clear hk
          go_enter Tryz.func8, Tryz.ntmps8
          simp only [Mk.val]
          go_wp2_with fail
          go_ret
          exact ⟨rfl, BL.out _⟩
        · clear hk
          go_enter Tryz.func8, Tryz.ntmps8
          simp only [Mk.val]
          go_wp2_with fail
          go_ret
          exact ⟨rfl, BL.out _⟩
      · clear hk
        go_enter Tryz.func8, Tryz.ntmps8
        simp only [Mk.val]
        go_wp2_with fail
        go_ret
        exact ⟨rfl, BL.out _⟩
    · clear hk
      go_enter Tryz.func8, Tryz.ntmps8
      simp only [Mk.val]
      go_wp2_with fail
      go_ret
      exact ⟨rfl, BL.out _⟩
end Go.Proofs.YtohodbpjcbjifaaGreatDoor
