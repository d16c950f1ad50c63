/- Package trace: word. -/
import Derived.Test.YtohodbpjcbjifaaGreatDoorQg
namespace Go.Proofs.YtohodbpjcbjifaaGreatDoor
open Go Go.RowKit Go.ChangeShapes Go.WideShapes
set_option linter.unusedVariables false
set_option maxRecDepth 100000
set_option maxHeartbeats 800000

theorem word_some (k : Int) (h : 1 ≤ k ∧ k ≤ 9) (W : World) :
    Calls Tryz.prog 15 #[.int .i64 k] W fun e w' => ∃ s : ByteArray, e = .returned (.string s) ∧ s ≠ ⟨#[]⟩ ∧ Below W.heap.size W w' := by
  have hk : k = 1 ∨ k = 2 ∨ k = 3 ∨ k = 4 ∨ k = 5 ∨ k = 6 ∨ k = 7 ∨ k = 8 ∨ k = 9 := by omega
  clear h
  rcases hk with rfl | rfl | rfl | rfl | rfl | rfl | rfl | rfl | rfl
  all_goals
    go_enter Tryz.func15, Tryz.ntmps15
    go_wp2
    go_ret
    exact ⟨_, rfl, by decide, (Below.refl _ _).alloc (Nat.le_refl _) _⟩
theorem word_none (k : Int) (h : ¬ (1 ≤ k ∧ k ≤ 9)) (W : World) :
    Calls Tryz.prog 15 #[.int .i64 k] W fun e w' => e = .returned (.string ⟨#[]⟩) ∧ Below W.heap.size W w' := by
  by_cases h1 : k < 1
  · go_enter Tryz.func15, Tryz.ntmps15
    go_wp2
    go_ret
    exact ⟨rfl, (Below.refl _ _).alloc (Nat.le_refl _) _⟩
  · have h2 : 10 ≤ k := by omega
    go_enter Tryz.func15, Tryz.ntmps15
    go_wp2
    go_ret
    exact ⟨rfl, (Below.refl _ _).alloc (Nat.le_refl _) _⟩

end Go.Proofs.YtohodbpjcbjifaaGreatDoor
