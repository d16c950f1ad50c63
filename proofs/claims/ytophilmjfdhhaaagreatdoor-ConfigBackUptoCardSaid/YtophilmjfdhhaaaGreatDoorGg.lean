/- The laws of layer 25: numbers, same. -/
import Derived.Test.YtophilmjfdhhaaaGreatDoorGf
namespace Go.Proofs.YtophilmjfdhhaaaGreatDoor
open Go Go.RowKit Go.Shelf Go.Sort
set_option linter.unusedVariables false
set_option linter.unusedSimpArgs false
set_option maxRecDepth 100000
set_option maxHeartbeats 4000000

theorem num25_of (n : Int) (W : World) (hE : ETy W) : Calls Tryz.prog 11 #[errOf n] W fun e w' => e = .returned (.int .i64 n) ∧ Below W.heap.size W w' := by
  unfold errOf
  by_cases h : n = 0
  · rw [if_pos h, h]; exact num0 W
  · rw [if_neg h]; exact num1 n W hE
theorem numbers_t (l : List Int) (v u : Value) (W : World) (hv : RI W v l) (hu : RI W u l) (hl : l.length ≤ 140737488355328) :
    Calls Tryz.prog 13 #[v, u] W fun e w' => e = .returned (.bool true) ∧ Below W.heap.size W w' := by
  obtain ⟨a, c, rfl, h1⟩ := hv.out
  obtain ⟨a', c', rfl, h2⟩ := hu.out
  have H1 := Lib.hid h1
  have H2 := Lib.hid h2
  have hli : (l.length : Int) ≤ 140737488355328 := by omega
  have hne0 : ((l.length : Int) != (l.length : Int)) = false := by simp
  clear hv hu h1 h2
  go_enter Tryz.func13, Tryz.ntmps13
  go_wp2_with fail
  go_loopw [5] (fun i wr => ∃ k nq : Nat, k ≤ l.length ∧ i = .int .i64 k ∧ wr = W.drewN nq) (fun i _ => l.length - (intOf i).toNat)
  case atStart => exact ⟨0, 0, Nat.zero_le _, by go_num, rfl⟩
  case round =>
    obtain ⟨k, nq, hk, rfl, rfl⟩ := hrel
    have hkb : (k : Int) ≤ 140737488355328 := by omega
    by_cases hlt : k < l.length
    · obtain ⟨b, o, rfl, _, g3⟩ := H1.out k hlt
      obtain ⟨b', o', rfl, _, g4⟩ := H2.out k hlt
      have hkn : (k : Int) < (l.length : Int) := by omega
      have hk1 : k + 1 ≤ l.length := hlt
      generalize l.getD k 0 = x at *
      have hne : (x != x) = false := by simp
      clear hlt
      go_wp2_with fail
      go_quiet (fail)
      go_wp2_with fail
      go_roundw
      case rel => exact ⟨k + 1, _, hk1, by go_num, rfl⟩
      case measure => show l.length - ((k : Int) + 1).toNat < l.length - ((k : Int)).toNat; omega
    · obtain rfl : k = l.length := by omega
      have hge : ¬ (l.length : Int) < (l.length : Int) := by omega
      clear hlt
      go_wp2_with fail
      go_ret
      exact ⟨rfl, ⟨rfl, rfl, rfl, Nat.le_refl _, fun _ _ => rfl⟩⟩
end Go.Proofs.YtophilmjfdhhaaaGreatDoor
