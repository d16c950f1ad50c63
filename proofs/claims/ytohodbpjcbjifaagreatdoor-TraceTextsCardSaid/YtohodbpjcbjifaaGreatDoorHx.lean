/- Read of the reference of layer 2 at every text. -/
import Derived.Test.YtohodbpjcbjifaaGreatDoorHq
namespace Go.Proofs.YtohodbpjcbjifaaGreatDoor
open Go Go.RowKit Go.Shelf Go.Sort
set_option maxHeartbeats 400000
set_option maxRecDepth 100000
set_option linter.unusedVariables false

theorem rread_any (s : ByteArray) (W : World) :
    Calls Tryz.prog 30 #[.string s] W fun e w' => e = .returned (.tuple #[.int .i64 (rRead s.data.toList).1, .int .i64 (rRead s.data.toList).2]) ∧ Below W.heap.size W w' := by
  have hl : s.data.toList.length = s.size := by rw [← Lib.size_eq]
  by_cases h1 : 32 < s.size
  · have R : rRead s.data.toList = (0, 3) := by unfold rRead; rw [if_pos (by omega)]
    rw [R]
    clear R hl
    go_enter Tryz.func30, Tryz.ntmps30
    go_wp2_with fail
    go_ret2
    exact ⟨rfl, Below.refl _ _⟩
  · by_cases h2 : s.data.toList = [45]
    · have R : rRead s.data.toList = (0, 0) := by unfold rRead; rw [if_neg (by omega), if_pos h2]
      have Q : (s.toList == [45]) = true := by rw [Lib.toList_data, h2]; rfl
      rw [R]
      clear R hl h2
      go_enter Tryz.func30, Tryz.ntmps30
      go_wp2_with fail
      go_ret2
      exact ⟨rfl, Below.refl _ _⟩
    · have Q : (s.toList == [45]) = false := by rw [Lib.toList_data]; simpa using h2
      by_cases h3 : s.data.toList = []
      · have R : rRead s.data.toList = (0, 4) := by unfold rRead; rw [if_neg (by omega), if_neg h2, if_pos h3]
        have Q2 : s.toList.isEmpty = true := by rw [Lib.toList_data, h3]; rfl
        rw [R]
        clear R hl h2 h3
        go_enter Tryz.func30, Tryz.ntmps30
        go_wp2_with fail
        go_ret2
        exact ⟨rfl, Below.refl _ _⟩
      · have Q2 : s.toList.isEmpty = false := by rw [Lib.toList_data]; simpa using h3
        have h0 : 0 < s.size := by
          rcases Nat.eq_zero_or_pos s.size with z | z
          · exact absurd (List.eq_nil_of_length_eq_zero (by omega)) h3
          · exact z
        have R : rRead s.data.toList = rGen s.data.toList := by unfold rRead; rw [if_neg (by omega), if_neg h2, if_neg h3]
        rw [R]
        exact rread_gen s W (by omega) h0 Q Q2

theorem hRead_of {h : Int} (v : HV h) : hRead (hText h) = (h, 0) := by
  rw [read_same]
  have hl : (hText h).length ≤ 32 := by
    obtain ⟨a, b, e, _, _, _, _, _, _, la, lb, _, _⟩ := text_form v
    rw [e]; simp; omega
  have h45 : hText h ≠ [45] := by
    obtain ⟨a, b, e, _⟩ := text_form v
    rw [e]; simp
  have h0 : hText h ≠ [] := by
    obtain ⟨a, b, e, _⟩ := text_form v
    rw [e]; simp
  unfold rRead
  rw [if_neg (by omega), if_neg h45, if_neg h0]
  exact rGen_of_text v
end Go.Proofs.YtohodbpjcbjifaaGreatDoor
