/- The sum of a text: snap.Sum and the reference's. -/
import Derived.Test.YtmfmmopnapchjaaDoorHb
import Derived.Test.YtmfmmopnapchjaaDoorSa
namespace Go.Proofs.YtmfmmopnapchjaaDoor
open Go Go.RowKit Go.Shelf Go.Sort
set_option linter.unusedVariables false
set_option linter.unusedSimpArgs false
set_option maxRecDepth 100000
set_option maxHeartbeats 800000

/-- One byte more. -/
def sumStep (h : Int) (c : UInt8) : Int := (bits .xor .u32 h (c.toNat : Int) * 16777619) % 4294967296
def sumS (l : List UInt8) : Int := l.foldl sumStep 2166136261
theorem sumS_snoc (l : List UInt8) (c : UInt8) : sumS (l ++ [c]) = sumStep (sumS l) c := by simp [sumS]
theorem sum_c (s : ByteArray) (hs : s.size ≤ 140737488355328) (w : World) : Calls Tryd.prog 5 #[.string s] w fun e w' => e = .returned (.int .u32 (sumS s.data.toList)) ∧ w = w' := by
  have hlen : Hid (s.data.toList.length = s.size) := Lib.hid (by rw [ByteArray.size, Array.length_toList])
  go_enter Tryd.func5, Tryd.ntmps5
  go_wp2_with fail
  go_loopw [3, 4] (fun h i wr => ∃ j : Nat, j ≤ s.size ∧ i = .int .i64 j ∧ h = .int .u32 (sumS (s.data.toList.take j)) ∧ wr = w) (fun _ i _ => s.size - (intOf i).toNat)
  case atStart => exact ⟨0, Nat.zero_le _, rfl, rfl, rfl⟩
  case round =>
    obtain ⟨j, hj, rfl, rfl, rfl⟩ := hrel
    by_cases hlt : j < s.size
    · have ET : Hid (sumS (s.data.toList.take (j + 1)) = sumStep (sumS (s.data.toList.take j)) s[j]) := Lib.hid (by
        rw [← sumS_snoc, List.take_add_one, List.getElem?_eq_getElem (by rw [hlen.out]; exact hlt)]
        rfl)
      have hc : (s[j]).toNat < 256 := (s[j]).toNat_lt
      have hw0 : IntKind.u32.wrap ((s[j]).toNat : Int) = (s[j]).toNat := by rw [IntKind.wrap_u32]; omega
      go_wp2_with fail
      go_roundw
      case rel => exact ⟨j + 1, by omega, by go_num, by rw [ET.out]; rfl, trivial⟩
      case measure => simp [intOf]; omega
    · obtain rfl : j = s.size := by omega
      go_wp2_with fail
      go_ret
      have e0 : s.data.toList.take s.size = s.data.toList := List.take_of_length_le (by rw [hlen.out]; exact Nat.le_refl _)
      rw [e0]
      exact ⟨rfl, rfl⟩
theorem rsum_c (s : ByteArray) (hs : s.size ≤ 140737488355328) (w : World) : Calls Tryd.prog 6 #[.string s] w fun e w' => e = .returned (.int .u32 (sumS s.data.toList)) ∧ w = w' := by
  have hlen : Hid (s.data.toList.length = s.size) := Lib.hid (by rw [ByteArray.size, Array.length_toList])
  go_enter Tryd.func6, Tryd.ntmps6
  go_wp2_with fail
  go_loopw [3, 4] (fun h i wr => ∃ j : Nat, j ≤ s.size ∧ i = .int .i64 j ∧ h = .int .u32 (sumS (s.data.toList.take j)) ∧ wr = w) (fun _ i _ => s.size - (intOf i).toNat)
  case atStart => exact ⟨0, Nat.zero_le _, rfl, rfl, rfl⟩
  case round =>
    obtain ⟨j, hj, rfl, rfl, rfl⟩ := hrel
    by_cases hlt : j < s.size
    · have ET : Hid (sumS (s.data.toList.take (j + 1)) = sumStep (sumS (s.data.toList.take j)) s[j]) := Lib.hid (by
        rw [← sumS_snoc, List.take_add_one, List.getElem?_eq_getElem (by rw [hlen.out]; exact hlt)]
        rfl)
      have hc : (s[j]).toNat < 256 := (s[j]).toNat_lt
      have hw0 : IntKind.u32.wrap ((s[j]).toNat : Int) = (s[j]).toNat := by rw [IntKind.wrap_u32]; omega
      go_wp2_with fail
      go_roundw
      case rel => exact ⟨j + 1, by omega, by go_num, by rw [ET.out]; rfl, trivial⟩
      case measure => simp [intOf]; omega
    · obtain rfl : j = s.size := by omega
      go_wp2_with fail
      go_ret
      have e0 : s.data.toList.take s.size = s.data.toList := List.take_of_length_le (by rw [hlen.out]; exact Nat.le_refl _)
      rw [e0]
      exact ⟨rfl, rfl⟩
/-- The sum of one letter. -/
theorem sum_a : sumS [97] = 3826002220 := by decide
theorem sumS_range (l : List UInt8) : 0 ≤ sumS l ∧ sumS l < 4294967296 := by
  rcases List.eq_nil_or_concat l with rfl | ⟨a, b, rfl⟩
  · decide
  · rw [List.concat_eq_append, sumS_snoc]; unfold sumStep; omega
end Go.Proofs.YtmfmmopnapchjaaDoor
