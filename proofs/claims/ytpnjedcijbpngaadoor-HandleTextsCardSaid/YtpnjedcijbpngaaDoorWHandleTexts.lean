/- The walk of HandleTexts. -/
import Derived.Test.YtpnjedcijbpngaaDoorHw
import Derived.Test.YtpnjedcijbpngaaDoorHq
namespace Go.Proofs.YtpnjedcijbpngaaDoor
open Go Go.RowKit Go.Shelf Go.Sort
set_option maxHeartbeats 400000
set_option maxRecDepth 100000
set_option linter.unusedVariables false

theorem rread_any (s : ByteArray) (W : World) :
    Calls Tryd.prog 14 #[.string s] W fun e w' => e = .returned (.tuple #[.int .i64 (rRead s.data.toList).1, .int .i64 (rRead s.data.toList).2]) ∧ Below W.heap.size W w' := by
  have hl : s.data.toList.length = s.size := by rw [← Lib.size_eq]
  by_cases h1 : 32 < s.size
  · have R : rRead s.data.toList = (0, 3) := by unfold rRead; rw [if_pos (by omega)]
    rw [R]
    clear R hl
    go_enter Tryd.func14, Tryd.ntmps14
    go_wp2_with fail
    go_ret2
    exact ⟨rfl, Below.refl _ _⟩
  · by_cases h2 : s.data.toList = [45]
    · have R : rRead s.data.toList = (0, 0) := by unfold rRead; rw [if_neg (by omega), if_pos h2]
      have Q : (s.toList == [45]) = true := by rw [Lib.toList_data, h2]; rfl
      rw [R]
      clear R hl h2
      go_enter Tryd.func14, Tryd.ntmps14
      go_wp2_with fail
      go_ret2
      exact ⟨rfl, Below.refl _ _⟩
    · have Q : (s.toList == [45]) = false := by rw [Lib.toList_data]; simpa using h2
      by_cases h3 : s.data.toList = []
      · have R : rRead s.data.toList = (0, 4) := by unfold rRead; rw [if_neg (by omega), if_neg h2, if_pos h3]
        have Q2 : s.toList.isEmpty = true := by rw [Lib.toList_data, h3]; rfl
        rw [R]
        clear R hl h2 h3
        go_enter Tryd.func14, Tryd.ntmps14
        go_wp2_with fail
        go_ret2
        exact ⟨rfl, Below.refl _ _⟩
      · have Q2 : s.toList.isEmpty = false := by rw [Lib.toList_data]; simpa using h3
        have h0 : 0 < s.size := by
          rcases Nat.eq_zero_or_pos s.size with z | z
          · exact absurd (List.eq_nil_of_length_eq_zero (by omega)) h3
          · exact z
        have R : rRead s.data.toList = rGen s.data.toList := by unfold rRead; rw [if_neg (by omega), if_neg h2, if_neg h3]
        rw [R]
        exact rread_gen s W (by omega) h0 Q Q2

theorem num_any (n : Int) (w : World) : Calls Tryd.prog 11 #[errOf n] w fun e w' => e = .returned (.int .i64 n) ∧ w = w' := by
  by_cases h : n = 0
  · subst h; exact num_nil w
  · have e : errOf n = errN n := if_neg h
    rw [e]; exact num_err n w

theorem handleTexts_walk (h : Int) (wh : -9223372036854775808 ≤ h ∧ h ≤ 9223372036854775807) (s : ByteArray) (ws : s.size ≤ 140737488351232) (W : World) (E : Env W) :
    Calls Tryd.prog 4 #[.int .i64 h, .string s] W fun e w' => e = .returned (.bool true) ∧ Below W.heap.size W w' := by
  have R1 := fun W E => read_any s W E
  have R2 := fun W => rread_any s W
  rw [read_same] at R1
  generalize rRead s.data.toList = r at *
  obtain ⟨x, q⟩ := r
  have R1' := Lib.hid R1; clear R1
  have R2' := Lib.hid R2; clear R2
  have T1 := Lib.hid (fun W E => text_any (h := h) W E)
  have T2 := Lib.hid (fun W => rtext_any (h := h) W)
  generalize hText h = tx at *
  have EE := Lib.hid E; clear E wh ws
  go_enter Tryd.func4, Tryd.ntmps4
  go_wp2_with fail
  refine (R1'.out _ EE.out).mono ?_
  rintro e w1 ⟨rfl, hb1⟩
  have E1 := EE.out.below hb1
  go_wp2_with fail
  refine (R2'.out _).mono ?_
  rintro e w2 ⟨rfl, hb2⟩
  have E2 := E1.below hb2
  go_wp2_with fail
  refine (T1.out _ E2).mono ?_
  rintro e w3 ⟨rfl, hb3⟩
  have E3 := E2.below hb3
  go_wp2_with fail
  refine (T2.out _).mono ?_
  rintro e w4 ⟨rfl, hb4⟩
  have E4 := E3.below hb4
  have hb := below_then (below_chain3 hb1 hb2 hb3) hb4
  go_wp2_with fail
  refine (num_any _ _).mono ?_
  rintro e w' ⟨rfl, rfl⟩
  go_wp2_with fail
  refine (works_ok _ E4).mono ?_
  rintro e w5 ⟨rfl, hb5⟩
  go_wp2_with fail
  go_ret
  exact ⟨rfl, below_then hb hb5⟩
end Go.Proofs.YtpnjedcijbpngaaDoor
