/- The walk of HandleParts. -/
import Derived.Test.YtpnjedcijbpngaaDoorHw
import Derived.Test.YtpnjedcijbpngaaDoorHr
namespace Go.Proofs.YtpnjedcijbpngaaDoor
open Go Go.RowKit Go.Shelf Go.Sort
set_option maxHeartbeats 400000
set_option maxRecDepth 100000
set_option linter.unusedVariables false
theorem handleParts_walk (h : Int) (wh : -9223372036854775808 ≤ h ∧ h ≤ 9223372036854775807) (W : World) (E : Env W) :
    Calls Tryd.prog 5 #[.int .i64 h] W fun e w' => e = .returned (.bool true) ∧ Below W.heap.size W w' := by
  have WK := Lib.hid (works_ok W E); clear E wh
  by_cases v : HV h
  · by_cases l : hG h = 1023
    · have NX := Lib.hid (fun W => next_last W v l)
      have RN := Lib.hid (fun W => rnext_last W v l)
      have V := Lib.hid v; clear v l
      go_enter Tryd.func5, Tryd.ntmps5
      go_wp2_with (first | (go_at_call 17; refine (NX.out _).mono ?_; rintro e w' ⟨rfl, rfl⟩) | (go_at_call 18; refine (RN.out _).mono ?_; rintro e w' ⟨rfl, rfl⟩) | (go_at_call 19; refine (valid_t _ V.out).mono ?_; rintro e w' ⟨rfl, rfl⟩) | (go_at_call 20; refine (rvalid_t _ V.out).mono ?_; rintro e w' ⟨rfl, rfl⟩) | (go_at_call 21; refine (kind_t _ V.out).mono ?_; rintro e w' ⟨rfl, rfl⟩) | (go_at_call 22; refine (rkind_t _ V.out).mono ?_; rintro e w' ⟨rfl, rfl⟩) | (go_at_call 23; refine (slot_t _ V.out).mono ?_; rintro e w' ⟨rfl, rfl⟩) | (go_at_call 24; refine (rslot_t _ V.out).mono ?_; rintro e w' ⟨rfl, rfl⟩) | (go_at_call 25; refine (gen_t _ V.out).mono ?_; rintro e w' ⟨rfl, rfl⟩) | (go_at_call 26; refine (rgen_t _ V.out).mono ?_; rintro e w' ⟨rfl, rfl⟩) | (go_at_call 11; refine (num_err 30 _).mono ?_; rintro e w' ⟨rfl, rfl⟩) | (go_at_call 12; refine (WK.out).mono ?_; rintro e w1 ⟨rfl, hb1⟩))
      go_ret
      exact ⟨rfl, hb1⟩
    · have NX := Lib.hid (fun W => next_ok W v l)
      have RN := Lib.hid (fun W => rnext_ok W v l)
      have V := Lib.hid v; clear v l
      go_enter Tryd.func5, Tryd.ntmps5
      go_wp2_with (first | (go_at_call 17; refine (NX.out _).mono ?_; rintro e w' ⟨rfl, rfl⟩) | (go_at_call 18; refine (RN.out _).mono ?_; rintro e w' ⟨rfl, rfl⟩) | (go_at_call 19; refine (valid_t _ V.out).mono ?_; rintro e w' ⟨rfl, rfl⟩) | (go_at_call 20; refine (rvalid_t _ V.out).mono ?_; rintro e w' ⟨rfl, rfl⟩) | (go_at_call 21; refine (kind_t _ V.out).mono ?_; rintro e w' ⟨rfl, rfl⟩) | (go_at_call 22; refine (rkind_t _ V.out).mono ?_; rintro e w' ⟨rfl, rfl⟩) | (go_at_call 23; refine (slot_t _ V.out).mono ?_; rintro e w' ⟨rfl, rfl⟩) | (go_at_call 24; refine (rslot_t _ V.out).mono ?_; rintro e w' ⟨rfl, rfl⟩) | (go_at_call 25; refine (gen_t _ V.out).mono ?_; rintro e w' ⟨rfl, rfl⟩) | (go_at_call 26; refine (rgen_t _ V.out).mono ?_; rintro e w' ⟨rfl, rfl⟩) | (go_at_call 11; refine (num_nil _).mono ?_; rintro e w' ⟨rfl, rfl⟩) | (go_at_call 12; refine (WK.out).mono ?_; rintro e w1 ⟨rfl, hb1⟩))
      go_ret
      exact ⟨rfl, hb1⟩
  · have NX := Lib.hid (fun W => next_bad W v)
    have RN := Lib.hid (fun W => rnext_bad W v)
    have V := Lib.hid v; clear v
    go_enter Tryd.func5, Tryd.ntmps5
    go_wp2_with (first | (go_at_call 17; refine (NX.out _).mono ?_; rintro e w' ⟨rfl, rfl⟩) | (go_at_call 18; refine (RN.out _).mono ?_; rintro e w' ⟨rfl, rfl⟩) | (go_at_call 19; refine (valid_f _ V.out).mono ?_; rintro e w' ⟨rfl, rfl⟩) | (go_at_call 20; refine (rvalid_f _ V.out).mono ?_; rintro e w' ⟨rfl, rfl⟩) | (go_at_call 21; refine (kind_f _ V.out).mono ?_; rintro e w' ⟨rfl, rfl⟩) | (go_at_call 22; refine (rkind_f _ V.out).mono ?_; rintro e w' ⟨rfl, rfl⟩) | (go_at_call 23; refine (slot_f _ V.out).mono ?_; rintro e w' ⟨rfl, rfl⟩) | (go_at_call 24; refine (rslot_f _ V.out).mono ?_; rintro e w' ⟨rfl, rfl⟩) | (go_at_call 25; refine (gen_f _ V.out).mono ?_; rintro e w' ⟨rfl, rfl⟩) | (go_at_call 26; refine (rgen_f _ V.out).mono ?_; rintro e w' ⟨rfl, rfl⟩) | (go_at_call 11; refine (num_err 20 _).mono ?_; rintro e w' ⟨rfl, rfl⟩) | (go_at_call 12; refine (WK.out).mono ?_; rintro e w1 ⟨rfl, hb1⟩))
    go_ret
    exact ⟨rfl, hb1⟩
end Go.Proofs.YtpnjedcijbpngaaDoor
