/- What Valid, Kind, Slot, Gen, Next of the reference of layer 2 return, at every handle. -/
import Derived.Test.YtpnjedcijbpngaaDoorHb
namespace Go.Proofs.YtpnjedcijbpngaaDoor
open Go Go.RowKit Go.Shelf Go.Sort
set_option maxHeartbeats 400000
set_option linter.unusedVariables false
theorem rkind_t {h : Int} (w : World) (v : HV h) : Calls Tryd.prog 22 #[.int .i64 h] w fun e w' => e = .returned (.int .i64 (hK h)) ∧ w = w' := by
  have V := Lib.hid v; clear v
  go_enter Tryd.func22, Tryd.ntmps22
  go_wp2_with (go_at_call 38; refine (rparts_t _ V.out).mono ?_; rintro e w' ⟨rfl, rfl⟩)
  go_ret
  exact ⟨rfl, rfl⟩
theorem rkind_f {h : Int} (w : World) (v : ¬ HV h) : Calls Tryd.prog 22 #[.int .i64 h] w fun e w' => e = .returned (.int .i64 (0)) ∧ w = w' := by
  have V := Lib.hid v; clear v
  go_enter Tryd.func22, Tryd.ntmps22
  go_wp2_with (go_at_call 38; refine (rparts_f _ V.out).mono ?_; rintro e w' ⟨rfl, rfl⟩)
  go_ret
  exact ⟨rfl, rfl⟩
theorem rslot_t {h : Int} (w : World) (v : HV h) : Calls Tryd.prog 24 #[.int .i64 h] w fun e w' => e = .returned (.int .i64 (hS h)) ∧ w = w' := by
  have V := Lib.hid v; clear v
  go_enter Tryd.func24, Tryd.ntmps24
  go_wp2_with (go_at_call 38; refine (rparts_t _ V.out).mono ?_; rintro e w' ⟨rfl, rfl⟩)
  go_ret
  exact ⟨rfl, rfl⟩
theorem rslot_f {h : Int} (w : World) (v : ¬ HV h) : Calls Tryd.prog 24 #[.int .i64 h] w fun e w' => e = .returned (.int .i64 ((-1))) ∧ w = w' := by
  have V := Lib.hid v; clear v
  go_enter Tryd.func24, Tryd.ntmps24
  go_wp2_with (go_at_call 38; refine (rparts_f _ V.out).mono ?_; rintro e w' ⟨rfl, rfl⟩)
  go_ret
  exact ⟨rfl, rfl⟩
theorem rgen_t {h : Int} (w : World) (v : HV h) : Calls Tryd.prog 26 #[.int .i64 h] w fun e w' => e = .returned (.int .i64 (hG h)) ∧ w = w' := by
  have V := Lib.hid v; clear v
  go_enter Tryd.func26, Tryd.ntmps26
  go_wp2_with (go_at_call 38; refine (rparts_t _ V.out).mono ?_; rintro e w' ⟨rfl, rfl⟩)
  go_ret
  exact ⟨rfl, rfl⟩
theorem rgen_f {h : Int} (w : World) (v : ¬ HV h) : Calls Tryd.prog 26 #[.int .i64 h] w fun e w' => e = .returned (.int .i64 (0)) ∧ w = w' := by
  have V := Lib.hid v; clear v
  go_enter Tryd.func26, Tryd.ntmps26
  go_wp2_with (go_at_call 38; refine (rparts_f _ V.out).mono ?_; rintro e w' ⟨rfl, rfl⟩)
  go_ret
  exact ⟨rfl, rfl⟩
theorem rvalid_t {h : Int} (w : World) (v : HV h) : Calls Tryd.prog 20 #[.int .i64 h] w fun e w' => e = .returned (.bool true) ∧ w = w' := by
  have hk : 0 < hK h := by have := v.1; omega
  have V := Lib.hid v; clear v
  go_enter Tryd.func20, Tryd.ntmps20
  go_wp2_with (go_at_call 22; refine (rkind_t _ V.out).mono ?_; rintro e w' ⟨rfl, rfl⟩)
  go_ret
  exact ⟨by simp, rfl⟩
theorem rvalid_f {h : Int} (w : World) (v : ¬ HV h) : Calls Tryd.prog 20 #[.int .i64 h] w fun e w' => e = .returned (.bool false) ∧ w = w' := by
  have V := Lib.hid v; clear v
  go_enter Tryd.func20, Tryd.ntmps20
  go_wp2_with (go_at_call 22; refine (rkind_f _ V.out).mono ?_; rintro e w' ⟨rfl, rfl⟩)
  go_ret
  exact ⟨rfl, rfl⟩
theorem rnext_bad {h : Int} (w : World) (v : ¬ HV h) : Calls Tryd.prog 18 #[.int .i64 h] w fun e w' => e = .returned (.tuple #[.int .i64 0, .int .i64 20]) ∧ w = w' := by
  have V := Lib.hid v; clear v
  go_enter Tryd.func18, Tryd.ntmps18
  go_wp2_with (go_at_call 38; refine (rparts_f _ V.out).mono ?_; rintro e w' ⟨rfl, rfl⟩)
  go_ret2
  exact ⟨rfl, rfl⟩
theorem rnext_last {h : Int} (w : World) (v : HV h) (l : hG h = 1023) : Calls Tryd.prog 18 #[.int .i64 h] w fun e w' => e = .returned (.tuple #[.int .i64 0, .int .i64 30]) ∧ w = w' := by
  have hk : (hK h == 0) = false := by have := v.1; simp; omega
  have L : (hG h == 1023) = true := by simp [l]
  have V := Lib.hid v; clear v l
  go_enter Tryd.func18, Tryd.ntmps18
  go_wp2_with (go_at_call 38; refine (rparts_t _ V.out).mono ?_; rintro e w' ⟨rfl, rfl⟩)
  go_ret2
  exact ⟨rfl, rfl⟩
theorem rnext_ok {h : Int} (w : World) (v : HV h) (l : hG h ≠ 1023) : Calls Tryd.prog 18 #[.int .i64 h] w fun e w' => e = .returned (.tuple #[.int .i64 (h + 1), .int .i64 0]) ∧ w = w' := by
  have hk : (hK h == 0) = false := by have := v.1; simp; omega
  have L : (hG h == 1023) = false := by simp [l]
  have o : HOk (hK h) (hS h) (hG h + 1) := by unfold HV HOk at v; unfold HOk; omega
  have e1 : hK h * 1099511627776 + hS h * 1048576 + (hG h + 1) = h + 1 := by have := HV_eq v; omega
  have M := Lib.hid (fun W => by have := rmake_ok (hK h) (hS h) (hG h + 1) W o; rw [e1] at this; exact this)
  have g1 : 0 ≤ hG h := by have := v.2.2.2.2.1; omega
  have g2 : hG h ≤ 1023 := v.2.2.2.2.2
  have V := Lib.hid v; clear v l o e1
  go_enter Tryd.func18, Tryd.ntmps18
  go_wp2_with (first | (go_at_call 38; refine (rparts_t _ V.out).mono ?_; rintro e w' ⟨rfl, rfl⟩) | (go_at_call 10; refine (M.out _).mono ?_; rintro e w' ⟨rfl, rfl⟩))
  go_ret2
  exact ⟨rfl, rfl⟩
end Go.Proofs.YtpnjedcijbpngaaDoor
