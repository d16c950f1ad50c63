/- What Valid, Kind, Slot, Gen, Next of package handle and of its reference return, at every handle. -/
import Derived.Test.YtmfmmopnapchjaaDoorHa
namespace Go.Proofs.YtmfmmopnapchjaaDoor
open Go Go.RowKit Go.Shelf
set_option maxHeartbeats 400000
set_option linter.unusedVariables false

theorem hv_t {h : Int} (v : HV h) : hv h = true := by unfold hv; exact decide_eq_true v
theorem hv_f {h : Int} (v : ¬ HV h) : hv h = false := by unfold hv; exact decide_eq_false v

theorem valid_any (h : Int) (w : World) :
    Calls Tryd.prog 29 #[.int .i64 h] w fun e w' => e = .returned (.bool (hv h)) ∧ w = w' := by
  by_cases v : HV h
  · rw [hv_t v]
    have V := Lib.hid v; clear v
    go_enter Tryd.func29, Tryd.ntmps29
    go_wp2_with (first | (go_at_call 30; refine (parts_any _ _).mono ?_; rintro e w' ⟨rfl, rfl⟩) | (go_at_call 46; refine (make_ok _ _ _ _ V.out).mono ?_; rintro e w' ⟨rfl, rfl⟩))
    go_ret
    exact ⟨rfl, rfl⟩
  · rw [hv_f v]
    have V := Lib.hid v; clear v
    go_enter Tryd.func29, Tryd.ntmps29
    go_wp2_with (first | (go_at_call 30; refine (parts_any _ _).mono ?_; rintro e w' ⟨rfl, rfl⟩) | (go_at_call 46; refine (make_bad _ _ _ _ V.out).mono ?_; rintro e w' ⟨rfl, rfl⟩))
    go_ret
    exact ⟨rfl, rfl⟩
theorem valid_t {h : Int} (w : World) (v : HV h) : Calls Tryd.prog 29 #[.int .i64 h] w fun e w' => e = .returned (.bool true) ∧ w = w' := by
  have := valid_any h w; rw [hv_t v] at this; exact this
theorem valid_f {h : Int} (w : World) (v : ¬ HV h) : Calls Tryd.prog 29 #[.int .i64 h] w fun e w' => e = .returned (.bool false) ∧ w = w' := by
  have := valid_any h w; rw [hv_f v] at this; exact this

theorem kind_t {h : Int} (w : World) (v : HV h) : Calls Tryd.prog 67 #[.int .i64 h] w fun e w' => e = .returned (.int .i64 (hK h)) ∧ w = w' := by
  have V := Lib.hid v; clear v
  go_enter Tryd.func67, Tryd.ntmps67
  go_wp2_with (first | (go_at_call 29; refine (valid_t _ V.out).mono ?_; rintro e w' ⟨rfl, rfl⟩) | (go_at_call 30; refine (parts_any _ _).mono ?_; rintro e w' ⟨rfl, rfl⟩))
  go_ret
  exact ⟨rfl, rfl⟩
theorem kind_f {h : Int} (w : World) (v : ¬ HV h) : Calls Tryd.prog 67 #[.int .i64 h] w fun e w' => e = .returned (.int .i64 0) ∧ w = w' := by
  have V := Lib.hid v; clear v
  go_enter Tryd.func67, Tryd.ntmps67
  go_wp2_with (go_at_call 29; refine (valid_f _ V.out).mono ?_; rintro e w' ⟨rfl, rfl⟩)
  go_ret
  exact ⟨rfl, rfl⟩
theorem slot_t {h : Int} (w : World) (v : HV h) : Calls Tryd.prog 68 #[.int .i64 h] w fun e w' => e = .returned (.int .i64 (hS h)) ∧ w = w' := by
  have V := Lib.hid v; clear v
  go_enter Tryd.func68, Tryd.ntmps68
  go_wp2_with (first | (go_at_call 29; refine (valid_t _ V.out).mono ?_; rintro e w' ⟨rfl, rfl⟩) | (go_at_call 30; refine (parts_any _ _).mono ?_; rintro e w' ⟨rfl, rfl⟩))
  go_ret
  exact ⟨rfl, rfl⟩
theorem slot_f {h : Int} (w : World) (v : ¬ HV h) : Calls Tryd.prog 68 #[.int .i64 h] w fun e w' => e = .returned (.int .i64 (-1)) ∧ w = w' := by
  have V := Lib.hid v; clear v
  go_enter Tryd.func68, Tryd.ntmps68
  go_wp2_with (go_at_call 29; refine (valid_f _ V.out).mono ?_; rintro e w' ⟨rfl, rfl⟩)
  go_ret
  exact ⟨rfl, rfl⟩
theorem gen_t {h : Int} (w : World) (v : HV h) : Calls Tryd.prog 69 #[.int .i64 h] w fun e w' => e = .returned (.int .i64 (hG h)) ∧ w = w' := by
  have V := Lib.hid v; clear v
  go_enter Tryd.func69, Tryd.ntmps69
  go_wp2_with (first | (go_at_call 29; refine (valid_t _ V.out).mono ?_; rintro e w' ⟨rfl, rfl⟩) | (go_at_call 30; refine (parts_any _ _).mono ?_; rintro e w' ⟨rfl, rfl⟩))
  go_ret
  exact ⟨rfl, rfl⟩
theorem gen_f {h : Int} (w : World) (v : ¬ HV h) : Calls Tryd.prog 69 #[.int .i64 h] w fun e w' => e = .returned (.int .i64 0) ∧ w = w' := by
  have V := Lib.hid v; clear v
  go_enter Tryd.func69, Tryd.ntmps69
  go_wp2_with (go_at_call 29; refine (valid_f _ V.out).mono ?_; rintro e w' ⟨rfl, rfl⟩)
  go_ret
  exact ⟨rfl, rfl⟩

theorem rparts_t {h : Int} (w : World) (v : HV h) : Calls Tryd.prog 33 #[.int .i64 h] w fun e w' => e = .returned (.tuple #[.int .i64 (hK h), .int .i64 (hS h), .int .i64 (hG h)]) ∧ w = w' := by
  have hr := HV_range v
  obtain ⟨hr1, hr2⟩ := hr
  have V := Lib.hid v; clear v
  have B := fun x => Lib.hid (and20 x)
  go_enter Tryd.func33, Tryd.ntmps33
  go_wp2_with (go_at_call 49; simp only [and20]; refine (rmake_ok (hK h) (hS h) (hG h) _ V.out).mono ?_; rintro e w' ⟨rfl, rfl⟩)
  go_ret3
  exact ⟨rfl, rfl⟩
theorem rparts_f {h : Int} (w : World) (v : ¬ HV h) : Calls Tryd.prog 33 #[.int .i64 h] w fun e w' => e = .returned (.tuple #[.int .i64 0, .int .i64 (-1), .int .i64 0]) ∧ w = w' := by
  have V := Lib.hid v; clear v
  by_cases hn : h < 0
  · go_enter Tryd.func33, Tryd.ntmps33
    go_wp2_with fail
    go_ret3
    exact ⟨rfl, rfl⟩
  · go_enter Tryd.func33, Tryd.ntmps33
    go_wp2_with (go_at_call 49; simp only [and20]; refine (rmake_bad (hK h) (hS h) (hG h) _ V.out).mono ?_; rintro e w' ⟨rfl, rfl⟩)
    go_ret3
    exact ⟨rfl, rfl⟩
end Go.Proofs.YtmfmmopnapchjaaDoor
