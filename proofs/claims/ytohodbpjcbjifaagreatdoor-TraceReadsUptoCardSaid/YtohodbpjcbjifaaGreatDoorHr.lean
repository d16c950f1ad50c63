/- What Valid, Kind, Slot, Gen, Next of the reference of layer 2 return, at every handle. -/
import Derived.Test.YtohodbpjcbjifaaGreatDoorHb
namespace Go.Proofs.YtohodbpjcbjifaaGreatDoor
open Go Go.RowKit Go.Shelf Go.Sort
set_option maxHeartbeats 400000
set_option linter.unusedVariables false
theorem rkind_t {h : Int} (w : World) (v : HV h) : Calls Tryz.prog 71 #[.int .i64 h] w fun e w' => e = .returned (.int .i64 (hK h)) ∧ w = w' := by
  have V := Lib.hid v; clear v
  go_enter Tryz.func71, Tryz.ntmps71
  go_wp2_with (go_at_call 38; refine (rparts_t _ V.out).mono ?_; rintro e w' ⟨rfl, rfl⟩)
  go_ret
  exact ⟨rfl, rfl⟩
theorem rkind_f {h : Int} (w : World) (v : ¬ HV h) : Calls Tryz.prog 71 #[.int .i64 h] w fun e w' => e = .returned (.int .i64 (0)) ∧ w = w' := by
  have V := Lib.hid v; clear v
  go_enter Tryz.func71, Tryz.ntmps71
  go_wp2_with (go_at_call 38; refine (rparts_f _ V.out).mono ?_; rintro e w' ⟨rfl, rfl⟩)
  go_ret
  exact ⟨rfl, rfl⟩
theorem rvalid_t {h : Int} (w : World) (v : HV h) : Calls Tryz.prog 46 #[.int .i64 h] w fun e w' => e = .returned (.bool true) ∧ w = w' := by
  have hk : 0 < hK h := by have := v.1; omega
  have V := Lib.hid v; clear v
  go_enter Tryz.func46, Tryz.ntmps46
  go_wp2_with (go_at_call 71; refine (rkind_t _ V.out).mono ?_; rintro e w' ⟨rfl, rfl⟩)
  go_ret
  exact ⟨by simp, rfl⟩
theorem rvalid_f {h : Int} (w : World) (v : ¬ HV h) : Calls Tryz.prog 46 #[.int .i64 h] w fun e w' => e = .returned (.bool false) ∧ w = w' := by
  have V := Lib.hid v; clear v
  go_enter Tryz.func46, Tryz.ntmps46
  go_wp2_with (go_at_call 71; refine (rkind_f _ V.out).mono ?_; rintro e w' ⟨rfl, rfl⟩)
  go_ret
  exact ⟨rfl, rfl⟩
end Go.Proofs.YtohodbpjcbjifaaGreatDoor
