/- Handles: what Make, parts, Valid of package handle and of its reference return, at every handle. -/
import Derived.Test.YtohodbpjcbjifaaDoorOwn
import Derived.Test.YtohodbpjcbjifaaDoorProg
import Derived.Test.YtohodbpjcbjifaaDoorBits
import Derived.Lib.Hide
namespace Go.Proofs.YtohodbpjcbjifaaDoor
open Go Go.RowKit
set_option maxHeartbeats 400000
set_option linter.unusedVariables false

/-- An Errno as an error. -/
abbrev errN (n : Int) : Value := .iface 44 (.int .i64 n)
/-- What may be a kind, a slot, a generation. -/
def HOk (k s g : Int) : Prop := 1 ≤ k ∧ k ≤ 3 ∧ 0 ≤ s ∧ s ≤ 65535 ∧ 1 ≤ g ∧ g ≤ 1023
instance (k s g : Int) : Decidable (HOk k s g) := by unfold HOk; infer_instance
def hK (h : Int) : Int := h / 1099511627776
def hS (h : Int) : Int := h / 1048576 % 1048576
def hG (h : Int) : Int := h % 1048576
def HV (h : Int) : Prop := HOk (hK h) (hS h) (hG h)
instance (h : Int) : Decidable (HV h) := by unfold HV; infer_instance
def hv (h : Int) : Bool := decide (HV h)
theorem HV_eq {h : Int} (v : HV h) : h = hK h * 1099511627776 + hS h * 1048576 + hG h := by
  unfold HV HOk hK hS hG at *; omega
theorem HV_range {h : Int} (v : HV h) : 1099511627777 ≤ h ∧ h ≤ 3367254360063 := by
  unfold HV HOk hK hS hG at v; omega
theorem HV_make {k s g : Int} (o : HOk k s g) : HV (k * 1099511627776 + s * 1048576 + g) ∧ hK (k * 1099511627776 + s * 1048576 + g) = k ∧ hS (k * 1099511627776 + s * 1048576 + g) = s ∧ hG (k * 1099511627776 + s * 1048576 + g) = g := by
  unfold HV HOk hK hS hG at *; omega
theorem make_ok (k s g : Int) (w : World) (h : HOk k s g) :
    Calls Tryd.prog 35 #[.int .i64 k, .int .i64 s, .int .i64 g] w fun e w' => e = .returned (.tuple #[.int .i64 (k * 1099511627776 + s * 1048576 + g), .nilIface]) ∧ w = w' := by
  obtain ⟨a1, a2, a3, a4, a5, a6⟩ := h
  have e1 := or_at 40 (k * 1099511627776) (s * 1048576) (by decide) (by omega) (by omega) (by omega) (by omega) (by omega)
  have e2 := or_at 20 (k * 1099511627776 + s * 1048576) g (by decide) (by omega) (by omega) (by omega) (by omega) (by omega)
  have E1 := Lib.hid e1; clear e1
  have E2 := Lib.hid e2; clear e2
  go_enter Tryd.func35, Tryd.ntmps35
  go_wp2_with fail
  go_ret2
  simp [E1.out, E2.out]
theorem make_bad (k s g : Int) (w : World) (h : ¬ HOk k s g) :
    Calls Tryd.prog 35 #[.int .i64 k, .int .i64 s, .int .i64 g] w fun e w' => e = .returned (.tuple #[.int .i64 0, errN 1]) ∧ w = w' := by
  unfold HOk at h
  have H := Lib.hid h; clear h
  go_enter Tryd.func35, Tryd.ntmps35
  go_wp2_with fail
  all_goals first | (exfalso; have := H.out; omega) | (go_ret2; exact ⟨rfl, rfl⟩)
theorem rmake_ok (k s g : Int) (w : World) (h : HOk k s g) :
    Calls Tryd.prog 40 #[.int .i64 k, .int .i64 s, .int .i64 g] w fun e w' => e = .returned (.tuple #[.int .i64 (k * 1099511627776 + s * 1048576 + g), .int .i64 0]) ∧ w = w' := by
  obtain ⟨a1, a2, a3, a4, a5, a6⟩ := h
  go_enter Tryd.func40, Tryd.ntmps40
  go_wp2_with fail
  go_ret2
  simp
theorem rmake_bad (k s g : Int) (w : World) (h : ¬ HOk k s g) :
    Calls Tryd.prog 40 #[.int .i64 k, .int .i64 s, .int .i64 g] w fun e w' => e = .returned (.tuple #[.int .i64 0, .int .i64 1]) ∧ w = w' := by
  unfold HOk at h
  have H := Lib.hid h; clear h
  go_enter Tryd.func40, Tryd.ntmps40
  go_wp2_with fail
  all_goals first | (exfalso; have := H.out; omega) | (go_ret2; exact ⟨rfl, rfl⟩)
theorem parts_any (h : Int) (w : World) :
    Calls Tryd.prog 36 #[.int .i64 h] w fun e w' => e = .returned (.tuple #[.int .i64 (hK h), .int .i64 (hS h), .int .i64 (hG h)]) ∧ w = w' := by
  go_enter Tryd.func36, Tryd.ntmps36
  go_wp2_with fail
  go_ret3
  simp [and20, hK, hS, hG]
theorem hv_t {h : Int} (v : HV h) : hv h = true := by unfold hv; exact decide_eq_true v
theorem hv_f {h : Int} (v : ¬ HV h) : hv h = false := by unfold hv; exact decide_eq_false v
theorem valid_any (h : Int) (w : World) :
    Calls Tryd.prog 25 #[.int .i64 h] w fun e w' => e = .returned (.bool (hv h)) ∧ w = w' := by
  by_cases v : HV h
  · rw [hv_t v]
    have V := Lib.hid v; clear v
    go_enter Tryd.func25, Tryd.ntmps25
    go_wp2_with (first | (go_at_call 36; refine (parts_any _ _).mono ?_; rintro e w' ⟨rfl, rfl⟩) | (go_at_call 35; refine (make_ok _ _ _ _ V.out).mono ?_; rintro e w' ⟨rfl, rfl⟩))
    go_ret
    exact ⟨rfl, rfl⟩
  · rw [hv_f v]
    have V := Lib.hid v; clear v
    go_enter Tryd.func25, Tryd.ntmps25
    go_wp2_with (first | (go_at_call 36; refine (parts_any _ _).mono ?_; rintro e w' ⟨rfl, rfl⟩) | (go_at_call 35; refine (make_bad _ _ _ _ V.out).mono ?_; rintro e w' ⟨rfl, rfl⟩))
    go_ret
    exact ⟨rfl, rfl⟩
theorem valid_t {h : Int} (w : World) (v : HV h) : Calls Tryd.prog 25 #[.int .i64 h] w fun e w' => e = .returned (.bool true) ∧ w = w' := by
  have := valid_any h w; rw [hv_t v] at this; exact this
theorem valid_f {h : Int} (w : World) (v : ¬ HV h) : Calls Tryd.prog 25 #[.int .i64 h] w fun e w' => e = .returned (.bool false) ∧ w = w' := by
  have := valid_any h w; rw [hv_f v] at this; exact this
theorem rparts_t {h : Int} (w : World) (v : HV h) : Calls Tryd.prog 39 #[.int .i64 h] w fun e w' => e = .returned (.tuple #[.int .i64 (hK h), .int .i64 (hS h), .int .i64 (hG h)]) ∧ w = w' := by
  have hr := HV_range v
  obtain ⟨hr1, hr2⟩ := hr
  have V := Lib.hid v; clear v
  have B := fun x => Lib.hid (and20 x)
  go_enter Tryd.func39, Tryd.ntmps39
  go_wp2_with (go_at_call 40; simp only [and20]; refine (rmake_ok (hK h) (hS h) (hG h) _ V.out).mono ?_; rintro e w' ⟨rfl, rfl⟩)
  go_ret3
  exact ⟨rfl, rfl⟩
theorem rparts_f {h : Int} (w : World) (v : ¬ HV h) : Calls Tryd.prog 39 #[.int .i64 h] w fun e w' => e = .returned (.tuple #[.int .i64 0, .int .i64 (-1), .int .i64 0]) ∧ w = w' := by
  have V := Lib.hid v; clear v
  by_cases hn : h < 0
  · go_enter Tryd.func39, Tryd.ntmps39
    go_wp2_with fail
    go_ret3
    exact ⟨rfl, rfl⟩
  · go_enter Tryd.func39, Tryd.ntmps39
    go_wp2_with (go_at_call 40; simp only [and20]; refine (rmake_bad (hK h) (hS h) (hG h) _ V.out).mono ?_; rintro e w' ⟨rfl, rfl⟩)
    go_ret3
    exact ⟨rfl, rfl⟩
theorem rkind_t {h : Int} (w : World) (v : HV h) : Calls Tryd.prog 38 #[.int .i64 h] w fun e w' => e = .returned (.int .i64 (hK h)) ∧ w = w' := by
  have V := Lib.hid v; clear v
  go_enter Tryd.func38, Tryd.ntmps38
  go_wp2_with (go_at_call 39; refine (rparts_t _ V.out).mono ?_; rintro e w' ⟨rfl, rfl⟩)
  go_ret
  exact ⟨rfl, rfl⟩
theorem rkind_f {h : Int} (w : World) (v : ¬ HV h) : Calls Tryd.prog 38 #[.int .i64 h] w fun e w' => e = .returned (.int .i64 (0)) ∧ w = w' := by
  have V := Lib.hid v; clear v
  go_enter Tryd.func38, Tryd.ntmps38
  go_wp2_with (go_at_call 39; refine (rparts_f _ V.out).mono ?_; rintro e w' ⟨rfl, rfl⟩)
  go_ret
  exact ⟨rfl, rfl⟩
theorem rvalid_t {h : Int} (w : World) (v : HV h) : Calls Tryd.prog 37 #[.int .i64 h] w fun e w' => e = .returned (.bool true) ∧ w = w' := by
  have hk : 0 < hK h := by have := v.1; omega
  have V := Lib.hid v; clear v
  go_enter Tryd.func37, Tryd.ntmps37
  go_wp2_with (go_at_call 38; refine (rkind_t _ V.out).mono ?_; rintro e w' ⟨rfl, rfl⟩)
  go_ret
  exact ⟨by simp, rfl⟩
theorem rvalid_f {h : Int} (w : World) (v : ¬ HV h) : Calls Tryd.prog 37 #[.int .i64 h] w fun e w' => e = .returned (.bool false) ∧ w = w' := by
  have V := Lib.hid v; clear v
  go_enter Tryd.func37, Tryd.ntmps37
  go_wp2_with (go_at_call 38; refine (rkind_f _ V.out).mono ?_; rintro e w' ⟨rfl, rfl⟩)
  go_ret
  exact ⟨rfl, rfl⟩
end Go.Proofs.YtohodbpjcbjifaaDoor
