/- What the small functions of package handle and of its reference return: Make, parts, Valid, Kind, Slot, Gen, Next; an error's number. -/
import Derived.Test.YtmfmmopnapchjaaDoorEnv
import Derived.Test.YtmfmmopnapchjaaDoorBits
namespace Go.Proofs.YtmfmmopnapchjaaDoor
open Go Go.RowKit Go.Shelf
set_option maxHeartbeats 400000
set_option linter.unusedVariables false

/-- An Errno as an error. -/
abbrev errN (n : Int) : Value := .iface 92 (.int .i64 n)

/-- What may be a kind, a slot, a generation. -/
def HOk (k s g : Int) : Prop := 1 ≤ k ∧ k ≤ 3 ∧ 0 ≤ s ∧ s ≤ 65535 ∧ 1 ≤ g ∧ g ≤ 1023
instance (k s g : Int) : Decidable (HOk k s g) := by unfold HOk; infer_instance
def hK (h : Int) : Int := h / 1099511627776
def hS (h : Int) : Int := h / 1048576 % 1048576
def hG (h : Int) : Int := h % 1048576
def HV (h : Int) : Prop := HOk (hK h) (hS h) (hG h)
instance (h : Int) : Decidable (HV h) := by unfold HV; infer_instance
def hv (h : Int) : Bool := decide (HV h)
theorem HV_eq {h : Int} (v : HV h) : h = hK h * 1099511627776 + hS h * 1048576 + hG h := by
  unfold HV HOk hK hS hG at *; omega
theorem HV_range {h : Int} (v : HV h) : 1099511627777 ≤ h ∧ h ≤ 3367254360063 := by
  unfold HV HOk hK hS hG at v; omega
theorem HV_make {k s g : Int} (o : HOk k s g) : HV (k * 1099511627776 + s * 1048576 + g) ∧ hK (k * 1099511627776 + s * 1048576 + g) = k ∧ hS (k * 1099511627776 + s * 1048576 + g) = s ∧ hG (k * 1099511627776 + s * 1048576 + g) = g := by
  unfold HV HOk hK hS hG at *; omega

theorem make_ok (k s g : Int) (w : World) (h : HOk k s g) :
    Calls Tryd.prog 46 #[.int .i64 k, .int .i64 s, .int .i64 g] w fun e w' => e = .returned (.tuple #[.int .i64 (k * 1099511627776 + s * 1048576 + g), .nilIface]) ∧ w = w' := by
  obtain ⟨a1, a2, a3, a4, a5, a6⟩ := h
  have e1 := or_at 40 (k * 1099511627776) (s * 1048576) (by decide) (by omega) (by omega) (by omega) (by omega) (by omega)
  have e2 := or_at 20 (k * 1099511627776 + s * 1048576) g (by decide) (by omega) (by omega) (by omega) (by omega) (by omega)
  have E1 := Lib.hid e1; clear e1
  have E2 := Lib.hid e2; clear e2
  go_enter Tryd.func46, Tryd.ntmps46
  go_wp2_with fail
  go_ret2
  simp [E1.out, E2.out]

theorem make_bad (k s g : Int) (w : World) (h : ¬ HOk k s g) :
    Calls Tryd.prog 46 #[.int .i64 k, .int .i64 s, .int .i64 g] w fun e w' => e = .returned (.tuple #[.int .i64 0, errN 1]) ∧ w = w' := by
  unfold HOk at h
  have H := Lib.hid h; clear h
  go_enter Tryd.func46, Tryd.ntmps46
  go_wp2_with fail
  all_goals first | (exfalso; have := H.out; omega) | (go_ret2; exact ⟨rfl, rfl⟩)

theorem rmake_ok (k s g : Int) (w : World) (h : HOk k s g) :
    Calls Tryd.prog 49 #[.int .i64 k, .int .i64 s, .int .i64 g] w fun e w' => e = .returned (.tuple #[.int .i64 (k * 1099511627776 + s * 1048576 + g), .int .i64 0]) ∧ w = w' := by
  obtain ⟨a1, a2, a3, a4, a5, a6⟩ := h
  go_enter Tryd.func49, Tryd.ntmps49
  go_wp2_with fail
  go_ret2
  simp

theorem rmake_bad (k s g : Int) (w : World) (h : ¬ HOk k s g) :
    Calls Tryd.prog 49 #[.int .i64 k, .int .i64 s, .int .i64 g] w fun e w' => e = .returned (.tuple #[.int .i64 0, .int .i64 1]) ∧ w = w' := by
  unfold HOk at h
  have H := Lib.hid h; clear h
  go_enter Tryd.func49, Tryd.ntmps49
  go_wp2_with fail
  all_goals first | (exfalso; have := H.out; omega) | (go_ret2; exact ⟨rfl, rfl⟩)

theorem parts_any (h : Int) (w : World) :
    Calls Tryd.prog 30 #[.int .i64 h] w fun e w' => e = .returned (.tuple #[.int .i64 (hK h), .int .i64 (hS h), .int .i64 (hG h)]) ∧ w = w' := by
  go_enter Tryd.func30, Tryd.ntmps30
  go_wp2_with fail
  go_ret3
  simp [and20, hK, hS, hG]

end Go.Proofs.YtmfmmopnapchjaaDoor
