/- The helpers of the laws of layer 24: num, texts, same. -/
import Derived.Test.YtdcnlgjngfmbcaaDoorLn
namespace Go.Proofs.YtdcnlgjngfmbcaaDoor
open Go Go.RowKit Go.Shelf
set_option linter.unusedVariables false
set_option linter.unusedSimpArgs false
set_option maxRecDepth 100000
set_option maxHeartbeats 1600000

theorem num_nil (w : World) : Calls Tryd.prog 12 #[.nilIface] w fun e w' => e = .returned (.int .i64 0) ∧ w = w' := by
  go_enter Tryd.func12, Tryd.ntmps12
  go_wp2_with fail
  go_ret
  exact ⟨rfl, rfl⟩
theorem num_err (n : Int) (w : World) : Calls Tryd.prog 12 #[errN n] w fun e w' => e = .returned (.int .i64 n) ∧ w = w' := by
  have hta : ∀ (v : Value) (W : World), (Instr.typeAssert (.iface 63 v) 24 63 true).run Tryd.prog W = .ok (.tuple #[v, .bool true]) W := fun v W => by kernel_rfl
  go_enter Tryd.func12, Tryd.ntmps12
  go_wp2_with fail
  go_ret
  exact ⟨rfl, rfl⟩
theorem num_of (n : Int) (w : World) : Calls Tryd.prog 12 #[errOf n] w fun e w' => e = .returned (.int .i64 n) ∧ w = w' := by
  unfold errOf
  by_cases h : n = 0
  · rw [if_pos h, h]; exact num_nil w
  · rw [if_neg h]; exact num_err n w
theorem below_dr (w : World) (n : Nat) : Below w.heap.size w (w.drewN n) := ⟨rfl, rfl, rfl, Nat.le_refl _, fun _ _ => rfl⟩

/-- texts of equal texts. -/
theorem texts_s (l : List (List UInt8)) (v u : Value) (W : World) (hv : RS W v l) (hu : RS W u l) (hl : l.length ≤ 281474976710656) :
    Calls Tryd.prog 19 #[v, u] W fun e w' => e = .returned (.bool true) ∧ ∃ n, w' = W.drewN n := by
  obtain ⟨p, c, rfl, hr⟩ := RS.out hv
  obtain ⟨p', c', rfl, hr'⟩ := RS.out hu
  have H1 := Lib.hid hr
  have H2 := Lib.hid hr'
  have hli : (l.length : Int) ≤ 281474976710656 := by omega
  clear hv hu hr hr'
  go_enter Tryd.func19, Tryd.ntmps19
  go_wp2_with fail
  go_loopw [5] (fun i wr => ∃ k nq : Nat, k ≤ l.length ∧ i = .int .i64 k ∧ wr = W.drewN nq) (fun i _ => l.length - (intOf i).toNat)
  case atStart => exact ⟨0, 0, Nat.zero_le _, by go_num, rfl⟩
  case round =>
    obtain ⟨k, nq, hk, rfl, rfl⟩ := hrel
    have hkb : (k : Int) ≤ 281474976710656 := by omega
    by_cases hlt : k < l.length
    · obtain ⟨b, o, rfl, _, g3⟩ := H1.out k hlt
      obtain ⟨b', o', rfl, _, g4⟩ := H2.out k hlt
      have hkn : (k : Int) < (l.length : Int) := by omega
      generalize l.getD k [] = x at *
      have hne : (x != x) = false := by simp
      clear hlt
      go_wp2_with fail
      go_quiet (fail)
      go_wp2_with fail
      go_roundw
      case rel => exact ⟨k + 1, _, by omega, by go_num, rfl⟩
      case measure => show l.length - ((k : Int) + 1).toNat < l.length - ((k : Int)).toNat; omega
    · obtain rfl : k = l.length := by omega
      clear hlt
      go_wp2_with fail
      go_ret
      exact ⟨rfl, nq, rfl⟩
/-- same of equal lines. -/
theorem same_s (L : List LnS) (v u : Value) (W : World) (hv : RL W v L) (hu : RL W u L) (hl : L.length ≤ 281474976710656) (hw : ∀ i, i < L.length → (L.getD i default).2.length ≤ 281474976710656) :
    Calls Tryd.prog 11 #[v, u] W fun e w' => e = .returned (.bool true) ∧ ∃ n, w' = W.drewN n := by
  obtain ⟨p, c, rfl, hr⟩ := hv
  obtain ⟨p', c', rfl, hr'⟩ := hu
  have H1 := Lib.hid hr
  have H2 := Lib.hid hr'
  have HW := Lib.hid hw
  have hli : (L.length : Int) ≤ 281474976710656 := by omega
  clear hr hr' hw
  go_enter Tryd.func11, Tryd.ntmps11
  go_wp2_with fail
  go_loopw [5] (fun i wr => ∃ k nq : Nat, k ≤ L.length ∧ i = .int .i64 k ∧ wr = W.drewN nq) (fun i _ => L.length - (intOf i).toNat)
  case atStart => exact ⟨0, 0, Nat.zero_le _, by go_num, rfl⟩
  case round =>
    obtain ⟨k, nq, hk, rfl, rfl⟩ := hrel
    have hkb : (k : Int) ≤ 281474976710656 := by omega
    by_cases hlt : k < L.length
    · obtain ⟨b, o, u1, rfl, _, a1, a2, a3⟩ := H1.out k hlt
      obtain ⟨b', o', u2, rfl, _, c1, c2, c3⟩ := H2.out k hlt
      have hkn : (k : Int) < (L.length : Int) := by omega
      have TX := Lib.hid (fun a => (texts_s _ u1 u2 (W.drewN (nq + a)) (a3.below (below_dr _ _)) (c3.below (below_dr _ _)) (HW.out k hlt)).mono (fun e w'' (h : e = .returned (.bool true) ∧ ∃ m, w'' = (W.drewN (nq + a)).drewN m) => (⟨h.1, by
        obtain ⟨m, hm⟩ := h.2
        exact ⟨a + m, by rw [hm, World.drewN_drewN, Nat.add_assoc]⟩⟩ : e = .returned (.bool true) ∧ ∃ n, w'' = W.drewN (nq + n))))
      obtain ⟨p1, q1, rfl, _⟩ := RS.out a3
      obtain ⟨p2, q2, rfl, _⟩ := RS.out c3
      generalize (L.getD k default).2 = ws at *
      generalize (L.getD k default).1 = no at *
      clear a3 c3 hlt
      go_wp2_with fail
      go_quiet ((go_at_call 19; exact TX.out _))
      go_wp2_with fail
      go_roundw
      case rel => exact ⟨k + 1, _, by omega, by go_num, rfl⟩
      case measure => show L.length - ((k : Int) + 1).toNat < L.length - ((k : Int)).toNat; omega
    · obtain rfl : k = L.length := by omega
      clear hlt
      go_wp2_with fail
      go_ret
      exact ⟨rfl, nq, rfl⟩
end Go.Proofs.YtdcnlgjngfmbcaaDoor
