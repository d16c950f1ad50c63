/- Digits and Text of the reference of layer 2. -/
import Derived.Test.YtmfmmopnapchjaaDoorHr
import Derived.Test.YtmfmmopnapchjaaDoorHc
import Derived.Deep.QuietTactic
import Derived.BigQuiet
namespace Go.Proofs.YtmfmmopnapchjaaDoor
open Go Go.RowKit Go.Shelf Go.Sort
set_option maxHeartbeats 400000
set_option maxRecDepth 100000
set_option linter.unusedVariables false

theorem dig_piece (r : Nat) (h : r < 10) : (⟨#[48, 49, 50, 51, 52, 53, 54, 55, 56, 57]⟩ : ByteArray).extract r (r + 1) = ⟨#[UInt8.ofNat (48 + r)]⟩ := by
  have : ∀ i : Fin 10, (⟨#[48, 49, 50, 51, 52, 53, 54, 55, 56, 57]⟩ : ByteArray).extract i.val (i.val + 1) = ⟨#[UInt8.ofNat (48 + i.val)]⟩ := by decide
  exact this ⟨r, h⟩
theorem decDigits_len (n : Nat) (h : n < 9223372036854775808) : (Lib.decDigits n).length ≤ 20 := by rw [Lib.decDigits_length]; exact Lib.nDigits_le20 n (by omega)
theorem decDigits_step (n : Nat) (h : ¬ n < 10) : Lib.decDigits n = Lib.decDigits (n / 10) ++ [UInt8.ofNat (48 + n % 10)] := by
  rw [Lib.decDigits, dif_neg h]

theorem digits_any (n : Nat) : n < 9223372036854775808 → ∀ w : World, Calls Tryd.prog 34 #[.int .i64 n] w fun e w' => e = .returned (.string ⟨(Lib.decDigits n).toArray⟩) ∧ ∃ m, w' = w.drewN m := by
  induction n using Nat.strongRecOn with
  | ind n ih =>
    intro hn w
    by_cases h10 : n < 10
    · have P := dig_piece n h10
      have R := Lib.hid (Lib.decDigits_one h10)
      clear ih
      generalize UInt8.ofNat (48 + n) = c at *
      go_enter Tryd.func34, Tryd.ntmps34
      go_wp2_with fail
      go_ret
      exact ⟨by rw [R.out]; rfl, 0, rfl⟩
    · have I := Lib.hid (ih (n / 10) (by omega) (by omega))
      have hr : n % 10 < 10 := Nat.mod_lt _ (by decide)
      have P := dig_piece (n % 10) hr
      have L := decDigits_len (n / 10) (by omega)
      have R := Lib.hid (decDigits_step n h10)
      clear ih
      generalize Lib.decDigits (n / 10) = ds at *
      generalize UInt8.ofNat (48 + n % 10) = c at *
      have n1 : ¬ 9223372036854775807 < ds.length + 1 := by omega
      go_enter Tryd.func34, Tryd.ntmps34
      go_wp2_with fail
      go_quiet ((go_at_call 34; exact Calls.quiet_of (I.out _)))
      go_wp2_with fail
      go_ret
      exact ⟨by rw [R.out, ← ByteArray.mk_append_mk]; rfl, _, rfl⟩

theorem itoa_nat (n : Int) (h : 0 ≤ n) : Lib.itoa n = Lib.decDigits n.toNat := by unfold Lib.itoa; rw [if_neg (by omega)]

theorem digits_int (n : Int) (h0 : 0 ≤ n) (h1 : n ≤ 9223372036854775807) (w : World) : Calls Tryd.prog 34 #[.int .i64 n] w fun e w' => e = .returned (.string ⟨(Lib.itoa n).toArray⟩) ∧ ∃ m, w' = w.drewN m := by
  have := digits_any n.toNat (by omega) w
  rw [itoa_nat n h0]
  rw [Int.toNat_of_nonneg h0] at this
  exact this

theorem rtext_zero (W : World) : Calls Tryd.prog 15 #[.int .i64 0] W fun e w' => e = .returned (.string ⟨(hText 0).toArray⟩) ∧ Below W.heap.size W w' := by
  go_enter Tryd.func15, Tryd.ntmps15
  go_wp2_with fail
  go_ret
  exact ⟨rfl, Below.refl _ _⟩
theorem rtext_bad {h : Int} (W : World) (v : ¬ HV h) (z : h ≠ 0) : Calls Tryd.prog 15 #[.int .i64 h] W fun e w' => e = .returned (.string ⟨(hText h).toArray⟩) ∧ Below W.heap.size W w' := by
  have T : hText h = [] := by unfold hText; rw [if_neg z, if_neg v]
  rw [T]
  clear T
  have V := Lib.hid v; clear v
  have Z : (h == 0) = false := by simp [z]
  clear z
  go_enter Tryd.func15, Tryd.ntmps15
  go_wp2_with (go_at_call 33; refine (rparts_f _ V.out).mono ?_; rintro e w' ⟨rfl, rfl⟩)
  go_ret
  exact ⟨rfl, Below.refl _ _⟩

theorem rtext_ok {h : Int} (W : World) (v : HV h) : Calls Tryd.prog 15 #[.int .i64 h] W fun e w' => e = .returned (.string ⟨(hText h).toArray⟩) ∧ Below W.heap.size W w' := by
  have z := HV_ne v
  have T : hText h = letter (hK h) :: (Lib.itoa (hS h) ++ 46 :: Lib.itoa (hG h)) := by unfold hText; rw [if_neg z, if_pos v]
  have hs : 0 ≤ hS h ∧ hS h ≤ 65535 := ⟨v.2.2.1, v.2.2.2.1⟩
  have hg : 0 ≤ hG h ∧ hG h ≤ 1048576 := by have := v.2.2.2.2; omega
  have k3 : hK h = 1 ∨ hK h = 2 ∨ hK h = 3 := by have := v.1; have := v.2.1; omega
  have P0 := fun W => rparts_t (h := h) W v
  clear v
  have Z : (h == 0) = false := by simp [z]
  clear z
  have ls := Lib.itoa_length_le (hS h) (by omega) (by omega)
  have lg := Lib.itoa_length_le (hG h) (by omega) (by omega)
  have CS := Lib.hid (fun n => Calls.quiet_of (digits_int (hS h) (by omega) (by omega) (W.drewN n)))
  have CG := Lib.hid (fun n => Calls.quiet_of (digits_int (hG h) (by omega) (by omega) (W.drewN n)))
  clear hs hg
  rw [T]
  clear T
  rcases k3 with k | k | k
  all_goals
    have P : ∀ W, Calls Tryd.prog 33 #[.int .i64 h] W fun e w' => e = .returned (.tuple #[.int .i64 _, .int .i64 (hS h), .int .i64 (hG h)]) ∧ W = w' := fun W => by have := P0 W; rw [k] at this; exact this
    have PP := Lib.hid P; clear P P0
    rw [k]
    clear k
    generalize Lib.itoa (hS h) = a at *
    generalize Lib.itoa (hG h) = b at *
    generalize hS h = s at *
    generalize hG h = g at *
    go_enter Tryd.func15, Tryd.ntmps15
    go_wp2_with (go_at_call 33; refine (PP.out _).mono ?_; rintro e w' ⟨rfl, rfl⟩)
    have w0 : IntKind.i64.wrap 0 = 0 := by decide
    have w1 : IntKind.i64.wrap 1 = 1 := by decide
    have w2 : IntKind.i64.wrap 2 = 2 := by decide
    have x0 : (⟨#[110, 116, 115]⟩ : ByteArray).extract 0 1 = ⟨#[110]⟩ := by decide
    have x1 : (⟨#[110, 116, 115]⟩ : ByteArray).extract 1 2 = ⟨#[116]⟩ := by decide
    have x2 : (⟨#[110, 116, 115]⟩ : ByteArray).extract 2 3 = ⟨#[115]⟩ := by decide
    have n1 : ¬ 9223372036854775807 < 1 + a.length := by omega
    have n2 : ¬ 9223372036854775807 < 1 + a.length + 1 := by omega
    have n3 : ¬ 9223372036854775807 < 1 + a.length + 1 + b.length := by omega
    go_quiet ((first | (with_reducible exact CS.out _) | (with_reducible exact CG.out _)))
    go_wp2
    go_ret
    exact ⟨congrArg (fun s => Ending.returned (Value.string s)) (str_join _ a b), below_drewN (Below.refl _ _) _⟩

theorem rtext_any {h : Int} (W : World) : Calls Tryd.prog 15 #[.int .i64 h] W fun e w' => e = .returned (.string ⟨(hText h).toArray⟩) ∧ Below W.heap.size W w' := by
  by_cases z : h = 0
  · subst z; exact rtext_zero W
  · by_cases v : HV h
    · exact rtext_ok W v
    · exact rtext_bad W v z
end Go.Proofs.YtmfmmopnapchjaaDoor
