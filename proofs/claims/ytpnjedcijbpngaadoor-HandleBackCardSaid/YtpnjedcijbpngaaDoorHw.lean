/- The head of the handle statements (works): it answers true. -/
import Derived.Test.YtpnjedcijbpngaaDoorHe
namespace Go.Proofs.YtpnjedcijbpngaaDoor
open Go Go.RowKit Go.Shelf Go.Sort
set_option maxHeartbeats 400000
set_option maxRecDepth 100000
set_option linter.unusedVariables false

theorem itoa_one (i : Nat) (h : i < 10) : Lib.itoa (i : Int) = [UInt8.ofNat (48 + i)] := by
  unfold Lib.itoa
  rw [if_neg (by omega), Int.toNat_natCast, Lib.decDigits_one h]
theorem hText_w : hText 1099514773511 = [110, 51, 46, 55] := by
  have v : HV 1099514773511 := by decide
  have e1 : hK 1099514773511 = 1 := by decide
  have e2 : hS 1099514773511 = ((3 : Nat) : Int) := by decide
  have e3 : hG 1099514773511 = ((7 : Nat) : Int) := by decide
  unfold hText
  rw [if_neg (by decide), if_pos v, e1, e2, e3, itoa_one 3 (by decide), itoa_one 7 (by decide)]
  rfl
theorem hText_t : hText 2199023255553 = [116, 48, 46, 49] := by
  have v : HV 2199023255553 := by decide
  have e1 : hK 2199023255553 = 2 := by decide
  have e2 : hS 2199023255553 = ((0 : Nat) : Int) := by decide
  have e3 : hG 2199023255553 = ((1 : Nat) : Int) := by decide
  unfold hText
  rw [if_neg (by decide), if_pos v, e1, e2, e3, itoa_one 0 (by decide), itoa_one 1 (by decide)]
  rfl
theorem hRead_t : hRead [116, 48, 46, 49] = (2199023255553, 0) := by
  have e1 : rdK [116, 48, 46, 49] = 2 := by decide
  have e2 : rdA [116, 48, 46, 49] = 0 := by decide
  have e3 : rdB [116, 48, 46, 49] = 1 := by decide
  have e4 : hMk 2 0 1 = 2199023255553 := by decide
  unfold hRead
  rw [if_neg (by decide), if_neg (by decide), if_neg (by decide), e1, e2, e3, e4, if_pos ⟨by decide, hText_t⟩]
theorem hRead_n : hRead [110, 48, 51, 46, 55] = (0, 4) := by
  have e1 : rdK [110, 48, 51, 46, 55] = 1 := by decide
  have e2 : rdA [110, 48, 51, 46, 55] = 3 := by decide
  have e3 : rdB [110, 48, 51, 46, 55] = 7 := by decide
  have e4 : hMk 1 3 7 = 1099514773511 := by decide
  unfold hRead
  rw [if_neg (by decide), if_neg (by decide), if_neg (by decide), e1, e2, e3, e4, if_neg (fun h => by have := h.2; rw [hText_w] at this; revert this; decide)]
theorem pack_w : packR [1099514773511] = (⟨#[1, 0, 0, 48, 0, 7]⟩, 0) := by
  unfold packR
  rw [if_pos (by intro h hh; simp at hh; subst hh; exact .inr (by decide))]
  rfl

theorem errOf_0 : errOf 0 = .nilIface := rfl
theorem errOf_4 : errOf 4 = errN 4 := rfl
theorem works_ok (W : World) (E : Env W) : Calls Tryd.prog 12 #[] W fun e w' => e = .returned (.bool true) ∧ Below W.heap.size W w' := by
  have EE := Lib.hid E; clear E
  have M := Lib.hid (fun W => make_ok 1 3 7 W (by decide))
  have NX := Lib.hid (fun W => next_ok (h := 1099514773511) W (by decide) (by decide))
  have R1 := Lib.hid (fun W E => by have := read_any ⟨#[116, 48, 46, 49]⟩ W E; rw [show (⟨#[116, 48, 46, 49]⟩ : ByteArray).data.toList = [116, 48, 46, 49] from rfl, hRead_t] at this; simp only [errOf_0] at this; exact this)
  have R2 := Lib.hid (fun W E => by have := read_any ⟨#[110, 48, 51, 46, 55]⟩ W E; rw [show (⟨#[110, 48, 51, 46, 55]⟩ : ByteArray).data.toList = [110, 48, 51, 46, 55] from rfl, hRead_n] at this; simp only [errOf_4] at this; exact this)
  have PK := Lib.hid (fun v W hv => by have := pack_s [1099514773511] v W hv (by decide); rw [pack_w] at this; simp only [errOf_0] at this; exact this)
  have G := Lib.hid (fun W => by have := gen_t (h := 1099514773512) W (by decide); rw [show hG 1099514773512 = 8 by decide] at this; exact this)
  have T := Lib.hid (fun W E => by have := text_any (h := 1099514773511) W E; rw [hText_w] at this; exact this)
  have K := Lib.hid (fun W => by have := kind_t (h := 2199023255553) W (by decide); rw [show hK 2199023255553 = 2 by decide] at this; exact this)
  have N4 := Lib.hid (fun W => num_err 4 W)
  go_enter Tryd.func12, Tryd.ntmps12
  go_wp2_with (first | (go_at_call 9; refine (M.out _).mono ?_; rintro e w' ⟨rfl, rfl⟩) | (go_at_call 17; refine (NX.out _).mono ?_; rintro e w' ⟨rfl, rfl⟩) | (go_at_call 13; refine (R1.out _ EE.out).mono ?_; rintro e w1 ⟨rfl, hb1⟩))
  have E1 := EE.out.below hb1
  refine (PK.out _ _ (RI_new _ _ _ _)).mono ?_
  rintro e w2 ⟨rfl, hb2⟩
  have hb12 : Below W.heap.size W w2 := hb1.trans (((Below.refl _ w1).alloc (Nat.le_refl _) _).trans (hb2.mono (by simp)) |>.mono hb1.size)
  have E2 := EE.out.below hb12
  clear hb2
  go_wp2_with fail
  refine (R2.out _ E2).mono ?_
  rintro e w3 ⟨rfl, hb3⟩
  have hb13 := below_then hb12 hb3
  have E3 := E2.below hb3
  go_wp2_with (first | (go_at_call 25; refine (G.out _).mono ?_; rintro e w' ⟨rfl, rfl⟩) | (go_at_call 15; refine (T.out _ E3).mono ?_; rintro e w4 ⟨rfl, hb4⟩) | (go_at_call 21; refine (K.out _).mono ?_; rintro e w' ⟨rfl, rfl⟩) | (go_at_call 11; refine (N4.out _).mono ?_; rintro e w' ⟨rfl, rfl⟩))
  go_ret
  exact ⟨rfl, below_then hb13 hb4⟩
end Go.Proofs.YtpnjedcijbpngaaDoor
