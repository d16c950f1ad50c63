/- Read of the reference of layer 2. -/
import Derived.Test.YtohodbpjcbjifaaGreatDoorHn
import Derived.Test.YtohodbpjcbjifaaGreatDoorHd
namespace Go.Proofs.YtohodbpjcbjifaaGreatDoor
open Go Go.RowKit Go.Shelf Go.Sort
set_option maxHeartbeats 800000
set_option maxRecDepth 100000
set_option linter.unusedVariables false

def kf (c : Int) (j : Nat) : Int := if c = 110 ∧ 1 ≤ j then 1 else if c = 116 ∧ 2 ≤ j then 2 else if c = 115 ∧ 3 ≤ j then 3 else 0

/-- What the reference's Read makes of a text behind its first tests. -/
def rGen (l : List UInt8) : Int × Int :=
  if kf (l.getD 0 0).toNat 3 ≠ 0 ∧ (numR l 1).2.2 = true ∧ (numR l 1).2.1 < l.length ∧ (l.getD (numR l 1).2.1.toNat 0).toNat = 46 ∧
    (numR l ((numR l 1).2.1.toNat + 1)).2.2 = true ∧ (numR l ((numR l 1).2.1.toNat + 1)).2.1 = l.length ∧ HOk (kf (l.getD 0 0).toNat 3) (numR l 1).1 (numR l ((numR l 1).2.1.toNat + 1)).1
  then (hMk (kf (l.getD 0 0).toNat 3) (numR l 1).1 (numR l ((numR l 1).2.1.toNat + 1)).1, 0) else (0, 4)
def rRead (l : List UInt8) : Int × Int := if 32 < l.length then (0, 3) else if l = [45] then (0, 0) else if l = [] then (0, 4) else rGen l

theorem numR_form (l : List UInt8) (p : Nat) (hp : p ≤ l.length) : ∃ (a : Int) (q : Nat) (ok : Bool), numR l p = (a, (q : Int), ok) ∧ p ≤ q ∧ q ≤ l.length := by
  refine ⟨(numR l p).1, p + (numD l p).length, (numR l p).2.2, ?_, by omega, ?_⟩
  · unfold numR
    simp
  · have h1 : (numD l p).length ≤ ((l.drop p).take 6).length := (List.takeWhile_sublist _).length_le
    simp at h1
    omega

theorem rread_gen (s : ByteArray) (W : World) (hs : s.size ≤ 32) (h0 : 0 < s.size) (hd : (s.toList == [45]) = false) (he : s.toList.isEmpty = false) :
    Calls Tryz.prog 30 #[.string s] W fun e w' => e = .returned (.tuple #[.int .i64 (rGen s.data.toList).1, .int .i64 (rGen s.data.toList).2]) ∧ Below W.heap.size W w' := by
  have e0 : (s.data.toList.getD 0 0) = s[0] := (byte_at s 0 h0).symm
  have E0 := Lib.hid e0; clear e0
  have L := size_list s
  go_enter Tryz.func30, Tryz.ntmps30
  go_wp2_with fail
  go_loopw [4, 5] (fun k i wr => ∃ j : Nat, (j = 0 ∨ j = 1 ∨ j = 2 ∨ j = 3) ∧ i = .int .i64 j ∧ k = .int .i64 (kf s[0].toNat j) ∧ Below W.heap.size W wr) (fun _ i _ => 3 - (intOf i).toNat)
  case atStart => exact ⟨0, .inl rfl, rfl, by simp [kf], Below.refl _ _⟩
  case round =>
    obtain ⟨j, hj, rfl, rfl, hb⟩ := hrel
    rcases hj with rfl | rfl | rfl | rfl
    · by_cases hc : (s[0].toNat : Int) = 110
      · have B : (((⟨#[110, 116, 115]⟩ : ByteArray)[0].toNat : Int) == (s[0].toNat : Int)) = true := by rw [hc]; rfl
        have K : Hid (kf s[0].toNat 1 = 1) := by unfold kf; rw [hc]; rfl
        clear hc
        go_wp2_with fail
        go_quiet (fail)
        go_wp2_with fail
        go_roundw
        case rel => exact ⟨1, .inr (.inl rfl), by go_num, by rw [K.out], hb.trans (below_drewN (Below.refl _ _) _)⟩
        case measure => simp [intOf]
      · have B : (((⟨#[110, 116, 115]⟩ : ByteArray)[0].toNat : Int) == (s[0].toNat : Int)) = false := by
          rw [show (((⟨#[110, 116, 115]⟩ : ByteArray)[0].toNat : Int)) = 110 from rfl]; simp; omega
        have K : Hid (kf s[0].toNat 1 = kf s[0].toNat 0) := by show _ = _; unfold kf; simp [hc]
        clear hc
        go_wp2_with fail
        go_quiet (fail)
        go_wp2_with fail
        go_roundw
        case rel => exact ⟨1, .inr (.inl rfl), by go_num, by rw [K.out], hb.trans (below_drewN (Below.refl _ _) _)⟩
        case measure => simp [intOf]
    · by_cases hc : (s[0].toNat : Int) = 116
      · have B : (((⟨#[110, 116, 115]⟩ : ByteArray)[1].toNat : Int) == (s[0].toNat : Int)) = true := by rw [hc]; rfl
        have K : Hid (kf s[0].toNat 2 = 2) := by unfold kf; rw [hc]; rfl
        clear hc
        go_wp2_with fail
        go_quiet (fail)
        go_wp2_with fail
        go_roundw
        case rel => exact ⟨2, .inr (.inr (.inl rfl)), by go_num, by rw [K.out], hb.trans (below_drewN (Below.refl _ _) _)⟩
        case measure => simp [intOf]
      · have B : (((⟨#[110, 116, 115]⟩ : ByteArray)[1].toNat : Int) == (s[0].toNat : Int)) = false := by
          rw [show (((⟨#[110, 116, 115]⟩ : ByteArray)[1].toNat : Int)) = 116 from rfl]; simp; omega
        have K : Hid (kf s[0].toNat 2 = kf s[0].toNat 1) := by show _ = _; unfold kf; simp [hc]
        clear hc
        go_wp2_with fail
        go_quiet (fail)
        go_wp2_with fail
        go_roundw
        case rel => exact ⟨2, .inr (.inr (.inl rfl)), by go_num, by rw [K.out], hb.trans (below_drewN (Below.refl _ _) _)⟩
        case measure => simp [intOf]
    · by_cases hc : (s[0].toNat : Int) = 115
      · have B : (((⟨#[110, 116, 115]⟩ : ByteArray)[2].toNat : Int) == (s[0].toNat : Int)) = true := by rw [hc]; rfl
        have K : Hid (kf s[0].toNat 3 = 3) := by unfold kf; rw [hc]; rfl
        clear hc
        go_wp2_with fail
        go_quiet (fail)
        go_wp2_with fail
        go_roundw
        case rel => exact ⟨3, .inr (.inr (.inr rfl)), by go_num, by rw [K.out], hb.trans (below_drewN (Below.refl _ _) _)⟩
        case measure => simp [intOf]
      · have B : (((⟨#[110, 116, 115]⟩ : ByteArray)[2].toNat : Int) == (s[0].toNat : Int)) = false := by
          rw [show (((⟨#[110, 116, 115]⟩ : ByteArray)[2].toNat : Int)) = 115 from rfl]; simp; omega
        have K : Hid (kf s[0].toNat 3 = kf s[0].toNat 2) := by show _ = _; unfold kf; simp [hc]
        clear hc
        go_wp2_with fail
        go_quiet (fail)
        go_wp2_with fail
        go_roundw
        case rel => exact ⟨3, .inr (.inr (.inr rfl)), by go_num, by rw [K.out], hb.trans (below_drewN (Below.refl _ _) _)⟩
        case measure => simp [intOf]
    · obtain ⟨a, q, ok, hr, hq1, hq2⟩ := numR_form s.data.toList 1 (by omega)
      have N1 := fun W => number_any s 1 (by omega) hs W
      rw [hr] at N1
      have M1 := Lib.hid N1; clear N1
      have RG : rGen s.data.toList = if kf s[0].toNat 3 ≠ 0 ∧ ok = true ∧ (q : Int) < s.data.toList.length ∧ (s.data.toList.getD q 0).toNat = 46 ∧ (numR s.data.toList (q + 1)).2.2 = true ∧ (numR s.data.toList (q + 1)).2.1 = s.data.toList.length ∧ HOk (kf s[0].toNat 3) a (numR s.data.toList (q + 1)).1
          then (hMk (kf s[0].toNat 3) a (numR s.data.toList (q + 1)).1, 0) else (0, 4) := by
        unfold rGen
        rw [hr, E0.out]
        simp only [Int.toNat_natCast]
      generalize hk : kf s[0].toNat 3 = k at *
      clear hk hr
      by_cases g1 : k = 0
      · have RR := Lib.hid (RG.trans (if_neg (fun h => h.1 g1)))
        have G : (k == 0) = true := by simp [g1]
        clear RG g1
        go_wp2_with (go_at_call 56; refine (M1.out _).mono ?_; rintro e w' ⟨rfl, rfl⟩)
        go_ret2
        exact ⟨by rw [RR.out]; rfl, hb⟩
      have G : (k == 0) = false := by simp [g1]
      cases ok with
      | false =>
        have RR := Lib.hid (RG.trans (if_neg (fun h => by cases h.2.1)))
        clear RG g1
        go_wp2_with (go_at_call 56; refine (M1.out _).mono ?_; rintro e w' ⟨rfl, rfl⟩)
        go_ret2
        exact ⟨by rw [RR.out]; rfl, hb⟩
      | true =>
      by_cases g3 : q < s.size
      case neg =>
        have RR := Lib.hid (RG.trans (if_neg (fun h => by have := h.2.2.1; omega)))
        clear RG g1
        go_wp2_with (go_at_call 56; refine (M1.out _).mono ?_; rintro e w' ⟨rfl, rfl⟩)
        go_ret2
        exact ⟨by rw [RR.out]; rfl, hb⟩
      have eq : s[q] = s.data.toList.getD q 0 := byte_at s q g3
      by_cases g4 : (s[q].toNat : Int) = 46
      case neg =>
        have RR := Lib.hid (RG.trans (if_neg (fun h => by have := h.2.2.2.1; rw [← eq] at this; omega)))
        have G4 : ((s[q].toNat : Int) != 46) = true := by simp; omega
        have g3' : ¬ s.size ≤ q := by omega
        clear RG g1 eq
        go_wp2_with (go_at_call 56; refine (M1.out _).mono ?_; rintro e w' ⟨rfl, rfl⟩)
        go_ret2
        exact ⟨by rw [RR.out]; rfl, hb⟩
      have G4 : ((s[q].toNat : Int) != 46) = false := by simp; omega
      have g3' : ¬ s.size ≤ q := by omega
      obtain ⟨b, r, ok2, hr2, hr21, hr22⟩ := numR_form s.data.toList (q + 1) (by omega)
      have N2 := fun W => number_any s (q + 1) (by omega) hs W
      rw [hr2] at N2 RG
      have M2 := Lib.hid N2; clear N2 hr2
      have ec : (((q + 1 : Nat) : Int)) = (q : Int) + 1 := by omega
      have M3 : Hid (∀ W, Calls Tryz.prog 56 #[.string s, .int .i64 ((q : Int) + 1)] W fun e w' => e = .returned (.tuple #[.int .i64 b, .int .i64 (r : Int), .bool ok2]) ∧ W = w') := by
        intro W; have := M2.out W; rw [ec] at this; exact this
      clear ec M2
      rw [← eq] at RG
      by_cases g6 : HOk k a b
      case neg =>
        have RR := Lib.hid (RG.trans (if_neg (fun h => g6 h.2.2.2.2.2.2)))
        have MK := Lib.hid (fun W => rmake_bad k a b W g6)
        clear RG g1 eq g6
        go_wp2_with fail
        refine (M1.out _).mono ?_
        rintro e w' ⟨rfl, rfl⟩
        go_wp2_with fail
        refine (M3.out _).mono ?_
        rintro e w' ⟨rfl, rfl⟩
        go_wp2_with (go_at_call 57; refine (MK.out _).mono ?_; rintro e w' ⟨rfl, rfl⟩)
        all_goals go_ret2; exact ⟨by rw [RR.out]; rfl, hb⟩
      have MK := Lib.hid (fun W => rmake_ok k a b W g6)
      cases ok2 with
      | false =>
        have RR := Lib.hid (RG.trans (if_neg (fun h => by cases h.2.2.2.2.1)))
        clear RG g1 eq g6
        go_wp2_with fail
        refine (M1.out _).mono ?_
        rintro e w' ⟨rfl, rfl⟩
        go_wp2_with fail
        refine (M3.out _).mono ?_
        rintro e w' ⟨rfl, rfl⟩
        go_wp2_with (go_at_call 57; refine (MK.out _).mono ?_; rintro e w' ⟨rfl, rfl⟩)
        all_goals go_ret2; exact ⟨by rw [RR.out]; rfl, hb⟩
      | true =>
      by_cases g5 : r = s.size
      case neg =>
        have RR := Lib.hid (RG.trans (if_neg (fun h => by have h' : (r : Int) = (s.data.toList.length : Int) := h.2.2.2.2.2.1; omega)))
        have g5' : r < s.size := by omega
        clear RG g1 eq g6 g5
        go_wp2_with fail
        refine (M1.out _).mono ?_
        rintro e w' ⟨rfl, rfl⟩
        go_wp2_with fail
        refine (M3.out _).mono ?_
        rintro e w' ⟨rfl, rfl⟩
        go_wp2_with (go_at_call 57; refine (MK.out _).mono ?_; rintro e w' ⟨rfl, rfl⟩)
        all_goals go_ret2; exact ⟨by rw [RR.out]; rfl, hb⟩
      have RR := Lib.hid (RG.trans (if_pos ⟨g1, rfl, by omega, by omega, rfl, (show (r : Int) = (s.data.toList.length : Int) by omega), g6⟩))
      subst g5
      clear RG g1 eq g6
      go_wp2_with fail
      refine (M1.out _).mono ?_
      rintro e w' ⟨rfl, rfl⟩
      go_wp2_with fail
      refine (M3.out _).mono ?_
      rintro e w' ⟨rfl, rfl⟩
      go_wp2_with (go_at_call 57; refine (MK.out _).mono ?_; rintro e w' ⟨rfl, rfl⟩)
      go_ret2
      exact ⟨by rw [RR.out]; rfl, hb⟩
end Go.Proofs.YtohodbpjcbjifaaGreatDoor
