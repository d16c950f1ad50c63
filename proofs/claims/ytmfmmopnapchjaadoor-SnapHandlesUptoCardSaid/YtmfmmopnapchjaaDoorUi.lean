/- Tables of nodes: Add. -/
import Derived.Test.YtmfmmopnapchjaaDoorUc
import Derived.Test.YtmfmmopnapchjaaDoorUab
namespace Go.Proofs.YtmfmmopnapchjaaDoor
open Go Go.RowKit Go.ChangeShapes Go.WideShapes
set_option linter.unusedVariables false
set_option linter.unusedSimpArgs false
set_option maxRecDepth 100000
set_option maxHeartbeats 800000

theorem addN_c (w : World) (b r N k i : Nat) (g : Nat → Nat) (tk : Nat → Bool) (t : Nat → Value) (x : Option Addr) (H : TabAt w b r 95 97 3 N k (slotN g tk t)) (hk : 1 ≤ k ∧ k ≤ 3) (hN : N ≤ 4096) (hi : i < N) (hti : tk i = false) (hg : 1 ≤ g i ∧ g i ≤ 1023) (hbs : ∀ j, j < i → tk j = true ∨ 1024 ≤ g j) :
    Calls Tryd.prog 17 #[.pointer (some ⟨b, 0, none⟩), .pointer x] w fun e w' => e = .returned (.tuple #[.int .i64 (hnd k i (g i)), .nilIface]) ∧ TabAt w' b r 95 97 3 N k (slotN g (upd tk i true) (upd t i (.pointer x))) ∧ Ch (fun y => y = r) w w' := by
  have HH := Lib.hid H
  have hne : b ≠ r := H.ne (by decide)
  have T0 := kb_cell H.tb 0
  have T1 := kb_cell H.tb 1
  have fr := H.row.fr
  simp at T0 T1
  have NM := Lib.hid (fun w' H' => nameN_c w' b r N k i g (upd tk i true) (upd t i (.pointer x)) H' hk hN hi hg)
  clear H
  go_enter Tryd.func17, Tryd.ntmps17
  go_wp2_with fail
  go_loopw [16] (fun v wr => ∃ m : Nat, m ≤ i ∧ v = .int .i64 m ∧ wr = w) (fun v _ => i - (intOf v).toNat)
  case atStart => exact ⟨0, Nat.zero_le _, rfl, rfl⟩
  case round =>
    obtain ⟨m, hm, rfl, rfl⟩ := hrel
    have hmN : m < N := by omega
    have c0 := HH.out.row.cell m 0 hmN (by decide)
    have c1 := HH.out.row.cell m 1 hmN (by decide)
    simp [slotN] at c0 c1
    by_cases hlt : m < i
    · have hbm := hbs m hlt
      cases ht : tk m with
      | true =>
        rw [ht] at c1
        go_wp2_with fail
        go_roundw
        case rel => exact ⟨m + 1, by omega, by go_num, trivial⟩
        case measure => simp [intOf]; omega
      | false =>
        rw [ht] at c1 hbm
        have hgm : ¬ ((g m : Int) ≤ 1023) := by
          rcases hbm with h | h
          · cases h
          · omega
        clear hbm
        generalize g m = gm at *
        go_wp2_with fail
        go_roundw
        case rel => exact ⟨m + 1, by omega, by go_num, trivial⟩
        case measure => simp [intOf]; omega
    · obtain rfl : m = i := by omega
      rw [hti] at c1
      have x2 := HH.out.row.cell m 2 hi (by decide)
      simp [slotN] at x2
      go_wp2_with fail
      have C : Ch (fun y => y = r) wr ((wr.setCell ⟨r, m * 3 + 1, none⟩ (.bool true)).setCell ⟨r, m * 3 + 2, none⟩ (.pointer x)) := ((Ch.refl (fun y => y = r) wr).set ⟨r, m * 3 + 1, none⟩ (.inl rfl) _).set ⟨r, m * 3 + 2, none⟩ (.inl rfl) _
      have R := (HH.out.row.set m 1 hi (by decide) (.bool true)).set m 2 hi (by decide) (.pointer x)
      have H2 : TabAt ((wr.setCell ⟨r, m * 3 + 1, none⟩ (.bool true)).setCell ⟨r, m * 3 + 2, none⟩ (.pointer x)) b r 95 97 3 N k (slotN g (upd tk m true) (upd t m (.pointer x))) := by
        refine ⟨(kb_other hne _ _).trans ((kb_other hne _ _).trans HH.out.tb), R.congr fun j hj => ?_⟩
        by_cases e : j = m
        · subst e; simp [upd_same, slotN]
        · simp [upd_other _ _ e, slotN]
      clear R
      generalize (wr.setCell ⟨r, m * 3 + 1, none⟩ (.bool true)).setCell ⟨r, m * 3 + 2, none⟩ (.pointer x) = w2 at *
      refine (NM.out _ H2).mono ?_
      rintro e w3 ⟨rfl, q3⟩
      have Q3 := Lib.hid q3
      have KH := Lib.hid H2
      have KC := Lib.hid C
      clear q3 H2 C
      go_wp2_with fail
      go_ret2
      exact ⟨rfl, KH.out.qt Q3.out, KC.out.qt Q3.out⟩
end Go.Proofs.YtmfmmopnapchjaaDoor
