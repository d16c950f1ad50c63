/- The walk of TraceOf. -/
import Derived.Test.YtpaffemjdffoiaaOd
import Derived.Test.YtpaffemjdffoiaaTd
import Derived.Test.YtpaffemjdffoiaaOm
namespace Go.Proofs.Ytpaffemjdffoiaa
open Go Go.RowKit Go.ChangeShapes Go.WideShapes
set_option linter.unusedVariables false
set_option maxRecDepth 100000
set_option maxHeartbeats 800000

theorem traceOf_walk (l : List Mk) (v : Value) {W : World} (hv : RM W v l) (hw : ∀ m ∈ l, m.wf) (hl40 : l.length * 40 ≤ 140737488351232) (node : Int) (wn : -9223372036854775808 ≤ node ∧ node ≤ 9223372036854775807) (_W : World) :
    Calls Try.prog 4 #[v, .int .i64 node] W fun e w' => e = .returned (.bool true) ∧ Below W.heap.size W w' := by
  have hl : l.length ≤ 3518437208780 := by omega
  clear hl40 hw
  have HV := Lib.hid hv
  have C1 := Lib.hid (fun w h => of_t w v l node h (by omega))
  have C2 := Lib.hid (fun w h => rof_t w v l node h hl)
  have C3 := Lib.hid (fun w h => periods_t w v l node h hl)
  have C4 := Lib.hid (fun w h => rperiods_t w v l node h hl)
  have SU := Lib.hid sure_ok
  have hol : (ofL l node).length ≤ l.length := List.length_filter_le _ _
  have hpl : (perL l node).length ≤ l.length := by unfold perL; rw [List.length_map]; exact List.length_filter_le _ _
  clear hv
  go_enter Try.func4, Try.ntmps4
  go_wp2_with fail
  refine (C1.out W HV.out).mono ?_
  rintro e w1 ⟨v1, rfl, rm1, be1⟩
  go_wp2_with fail
  refine (C2.out w1 (HV.out.below be1)).mono ?_
  rintro e w2 ⟨v2, rfl, own2, be2⟩
  have B2 := below_then be1 be2
  go_wp2_with fail
  refine (C3.out w2 (HV.out.below B2)).mono ?_
  rintro e w3 ⟨v3, rfl, own3, be3⟩
  have B3 := below_then B2 be3
  go_wp2_with fail
  refine (C4.out w3 (HV.out.below B3)).mono ?_
  rintro e w4 ⟨v4, rfl, own4, be4⟩
  have B4 := below_then B3 be4
  have SM := Lib.hid (same_s (ofL l node) (ofL l node) v1 v2 w4 (((rm1.below be2).below be3).below be4) (((RM_own own2).1.below be3).below be4) (by omega))
  have R3 : RI w4 v3 (perL l node) := (RI_own own3).below be4
  have R4 : RI w4 v4 (perL l node) := RI_own own4
  have HB4 := Lib.hid B4
  generalize perL l node = L at *
  generalize ofL l node = ol at *
  clear rm1 own2 own3 own4 be1 be2 be3 be4 B2 B3 B4
  go_wp2_with fail
  refine SM.out.mono ?_
  rintro e w5 ⟨rfl, q5⟩
  have R3' := R3.below q5.below
  have R4' := R4.below q5.below
  have HB5 := Lib.hid (HB4.out.trans q5.below)
  clear R3 R4 q5
  have form3 : ∃ p c, v3 = .slice p L.length c ∧ ∀ k, k < L.length → ∃ b o, p = some ⟨b, o, none⟩ ∧ b < w5.heap.size ∧ w5.cell? ⟨b, o + k, none⟩ = some (.int .i64 (L.getD k 0)) := by
    rcases R3' with ⟨rfl, p, c, rfl, _⟩ | ⟨b, o, c, rfl, hb, hc⟩
    · exact ⟨p, c, rfl, fun k hk => by simp at hk⟩
    · exact ⟨_, c, rfl, fun k hk => ⟨b, o, rfl, hb, hc k hk⟩⟩
  have form4 : ∃ p c, v4 = .slice p L.length c ∧ ∀ k, k < L.length → ∃ b o, p = some ⟨b, o, none⟩ ∧ b < w5.heap.size ∧ w5.cell? ⟨b, o + k, none⟩ = some (.int .i64 (L.getD k 0)) := by
    rcases R4' with ⟨rfl, p, c, rfl, _⟩ | ⟨b, o, c, rfl, hb, hc⟩
    · exact ⟨p, c, rfl, fun k hk => by simp at hk⟩
    · exact ⟨_, c, rfl, fun k hk => ⟨b, o, rfl, hb, hc k hk⟩⟩
  obtain ⟨p3, c3, rfl, f3⟩ := form3
  obtain ⟨p4, c4, rfl, f4⟩ := form4
  clear R3' R4'
  have hd : decide (ol = ol) = true := by simp
  go_wp2_with fail
  go_loopw [9] (fun i wr => ∃ k : Nat, k ≤ L.length ∧ i = .int .i64 k ∧ Qt w5 wr) (fun i _ => L.length - (intOf i).toNat)
  case atStart => exact ⟨0, Nat.zero_le _, by go_num, Qt.refl _⟩
  case round =>
    obtain ⟨k, hk, rfl, nq, rfl⟩ := hrel
    have hkb : (k : Int) ≤ 3518437208780 := by omega
    by_cases hlt : k < L.length
    · obtain ⟨b, o, rfl, _, g3⟩ := f3 k hlt
      obtain ⟨b', o', rfl, _, g4⟩ := f4 k hlt
      have hkn : (k : Int) < (L.length : Int) := by omega
      have hne : (L.getD k 0 != L.getD k 0) = false := by simp
      go_wp2_with fail
      go_quiet (fail)
      go_wp2_with fail
      go_roundw
      case rel => exact ⟨k + 1, by omega, by go_num, ⟨_, rfl⟩⟩
      case measure => simp [intOf]; omega
    · obtain rfl : k = L.length := by omega
      go_wp2_with fail
      refine (SU.out _).mono ?_
      rintro e w' ⟨rfl, hb⟩
      go_wp2_with fail
      go_ret
      exact ⟨rfl, below_then HB5.out (show Below w5.heap.size w5 w' from (Qt.below ⟨nq, rfl⟩ : Below w5.heap.size w5 (w5.drewN nq)).trans hb)⟩
end Go.Proofs.Ytpaffemjdffoiaa
