/- The reference's text of handles; the walk of SnapHandles. -/
import Derived.Test.YtmfmmopnapchjaaDoorYk
import Derived.Test.YtmfmmopnapchjaaDoorYi
namespace Go.Proofs.YtmfmmopnapchjaaDoor
open Go Go.RowKit Go.Shelf Go.Sort
set_option linter.unusedVariables false
set_option linter.unusedSimpArgs false
set_option maxRecDepth 100000
set_option maxHeartbeats 1600000

theorem bc_app (a b : List UInt8) : Lib.byteCells (a ++ b) = Lib.byteCells a ++ Lib.byteCells b := Lib.byteCells_append a b
/-- A row of bytes, as a string. -/
theorem conv_own {w : World} {B : Nat} {v : Value} {l : List UInt8} (h : w.ownsRow B 5 1 v l.length (Lib.byteCells l)) :
    (convert 37 9 v).run Tryd.prog w = .ok (str l) w := by
  by_cases h0 : l = []
  · subst h0
    rcases h.2 with ⟨rfl, _⟩ | ⟨g, cap, cur, rfl, _⟩
    · exact run_convert_bytes_nil w _ 5 Tryd.underlying37 Tryd.underlying5 0 0 _ Tryd.underlying9
    · exact conv_cells [] g 0 cap (fun i hi => absurd hi (Nat.not_lt_zero i))
  · obtain ⟨p, c, rfl, hc⟩ := own_cell h
    have hpos : 0 < l.length := List.length_pos_iff.2 h0
    obtain ⟨b, rfl, _⟩ := hc 0 (.int .u8 ((l.getD 0 0).toNat : Int)) (by simp [Lib.byteCells, List.getD, hpos])
    refine conv_cells l b 0 c fun i hi => ?_
    obtain ⟨b', e, hcell⟩ := hc i (.int .u8 ((l.getD i 0).toNat : Int)) (by simp [Lib.byteCells, List.getD, hi])
    injection e with e
    injection e with e _ _
    subst e
    rw [Nat.zero_add]
    exact hcell
theorem rhandles_c (l : List Int) (v : Value) (W : World) (hv : RI W v l) (hr : ∀ x ∈ l, I64 x) (hl : l.length ≤ 1048576) :
    Calls Tryd.prog 9 #[v] W fun e w' => e = .returned (str (hsT l)) ∧ Below W.heap.size W w' := by
  obtain ⟨i0, hi0, hz0, hz1, hz2⟩ := info_of Tryd.infoByteJ
  obtain ⟨p, c, rfl, hcell⟩ := RI_cells hv
  have HC := Lib.hid hcell
  have TX := Lib.hid (fun w' (h : Int) => rtext_any (h := h) w')
  clear hv hcell
  go_enter Tryd.func9, Tryd.ntmps9
  go_wp2_with fail
  go_loopw [3, 4] (fun u i wr => ∃ j : Nat, j ≤ l.length ∧ i = .int .i64 j ∧ wr.ownsRow W.heap.size 5 1 u (hsT (l.take j)).length (Lib.byteCells (hsT (l.take j))) ∧ Below W.heap.size W wr) (fun _ i _ => l.length - (intOf i).toNat)
  case atStart => exact ⟨0, Nat.zero_le _, rfl, World.ownsRow_nil _ _ _ _, Below.refl _ _⟩
  case round =>
    obtain ⟨j, hj, rfl, hown, hbe⟩ := hrel
    by_cases hlt : j < l.length
    · obtain ⟨x, hx⟩ : ∃ x, x = l[j] := ⟨_, rfl⟩
      obtain ⟨b, o, rfl, hb, hc⟩ := HC.out j hlt
      have HE1 : Hid (∀ w', Below W.heap.size W w' → w'.cell? ⟨b, o + j, none⟩ = some (.int .i64 x)) := Lib.hid (fun w' h => by rw [h.cell (p := ⟨b, o + j, none⟩) hb, hc, hx])
      have ET : Hid (hsT (l.take (j + 1)) = if l.take j = [] then hText x else hsT (l.take j) ++ [32] ++ hText x) := Lib.hid (by rw [take_succ'' l j hlt, ← hx, hsT_snoc])
      have EL := Lib.hid (hsT_len (l.take j))
      have EL2 := Lib.hid (List.length_take_le j l)
      have TL := Lib.hid (hText_len64 x)
      have KO := Lib.hid hown
      have KB := Lib.hid hbe
      have HM1 : Hid ((hsT (l.take j)).length + 1 ≤ maxLen) := Lib.hid (by have := EL.out; have := EL2.out; unfold maxLen; omega)
      have HM2 : Hid (((hsT (l.take j)).length + 1) * 1 ≤ 140737488355328) := Lib.hid (by have := EL.out; have := EL2.out; omega)
      clear hown hbe hc hx
      by_cases h0 : j = 0
      · subst h0
        rw [if_pos (by simp)] at ET
        have e1 : wr.cell? ⟨b, o, none⟩ = some (.int .i64 x) := HE1.out wr KB.out
        go_wp2_with fail
        refine (TX.out _ x).mono ?_
        rintro e w2 ⟨rfl, b2⟩
        have O2 := Lib.hid (own_below1 KO.out b2)
        have B2 := Lib.hid (KB.out.trans (b2.mono KB.out.size))
        have HM3 : Hid ((hsT (l.take 0)).length + (⟨(hText x).toArray⟩ : ByteArray).size ≤ 140737488355328) := Lib.hid (by rw [sz]; have := TL.out; simp [hsT, Lib.join_nil]; omega)
        have HM4 : Hid ((hsT (l.take 0)).length + (⟨(hText x).toArray⟩ : ByteArray).size ≤ maxLen) := Lib.hid (Nat.le_trans HM3.out (by unfold maxLen; decide))
        have SZX := Lib.hid (sz (hText x))
        clear b2 e1
        generalize hText x = tx at *
        go_wp2_with ((at_builtin; refine Lib.wpList_append_own_string _ rfl _ _ 37 9 rfl W.heap.size 5 i0 Tryd.underlying37 Tryd.underlying9 hi0 hz0 hz1 hz2 _ _ _ rfl O2.out ⟨tx.toArray⟩ rfl HM4.out HM3.out B2.out.size ?_; intro v' w3 own3 gr3 _))
        go_roundw
        case rel =>
          refine ⟨1, by omega, by go_num, ?_, grown_below B2.out B2.out.size O2.out gr3⟩
          rw [ET.out]
          rw [SZX.out] at own3
          simpa [hsT, Lib.join_nil, Lib.strCells_eq, Lib.byteCells] using own3
        case measure => simp [intOf]; omega
      · have h0' : 0 < j := by omega
        rw [if_neg (by intro e; have h1 := congrArg List.length e; rw [List.length_take, List.length_nil] at h1; omega)] at ET
        generalize hsT (l.take j) = pre at *
        go_wp2_with ((at_builtin; refine appendN rfl _ _ 37 rfl W.heap.size 5 i0 _ 1 1 Tryd.underlying37 hi0 hz0 hz1 hz2 rfl (by decide) _ _ _ rfl KO.out _ [.int .u8 32] _ rfl rfl rfl (by simp [Value.oneCell']) HM1.out HM2.out KB.out.size KB.out ?_; intro v1 w1 own1 b1; have O1 := Lib.hid own1; have B1 := Lib.hid b1; have e1 := HE1.out w1 b1; clear own1 b1))
        refine (TX.out _ x).mono ?_
        rintro e w2 ⟨rfl, b2⟩
        have O2 := Lib.hid (own_below1 O1.out b2)
        have B2 := Lib.hid (B1.out.trans (b2.mono B1.out.size))
        have HM3 : Hid (pre.length + 1 + (⟨(hText x).toArray⟩ : ByteArray).size ≤ 140737488355328) := Lib.hid (by rw [sz]; have := TL.out; have := EL.out; have := EL2.out; omega)
        have HM4 : Hid (pre.length + 1 + (⟨(hText x).toArray⟩ : ByteArray).size ≤ maxLen) := Lib.hid (Nat.le_trans HM3.out (by unfold maxLen; decide))
        have SZX := Lib.hid (sz (hText x))
        clear b2 e1
        generalize hText x = tx at *
        go_wp2_with ((at_builtin; refine Lib.wpList_append_own_string _ rfl _ _ 37 9 rfl W.heap.size 5 i0 Tryd.underlying37 Tryd.underlying9 hi0 hz0 hz1 hz2 _ _ _ rfl O2.out ⟨tx.toArray⟩ rfl HM4.out HM3.out B2.out.size ?_; intro v' w3 own3 gr3 _))
        go_roundw
        case rel =>
          refine ⟨j + 1, by omega, by go_num, ?_, grown_below B2.out B2.out.size O2.out gr3⟩
          rw [ET.out]
          rw [SZX.out] at own3
          rw [bc_app, bc_app, List.length_append, List.length_append]
          simpa [Lib.strCells_eq, Lib.byteCells] using own3
        case measure => simp [intOf]; omega
    · obtain rfl : j = l.length := by omega
      rw [List.take_length] at hown
      have KB := Lib.hid hbe
      have CV := conv_own hown
      clear hown hbe
      go_wp2_with fail
      go_ret
      exact ⟨rfl, KB.out⟩
theorem snapHandles_walk (l : List Int) (v : Value) {W : World} (hri : RI W v l) (hr : ∀ x ∈ l, -9223372036854775808 ≤ x ∧ x ≤ 9223372036854775807) (hl : l.length ≤ 1048576) (_W : World) (E : EnvZ W) :
    Calls Tryd.prog 4 #[v] W fun e w' => e = .returned (.bool true) ∧ Below W.heap.size W w' := by
  have S1 := Lib.hid (handles_c l v W hri hr hl E.env)
  have S2 := Lib.hid (fun w' (b : Below W.heap.size W w') => rhandles_c l v w' (hri.below b) hr hl)
  have SU := Lib.hid (fun w' (b : Below W.heap.size W w') => sure_c w' (E.below b))
  clear E hri
  generalize hsT l = x at *
  go_enter Tryd.func4, Tryd.ntmps4
  go_wp2_with fail
  refine S1.out.mono ?_
  rintro e w1 ⟨rfl, b1⟩
  have B1 := Lib.hid b1
  clear b1
  go_wp2_with fail
  refine (S2.out _ B1.out).mono ?_
  rintro e w2 ⟨rfl, b2⟩
  have B2 := Lib.hid (B1.out.trans (b2.mono B1.out.size))
  clear b2
  go_wp2_with fail
  refine (SU.out _ B2.out).mono ?_
  rintro e w3 ⟨rfl, b3⟩
  have B3 := Lib.hid (B2.out.trans (b3.mono B2.out.size))
  clear b3
  go_wp2_with fail
  go_ret
  exact ⟨rfl, B3.out⟩
end Go.Proofs.YtmfmmopnapchjaaDoor
