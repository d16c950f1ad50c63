/- kernel: kids, at every table of nodes. -/
import Derived.Test.YtmfmmopnapchjaaDoorVf
import Derived.Test.YtmfmmopnapchjaaDoorUk
import Derived.Test.YtmfmmopnapchjaaDoorUe
namespace Go.Proofs.YtmfmmopnapchjaaDoor
open Go Go.RowKit Go.ChangeShapes Go.WideShapes
set_option linter.unusedVariables false
set_option linter.unusedSimpArgs false
set_option maxRecDepth 100000
set_option maxHeartbeats 800000

theorem fnd_hnd {N k i : Nat} {g : Nat → Nat} {tk : Nat → Bool} (hk : 1 ≤ k ∧ k ≤ 3) (hN : N ≤ 4096) (hi : i < N) (ht : tk i = true) (hg : 1 ≤ g i ∧ g i ≤ 1023) : fnd N k g tk (hnd k i (g i)) = some i := by
  obtain ⟨v, e1, e2, e3⟩ := HV_make (k := (k : Int)) (s := (i : Int)) (g := (g i : Int)) ⟨by omega, by omega, by omega, by omega, by omega, by omega⟩
  unfold fnd hnd
  rw [if_pos ⟨v, e1, by rw [e2]; omega, by rw [e2]; simpa using ht, by rw [e2, e3]; simp⟩, e2]
  simp
theorem hnd_range {k i g : Nat} (hk : k ≤ 3) (hi : i < 4096) (hg : g ≤ 1024) : -9223372036854775808 ≤ hnd k i g ∧ hnd k i g ≤ 9223372036854775807 := by
  unfold hnd; omega
theorem hnd_inj {k i j g h : Nat} (hi : i < 1048576) (hj : j < 1048576) (hg : g < 1048576) (hh : h < 1048576) (e : hnd k i g = hnd k j h) : i = j ∧ g = h := by
  unfold hnd at e; omega
/-- The slots that are taken. -/
def slotsL (N : Nat) (tk : Nat → Bool) : List Nat := (List.range N).filter tk
theorem hnds_eq (k : Nat) (g : Nat → Nat) (tk : Nat → Bool) (N : Nat) : hnds k g tk N = (slotsL N tk).map fun i => .int .i64 (hnd k i (g i)) := rfl
theorem slotsL_mem {N : Nat} {tk : Nat → Bool} {i : Nat} : i ∈ slotsL N tk ↔ i < N ∧ tk i = true := by simp [slotsL]
/-- The children of a handle. -/
def kidsOf (g : Nat → Nat) (nd : Nat → NdV) (h : Int) (l : List Nat) : List Value := (l.filter fun i => decide ((nd i).parent = h)).map fun i => .int .i64 (hnd 1 i (g i))
theorem kidsOf_snoc (g : Nat → Nat) (nd : Nat → NdV) (h : Int) (l : List Nat) (i : Nat) : kidsOf g nd h (l ++ [i]) = if (nd i).parent = h then kidsOf g nd h l ++ [.int .i64 (hnd 1 i (g i))] else kidsOf g nd h l := by
  unfold kidsOf
  rw [List.filter_append, List.map_append]
  by_cases e : (nd i).parent = h <;> simp [e]
theorem kidsOf_length (g : Nat → Nat) (nd : Nat → NdV) (h : Int) (l : List Nat) : (kidsOf g nd h l).length ≤ l.length := by
  unfold kidsOf; rw [List.length_map]; exact List.length_filter_le _ _
theorem slotsL_length (N : Nat) (tk : Nat → Bool) : (slotsL N tk).length ≤ N := by
  have := List.length_filter_le tk (List.range N)
  rw [List.length_range] at this; exact this
theorem take_succ' {α : Type} (l : List α) (j : Nat) (h : j < l.length) : l.take (j + 1) = l.take j ++ [l[j]] := by
  rw [List.take_add_one, List.getElem?_eq_getElem h]; rfl

theorem kids_c (w : World) (k t r bk pl : Nat) (root now idle h : Int) (g : Nat → Nat) (tk : Nat → Bool) (p : Nat → Nat) (nd : Nat → NdV) (hkb : w.heap[k]? = some (kerObj t bk pl root now idle)) (H : NodesAt w t r g tk p nd) (hg : ∀ i, i < 64 → tk i = true → 1 ≤ g i ∧ g i ≤ 1023) :
    Calls Tryd.prog 66 #[.pointer (some ⟨k, 0, none⟩), .int .i64 h] w fun e w' => ∃ v, e = .returned v ∧ w'.ownsRow w.heap.size 34 1 v (kidsOf g nd h (slotsL 64 tk)).length (kidsOf g nd h (slotsL 64 tk)) ∧ Below w.heap.size w w' := by
  obtain ⟨i0, hi0, hz0, hz1, hz2⟩ := info_of Tryd.infoHandle
  have AN := Lib.hid (allN_c w t r 64 1 g tk _ H.tab (by decide) (by decide) hg (fun i hi => ⟨_, rfl⟩))
  have KC := kb_cell hkb 0
  simp at KC
  have HH := Lib.hid H
  have HK := Lib.hid hkb
  clear H hkb
  go_enter Tryd.func66, Tryd.ntmps66
  go_wp2_with fail
  refine AN.out.mono ?_
  rintro e w1 ⟨v0, rfl, own0, b1⟩
  obtain ⟨R0, L0⟩ := RG_own own0
  rw [hnds_eq, List.length_map] at L0
  obtain ⟨p0, c0, rfl, hp0⟩ := R0.out
  have RR := Lib.hid R0
  rw [hnds_eq] at hp0 RR
  rw [hnds_eq, List.length_map]
  have HP := Lib.hid hp0
  have HB1 := Lib.hid b1
  have HH1 := Lib.hid (HH.out.below b1)
  have HK1 := Lib.hid (kb_below HK.out b1)
  have hLl := slotsL_length 64 tk
  clear own0 b1 R0 L0 hp0 KC
  go_wp2_with fail
  go_loopw [5, 16] (fun v i wr => ∃ j : Nat, j ≤ (slotsL 64 tk).length ∧ i = .int .i64 j ∧ wr.ownsRow w1.heap.size 34 1 v (kidsOf g nd h ((slotsL 64 tk).take j)).length (kidsOf g nd h ((slotsL 64 tk).take j)) ∧ Below w1.heap.size w1 wr) (fun _ i _ => (slotsL 64 tk).length - (intOf i).toNat)
  case atStart => exact ⟨0, Nat.zero_le _, rfl, World.ownsRow_nil _ _ _ _, Below.refl _ _⟩
  case round =>
    obtain ⟨j, hj, rfl, hown, hbe⟩ := hrel
    by_cases hlt : j < (slotsL 64 tk).length
    · obtain ⟨i, hi⟩ : ∃ i, i = (slotsL 64 tk)[j] := ⟨_, rfl⟩
      have hm : i ∈ slotsL 64 tk := by rw [hi]; exact List.getElem_mem hlt
      obtain ⟨hi64, hti⟩ := slotsL_mem.1 hm
      obtain ⟨b0, o0, rfl, hc0, hb0, hcell⟩ := HP.out (by simpa using (by omega : 0 < (slotsL 64 tk).length))
      have e0 : wr.cell? ⟨b0, o0 + j, none⟩ = some (.int .i64 (hnd 1 i (g i))) := by
        have := hcell j (by simpa using hlt)
        rw [hbe.cell (p := ⟨b0, o0 + j, none⟩) hb0, this]
        simp [List.getD, hlt, hi]
      have HR := HH1.out.below hbe
      have GN := Lib.hid (fun w' (H' : NodesAt w' t r g tk p nd) => getN_some w' t r 64 1 i g tk _ (some ⟨p i, 0, none⟩) _ H'.tab (by decide) (fnd_hnd (by decide) (by decide) hi64 hti (hg i hi64 hti)) (by simp [hti]))
      have KK := kb_cell (kb_below HK1.out hbe) 0
      have ND := kb_cell (HR.nd i hi64 hti) 0
      simp at KK ND
      have HRR := Lib.hid HR
      have KO := Lib.hid hown
      have KB := Lib.hid hbe
      have ET := Lib.hid (show kidsOf g nd h ((slotsL 64 tk).take (j + 1)) = (if (nd i).parent = h then kidsOf g nd h ((slotsL 64 tk).take j) ++ [.int .i64 (hnd 1 i (g i))] else kidsOf g nd h ((slotsL 64 tk).take j)) from by rw [take_succ' _ j hlt, ← hi]; exact kidsOf_snoc _ _ _ _ _)
      clear HR hown hbe hcell hm hi
      go_wp2_with fail
      refine (GN.out _ HRR.out).mono ?_
      rintro e w2 ⟨rfl, q2⟩
      have ND2 := kb_cell (kb_below (HRR.out.nd i hi64 hti) q2.below) 0
      simp at ND2
      have own2 := own_qt2 KO.out q2
      have b2 := KB.out.trans (q2.below.mono KB.out.size)
      have KO2 := Lib.hid own2
      have KB2 := Lib.hid b2
      clear own2 b2 q2
      by_cases hpar : (nd i).parent = h
      · rw [if_pos hpar] at ET
        have hlen := kidsOf_length g nd h ((slotsL 64 tk).take j)
        have hlen2 := List.length_take_le j (slotsL 64 tk)
        subst hpar
        go_wp2_with ((at_builtin; refine appendN rfl _ _ 26 rfl w1.heap.size 34 i0 _ 1 8 Tryd.underlying26 hi0 hz0 hz1 hz2 rfl (by decide) _ _ _ rfl KO2.out _ [.int .i64 (hnd 1 i (g i))] _ rfl rfl rfl (by simp [Value.oneCell']) (by unfold maxLen; omega) (by omega) KB2.out.size KB2.out ?_; intro v' w3 own3 b3))
        go_roundw
        case rel => exact ⟨j + 1, by omega, by go_num, by rw [ET.out, List.length_append]; exact own3, b3⟩
        case measure => simp [intOf]; omega
      · rw [if_neg hpar] at ET
        go_wp2_with fail
        go_roundw
        case rel => exact ⟨j + 1, by omega, by go_num, by rw [ET.out]; exact KO2.out, KB2.out⟩
        case measure => simp [intOf]; omega
    · obtain rfl : j = (slotsL 64 tk).length := by omega
      go_wp2_with fail
      go_ret
      rw [List.take_length] at hown
      exact ⟨_, rfl, own_mono1 hown HB1.out.size, HB1.out.trans (hbe.mono HB1.out.size)⟩
end Go.Proofs.YtmfmmopnapchjaaDoor
