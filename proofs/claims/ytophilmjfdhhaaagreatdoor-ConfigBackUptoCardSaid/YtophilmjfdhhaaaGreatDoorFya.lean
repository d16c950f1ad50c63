/- The reference's split of layer 25: its pieces lie in a block of their own. -/
import Derived.Test.YtophilmjfdhhaaaGreatDoorFy
namespace Go.Proofs.YtophilmjfdhhaaaGreatDoor
open Go Go.RowKit Go.Shelf Go.Sort
set_option linter.unusedVariables false
set_option linter.unusedSimpArgs false
set_option maxRecDepth 100000
set_option maxHeartbeats 1600000

theorem rsplit_own (s : ByteArray) (c : UInt8) (W : World) (h : s.size ≤ 16777216) :
    Calls Tryz.prog 26 #[.string s, .int .u8 c.toNat] W fun e w' => ∃ v, e = .returned v ∧ (RS w' v (splitC c [] s.data.toList) ∧ ∀ k, v.ownBlock = some k → W.heap.size ≤ k) ∧ Below W.heap.size W w' := by
  obtain ⟨i0, hi, hz0, hz1, hz2⟩ := info_of1F Tryz.infoStrF
  have hln : s.size = s.data.toList.length := by rw [Array.length_toList]; rfl
  have HR : Hid (CInv c s.data.toList (splitC c [] s.data.toList) 0 0 []) := Lib.hid ⟨Nat.le_refl _, .inl ⟨Nat.zero_le _, by simp [seg_self]⟩⟩
  generalize splitC c [] s.data.toList = R at *
  have HLN := Lib.hid hln
  have BA := Lib.hid (fun i (h : i < s.size) => (byte_at s i h).symm)
  clear hln
  have hss : (s.size : Int) ≤ 16777216 := by omega
  go_enter Tryz.func26, Tryz.ntmps26
  go_wp2_with fail
  go_loopw [5, 6, 7] (fun a f i wr => ∃ (i' f' : Nat) (o : List (List UInt8)), f = .int .i64 f' ∧ i = .int .i64 i' ∧ i' ≤ s.size + 1 ∧ f' ≤ i' ∧ o.length ≤ i' ∧ wr.ownsRow W.heap.size 9 1 a o.length (o.map str) ∧ Below W.heap.size W wr ∧ Hid (CInv c s.data.toList R i' f' o)) (fun _ _ i _ => s.size + 1 - (intOf i).toNat)
  case atStart => exact ⟨0, 0, [], by go_num, by go_num, by omega, by omega, by simp, World.ownsRow_nil _ _ _ _, Below.refl _ _, HR⟩
  case round =>
    obtain ⟨i, f, o, rfl, rfl, hile, hfi, hol, hown, hbe, hr⟩ := hrel
    have hib : (i : Int) ≤ 16777217 := by omega
    have OWN := Lib.hid hown
    have HBE := Lib.hid hbe
    have HSZ := Lib.hid hbe.size
    obtain ⟨pa, ca, rfl⟩ := own_form1 hown
    clear hown hbe
    by_cases hdone : i = s.size + 1
    · have HX : Hid (R = o) := Lib.hid (by
        rcases hr.out.2 with ⟨h, _⟩ | ⟨_, h⟩
        · have := HLN.out; omega
        · exact h)
      have OW := Lib.hid (RS_own OWN.out).1
      have hgt : ¬ (i : Int) ≤ (s.size : Int) := by omega
      clear hdone
      go_wp2_with fail
      go_ret
      exact ⟨_, rfl, ⟨by rw [HX.out]; exact OW.out, (RI_own_block OWN.out).1⟩, HBE.out⟩
    · have hil : i ≤ s.size := by omega
      have hile2 : (i : Int) ≤ (s.size : Int) := by omega
      have MB := Lib.hid (show o.length + 1 ≤ maxLen ∧ (o.length + 1) * 16 ≤ 140737488355328 from ⟨by unfold maxLen; omega, by omega⟩)
      by_cases hend : i = s.size
      · have NX := Lib.hid (hr.out.piece (.inl (by have := HLN.out; omega)))
        have he : ((i : Int) == (s.size : Int)) = true := by rw [beq_iff_eq]; omega
        have hfs : (f : Int) ≤ (i : Int) := by omega
        clear hdone hend hil
        go_wp2_with (at_builtin; rw [extract_seg]; refine appendN2 (W := W) rfl _ _ 40 rfl W.heap.size 9 i0 _ 1 16 Tryz.underlying40 hi hz0 hz1 hz2 rfl (by decide) _ _ _ rfl OWN.out _ [str (seg s.data.toList f i)] _ rfl rfl rfl (by intro u hu; simp at hu; subst hu; rfl) MB.out.1 MB.out.2 HSZ.out HBE.out ?_; intro m' w3 hown3 hbe3 hgr)
        go_roundw
        case rel => exact ⟨i + 1, i + 1, o ++ [seg s.data.toList f i], by go_num, by go_num, by omega, by omega, by simp; omega, by rw [List.length_append, List.map_append]; exact hown3, hbe3, NX⟩
        case measure => show s.size + 1 - ((i : Int) + 1).toNat < s.size + 1 - ((i : Int)).toNat; omega
      · have hlt : i < s.size := by omega
        have he : ((i : Int) == (s.size : Int)) = false := by rw [beq_eq_false_iff_ne]; omega
        have hlt' : (i : Int) < (s.size : Int) := by omega
        have hix : ∀ w, (Instr.index 9 (.string s) (.int .i64 (i : Int))).run Tryz.prog w = .ok (.int .u8 (s[i]).toNat) w := fun w => by
          rw [run_index_string _ _ _ _ _ Tryz.underlying9]; simp [hlt]
        by_cases hb : s.data.toList.getD i 0 = c
        · have NX := Lib.hid (hr.out.piece (.inr ⟨by have := HLN.out; omega, hb⟩))
          have hb32 : (((s[i]).toNat : Int) == (c.toNat : Int)) = true := by rw [BA.out i hlt] at hb; rw [hb]; exact beq_self_eq_true _
          generalize (s[i]).toNat = n at *
          have hfs : (f : Int) ≤ (i : Int) := by omega
          clear hdone hend hil hb hlt
          go_wp2_with (at_builtin; rw [extract_seg]; refine appendN2 (W := W) rfl _ _ 40 rfl W.heap.size 9 i0 _ 1 16 Tryz.underlying40 hi hz0 hz1 hz2 rfl (by decide) _ _ _ rfl OWN.out _ [str (seg s.data.toList f i)] _ rfl rfl rfl (by intro u hu; simp at hu; subst hu; rfl) MB.out.1 MB.out.2 HSZ.out HBE.out ?_; intro m' w3 hown3 hbe3 hgr)
          go_roundw
          case rel => exact ⟨i + 1, i + 1, o ++ [seg s.data.toList f i], by go_num, by go_num, by omega, by omega, by simp; omega, by rw [List.length_append, List.map_append]; exact hown3, hbe3, NX⟩
          case measure => show s.size + 1 - ((i : Int) + 1).toNat < s.size + 1 - ((i : Int)).toNat; omega
        · have NX := Lib.hid (hr.out.go (by have := HLN.out; omega) hb)
          have hb32 : (((s[i]).toNat : Int) == (c.toNat : Int)) = false := by
            rw [BA.out i hlt] at hb
            rw [beq_eq_false_iff_ne]
            intro e
            exact hb (UInt8.toNat_inj.1 (by omega))
          generalize (s[i]).toNat = n at *
          clear hdone hend hil hb hlt
          go_wp2_with fail
          go_roundw
          case rel => exact ⟨i + 1, f, o, by go_num, by go_num, by omega, by omega, by omega, OWN.out, HBE.out, NX⟩
          case measure => show s.size + 1 - ((i : Int) + 1).toNat < s.size + 1 - ((i : Int)).toNat; omega

end Go.Proofs.YtophilmjfdhhaaaGreatDoor
