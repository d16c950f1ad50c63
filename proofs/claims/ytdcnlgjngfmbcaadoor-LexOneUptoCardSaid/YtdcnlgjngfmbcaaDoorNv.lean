/- titheref24.Cut at every text. -/
import Derived.Test.YtdcnlgjngfmbcaaDoorLn
import Derived.Test.YtdcnlgjngfmbcaaDoorNo
namespace Go.Proofs.YtdcnlgjngfmbcaaDoor
open Go Go.RowKit Go.Shelf
set_option linter.unusedVariables false
set_option linter.unusedSimpArgs false
set_option maxRecDepth 100000
set_option maxHeartbeats 1600000

/-- What is left to cut at place i, the piece begun at f, the pieces o taken. -/
def CInv (c : UInt8) (l : List UInt8) (R : List (List UInt8)) (i f : Nat) (o : List (List UInt8)) : Prop :=
  f ≤ i ∧ ((i ≤ l.length ∧ R = o ++ splitC c (seg l f i) (l.drop i)) ∨ (i = l.length + 1 ∧ R = o))
theorem drop_c (c : UInt8) (l : List UInt8) (i : Nat) (hi : i < l.length) (f : Nat) (hf : f ≤ i) : splitC c (seg l f i) (l.drop i) = if l.getD i 0 == c then seg l f i :: splitC c [] (l.drop (i + 1)) else splitC c (seg l f (i + 1)) (l.drop (i + 1)) := by
  have hd : l.drop i = l.getD i 0 :: l.drop (i + 1) := by
    rw [List.drop_eq_getElem_cons hi, List.getD, List.getElem?_eq_getElem hi]; rfl
  rw [hd, splitC, seg_succ l f i hf hi]
theorem CInv.go {c : UInt8} {l : List UInt8} {R : List (List UInt8)} {i f : Nat} {o : List (List UInt8)} (h : CInv c l R i f o) (hi : i < l.length) (hb : l.getD i 0 ≠ c) : CInv c l R (i + 1) f o := by
  obtain ⟨h1, h3⟩ := h
  rcases h3 with ⟨_, h3⟩ | ⟨h3, _⟩
  · rw [drop_c c l i hi f h1, if_neg (by simpa using hb)] at h3
    exact ⟨by omega, .inl ⟨by omega, h3⟩⟩
  · omega
theorem CInv.piece {c : UInt8} {l : List UInt8} {R : List (List UInt8)} {i f : Nat} {o : List (List UInt8)} (h : CInv c l R i f o) (hi : i = l.length ∨ (i < l.length ∧ l.getD i 0 = c)) : CInv c l R (i + 1) (i + 1) (o ++ [seg l f i]) := by
  obtain ⟨h1, h3⟩ := h
  rcases h3 with ⟨hil, h3⟩ | ⟨h3, _⟩
  · rcases hi with rfl | ⟨hi, hb⟩
    · have e : splitC c (seg l f l.length) (l.drop l.length) = [seg l f l.length] := by rw [List.drop_eq_nil_of_le (Nat.le_refl _)]; rfl
      rw [e] at h3
      exact ⟨Nat.le_refl _, .inr ⟨rfl, h3⟩⟩
    · rw [drop_c c l i hi f h1, if_pos (by simpa using hb)] at h3
      exact ⟨Nat.le_refl _, .inl ⟨by omega, by rw [seg_self]; simpa using h3⟩⟩
  · rcases hi with rfl | ⟨hi, _⟩ <;> omega
theorem rcut_any (s : ByteArray) (W : World) (h : s.size ≤ 1048576) :
    Calls Tryd.prog 37 #[.string s, .int .u8 47] W fun e w' => ∃ v, e = .returned v ∧ RS w' v (splitC 47 [] s.data.toList) ∧ Below W.heap.size W w' := by
  obtain ⟨i0, hi, hz0, hz1, hz2⟩ := info_of1 Tryd.infoStr
  have hln : s.size = s.data.toList.length := by rw [Array.length_toList]; rfl
  have HR : Hid (CInv 47 s.data.toList (splitC 47 [] s.data.toList) 0 0 []) := Lib.hid ⟨Nat.le_refl _, .inl ⟨Nat.zero_le _, by simp [seg_self]⟩⟩
  generalize splitC 47 [] s.data.toList = R at *
  have HLN := Lib.hid hln
  have BA := Lib.hid (byte_at s)
  clear hln
  have hss : (s.size : Int) ≤ 1048576 := by omega
  go_enter Tryd.func37, Tryd.ntmps37
  go_wp2_with fail
  go_loopw [5, 6, 7] (fun a f i wr => ∃ (i' f' : Nat) (o : List (List UInt8)), f = .int .i64 f' ∧ i = .int .i64 i' ∧ i' ≤ s.size + 1 ∧ f' ≤ i' ∧ o.length ≤ i' ∧ wr.ownsRow W.heap.size 9 1 a o.length (o.map str) ∧ Below W.heap.size W wr ∧ Hid (CInv 47 s.data.toList R i' f' o)) (fun _ _ i _ => s.size + 1 - (intOf i).toNat)
  case atStart => exact ⟨0, 0, [], by go_num, by go_num, by omega, by omega, by simp, World.ownsRow_nil _ _ _ _, Below.refl _ _, HR⟩
  case round =>
    obtain ⟨i, f, o, rfl, rfl, hile, hfi, hol, hown, hbe, hr⟩ := hrel
    have hib : (i : Int) ≤ 1048577 := by omega
    have OWN := Lib.hid hown
    have HBE := Lib.hid hbe
    have HSZ := Lib.hid hbe.size
    obtain ⟨pa, ca, rfl⟩ := own_form1 hown
    clear hown hbe
    by_cases hdone : i = s.size + 1
    · have HX : Hid (R = o) := Lib.hid (by
        rcases hr.out.2 with ⟨h, _⟩ | ⟨_, h⟩
        · have := HLN.out; omega
        · exact h)
      have OW := Lib.hid (RS_own OWN.out).1
      have hgt : ¬ (i : Int) ≤ (s.size : Int) := by omega
      clear hdone
      go_wp2_with fail
      go_ret
      exact ⟨_, rfl, by rw [HX.out]; exact OW.out, HBE.out⟩
    · have hil : i ≤ s.size := by omega
      have hile2 : (i : Int) ≤ (s.size : Int) := by omega
      have MB := Lib.hid (show o.length + 1 ≤ maxLen ∧ (o.length + 1) * 16 ≤ 140737488355328 from ⟨by unfold maxLen; omega, by omega⟩)
      by_cases hend : i = s.size
      · have NX := Lib.hid (hr.out.piece (.inl (by have := HLN.out; omega)))
        have he : ((i : Int) == (s.size : Int)) = true := by rw [beq_iff_eq]; omega
        have hfs : (f : Int) ≤ (i : Int) := by omega
        clear hdone hend hil
        go_wp2_with (at_builtin; rw [extract_seg]; refine appendN2 (W := W) rfl _ _ 34 rfl W.heap.size 9 i0 _ 1 16 Tryd.underlying34 hi hz0 hz1 hz2 rfl (by decide) _ _ _ rfl OWN.out _ [str (seg s.data.toList f i)] _ rfl rfl rfl (by intro u hu; simp at hu; subst hu; rfl) MB.out.1 MB.out.2 HSZ.out HBE.out ?_; intro m' w3 hown3 hbe3 hgr)
        go_roundw
        case rel => exact ⟨i + 1, i + 1, o ++ [seg s.data.toList f i], by go_num, by go_num, by omega, by omega, by simp; omega, by rw [List.length_append, List.map_append]; exact hown3, hbe3, NX⟩
        case measure => show s.size + 1 - ((i : Int) + 1).toNat < s.size + 1 - ((i : Int)).toNat; omega
      · have hlt : i < s.size := by omega
        have he : ((i : Int) == (s.size : Int)) = false := by rw [beq_eq_false_iff_ne]; omega
        have hlt' : (i : Int) < (s.size : Int) := by omega
        have hix : ∀ w, (Instr.index 9 (.string s) (.int .i64 (i : Int))).run Tryd.prog w = .ok (.int .u8 (s[i]).toNat) w := fun w => by
          rw [run_index_string _ _ _ _ _ Tryd.underlying9]; simp [hlt]
        by_cases hb : s.data.toList.getD i 0 = 47
        · have NX := Lib.hid (hr.out.piece (.inr ⟨by have := HLN.out; omega, hb⟩))
          have hb47 : (((s[i]).toNat : Int) == 47) = true := by rw [BA.out i hlt] at hb; rw [hb]; rfl
          generalize (s[i]).toNat = n at *
          have hfs : (f : Int) ≤ (i : Int) := by omega
          clear hdone hend hil hb hlt
          go_wp2_with (at_builtin; rw [extract_seg]; refine appendN2 (W := W) rfl _ _ 34 rfl W.heap.size 9 i0 _ 1 16 Tryd.underlying34 hi hz0 hz1 hz2 rfl (by decide) _ _ _ rfl OWN.out _ [str (seg s.data.toList f i)] _ rfl rfl rfl (by intro u hu; simp at hu; subst hu; rfl) MB.out.1 MB.out.2 HSZ.out HBE.out ?_; intro m' w3 hown3 hbe3 hgr)
          go_roundw
          case rel => exact ⟨i + 1, i + 1, o ++ [seg s.data.toList f i], by go_num, by go_num, by omega, by omega, by simp; omega, by rw [List.length_append, List.map_append]; exact hown3, hbe3, NX⟩
          case measure => show s.size + 1 - ((i : Int) + 1).toNat < s.size + 1 - ((i : Int)).toNat; omega
        · have NX := Lib.hid (hr.out.go (by have := HLN.out; omega) hb)
          have hb47 : (((s[i]).toNat : Int) == 47) = false := by
            rw [BA.out i hlt] at hb
            rw [beq_eq_false_iff_ne]
            intro e
            exact hb (UInt8.toNat_inj.1 (by have : (s[i]).toNat = 47 := by omega
                                            rw [this]; rfl))
          generalize (s[i]).toNat = n at *
          clear hdone hend hil hb hlt
          go_wp2_with fail
          go_roundw
          case rel => exact ⟨i + 1, f, o, by go_num, by go_num, by omega, by omega, by omega, OWN.out, HBE.out, NX⟩
          case measure => show s.size + 1 - ((i : Int) + 1).toNat < s.size + 1 - ((i : Int)).toNat; omega
end Go.Proofs.YtdcnlgjngfmbcaaDoor
