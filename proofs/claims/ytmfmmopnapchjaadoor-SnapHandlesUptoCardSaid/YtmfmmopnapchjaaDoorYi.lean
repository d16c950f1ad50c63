/- tithelaw27.sure; the walk of SnapSums. -/
import Derived.Test.YtmfmmopnapchjaaDoorYh
namespace Go.Proofs.YtmfmmopnapchjaaDoor
open Go Go.RowKit Go.Shelf Go.Sort
set_option linter.unusedVariables false
set_option linter.unusedSimpArgs false
set_option maxRecDepth 100000
set_option maxHeartbeats 800000

theorem itoa1 : Lib.itoa 1 = [49] := by
  unfold Lib.itoa
  rw [if_neg (by decide)]
  show Lib.decDigits 1 = _
  rw [Lib.decDigits]
  rfl
theorem txt0_pre : ∃ rest, txt0 = [116, 105, 116, 104, 101, 32, 49, 10] ++ (110 :: rest) := by
  have h1 : hd1 = [116, 105, 116, 104, 101, 32, 49, 10] := by
    unfold hd1 lineT numsT
    rw [List.flatMap_cons, itoa1]
    rfl
  have e2 : lineT [110, 111, 119] [0, 0] = 110 :: ([111, 119] ++ numsT [0, 0] ++ [10]) := rfl
  refine ⟨([111, 119] ++ numsT [0, 0] ++ [10]) ++ (lineT [103, 101, 110, 115] ((List.range 64).map fun _ => 1) ++ (lineT [110, 111, 100, 101] rowN ++ (lineT [115, 108, 97, 99, 107] [-1] ++ (lineT [115, 108, 111, 116, 115] (slotT0 (fun _ => 1) (fun _ => false) 16) ++ ([115, 117, 109, 32] ++ hexS (sumS hd6).toNat ++ [10]))))), ?_⟩
  unfold txt0
  generalize hexS (sumS hd6).toNat = hx
  unfold hd6 hd5 hd4 hd3 hd2
  rw [h1, e2]
  simp only [List.append_assoc, List.cons_append]
theorem extract8 (l : List UInt8) : (⟨([116, 105, 116, 104, 101, 32, 49, 10] ++ l).toArray⟩ : ByteArray).extract 0 8 = ⟨#[116, 105, 116, 104, 101, 32, 49, 10]⟩ := by
  apply ByteArray.ext
  rw [ByteArray.data_extract]
  simp
theorem suma_c (w : World) : Calls Tryd.prog 5 #[.string ⟨#[97]⟩] w fun e w' => e = .returned (.int .u32 3826002220) ∧ w = w' := by
  have h := sum_c ⟨#[97]⟩ (by decide) w
  rw [show (⟨#[97]⟩ : ByteArray).data.toList = [97] from rfl, sum_a] at h
  exact h
theorem alike0_c (w : World) (k t r n lf bk m pl pt pr : Nat) (H : K0 w k t r n lf bk m pl pt pr) (E : EnvZ w) :
    Calls Tryd.prog 12 #[.pointer (some ⟨k, 0, none⟩), .pointer (some ⟨k, 0, none⟩)] w fun e w' => e = .returned (.bool true) ∧ Below w.heap.size w w' := by
  have SV := Lib.hid (fun w' (b : Below w.heap.size w w') => save0_c w' k t r n lf bk m pl pt pr (H.below b) (E.below b))
  clear H E
  go_enter Tryd.func12, Tryd.ntmps12
  go_wp2_with fail
  refine (SV.out w (Below.refl _ _)).mono ?_
  rintro e w1 ⟨rfl, b1⟩
  have B1 := Lib.hid b1
  clear b1
  go_wp2_with fail
  refine (SV.out w1 B1.out).mono ?_
  rintro e w2 ⟨rfl, b2⟩
  have B2 := Lib.hid (B1.out.trans (b2.mono B1.out.size))
  clear b2
  generalize txt0 = x at *
  go_wp2_with fail
  go_ret
  exact ⟨rfl, B2.out⟩
theorem sure_c (w : World) (E : EnvZ w) : Calls Tryd.prog 7 #[] w fun e w' => e = .returned (.bool true) ∧ Below w.heap.size w w' := by
  have KN := Lib.hid (kerNew_c w)
  have SV := Lib.hid (fun w' k t r n lf bk m pl pt pr (H : K0 w' k t r n lf bk m pl pt pr) (b : Below w.heap.size w w') => save0_c w' k t r n lf bk m pl pt pr H (E.below b))
  have AL := Lib.hid (fun w' k t r n lf bk m pl pt pr (H : K0 w' k t r n lf bk m pl pt pr) (b : Below w.heap.size w w') => alike0_c w' k t r n lf bk m pl pt pr H (E.below b))
  have SM := Lib.hid (fun w => suma_c w)
  obtain ⟨rest, hrest⟩ := txt0_pre
  clear E
  go_enter Tryd.func7, Tryd.ntmps7
  go_wp2_with fail
  refine KN.out.mono ?_
  rintro e w1 ⟨k, t, r, n, lf, bk, m, pl, pt, pr, rfl, H1, b1⟩
  have KH := Lib.hid H1
  have B1 := Lib.hid b1
  clear H1 b1
  go_wp2_with fail
  refine (SV.out w1 _ _ _ _ _ _ _ _ _ _ KH.out B1.out).mono ?_
  rintro e w2 ⟨rfl, b2⟩
  have KH2 := Lib.hid (KH.out.below b2)
  have B2 := Lib.hid (B1.out.trans (b2.mono B1.out.size))
  clear b2
  have hl8 : (8 : Int) < (txt0.length : Int) := by rw [hrest]; simp; omega
  have hl8' : 8 ≤ txt0.length := by omega
  have hex : (⟨txt0.toArray⟩ : ByteArray).extract 0 8 = ⟨#[116, 105, 116, 104, 101, 32, 49, 10]⟩ := by
    rw [hrest]
    exact extract8 _
  have HR := Lib.hid hrest
  clear hrest
  generalize txt0 = x at *
  go_wp2_with fail
  refine (SM.out _).mono ?_
  rintro e w3 ⟨rfl, rfl⟩
  go_wp2_with fail
  refine (AL.out _ _ _ _ _ _ _ _ _ _ _ KH2.out B2.out).mono ?_
  rintro e w4 ⟨rfl, b4⟩
  have B4 := Lib.hid (B2.out.trans (b4.mono B2.out.size))
  clear b4
  go_wp2_with fail
  go_ret
  exact ⟨rfl, B4.out⟩
theorem snapSums_walk (s : ByteArray) (hs : s.size ≤ 140737488355328) (w : World) (E : EnvZ w) : Calls Tryd.prog 3 #[.string s] w fun e w' => e = .returned (.bool true) ∧ Below w.heap.size w w' := by
  have S1 := Lib.hid (fun w => sum_c s hs w)
  have S2 := Lib.hid (fun w => rsum_c s hs w)
  have SU := Lib.hid (sure_c w E)
  clear E
  generalize sumS s.data.toList = x at *
  go_enter Tryd.func3, Tryd.ntmps3
  go_wp2_with fail
  refine (S1.out _).mono ?_
  rintro e w1 ⟨rfl, rfl⟩
  go_wp2_with fail
  refine (S2.out _).mono ?_
  rintro e w1 ⟨rfl, rfl⟩
  go_wp2_with fail
  refine SU.out.mono ?_
  rintro e w2 ⟨rfl, b2⟩
  have B2 := Lib.hid b2
  clear b2
  go_wp2_with fail
  go_ret
  exact ⟨rfl, B2.out⟩
end Go.Proofs.YtmfmmopnapchjaaDoor
