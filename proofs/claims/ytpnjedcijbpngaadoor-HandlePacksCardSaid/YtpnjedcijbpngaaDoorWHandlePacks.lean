/- The walk of HandlePacks. -/
import Derived.Test.YtpnjedcijbpngaaDoorHw
import Derived.Test.YtpnjedcijbpngaaDoorHu
import Derived.Test.YtpnjedcijbpngaaDoorHz
namespace Go.Proofs.YtpnjedcijbpngaaDoor
open Go Go.RowKit Go.Shelf Go.Sort
set_option maxHeartbeats 400000
set_option maxRecDepth 100000
set_option linter.unusedVariables false

theorem handlePacks_walk (l : List Int) (v : Value) {W : World} (hv : RI W v l) (hr : ∀ x ∈ l, -9223372036854775808 ≤ x ∧ x ≤ 9223372036854775807) (hl : l.length * 8 ≤ 140737488351232) (s : ByteArray) (ws : s.size ≤ 140737488351232) (_W : World) (E : Env W) :
    Calls Tryd.prog 7 #[v, .string s] W fun e w' => e = .returned (.bool true) ∧ Below W.heap.size W w' := by
  obtain ⟨i0, hi, hz0, hz1, hz2⟩ := info_parts Tryd.infoH
  have HV0 := Lib.hid hv
  have EE := Lib.hid E
  have P1 := Lib.hid (fun v W (hv : RI W v l) => pack_any l v W hv)
  have P2 := Lib.hid (fun v W (hv : RI W v l) => rpack_any l v W hv)
  have U1 := Lib.hid (fun W => unpack_any s W)
  have U2 := Lib.hid (fun W => runpack_any s W)
  have SL := unA_length s.data.toList
  generalize pkA l = pk at *
  generalize unA s.data.toList = un at *
  obtain ⟨pb, pe⟩ := pk
  obtain ⟨ul, ue⟩ := un
  clear hv hr ws E
  go_enter Tryd.func7, Tryd.ntmps7
  go_wp2_with (at_builtin; refine appendRI (W := W) rfl _ _ 42 rfl W.heap.size 22 i0 (.int .i64 0) Tryd.underlying42 hi hz0 hz1 hz2 rfl _ 0 [] rfl (World.ownsRow_nil _ _ _ _) _ l rfl HV0.out (by omega) (Nat.le_refl _) (Below.refl _ _) ?_; intro vm w1 hown1 hb1)
  have hm := RI_own (show w1.ownsRow W.heap.size 22 1 vm (0 + l.length) (l.map (Value.int .i64)) from by simpa using hown1)
  have HM := Lib.hid hm; clear hm hown1
  refine (P1.out _ _ HM.out).mono ?_
  rintro e w2 ⟨rfl, hb2⟩
  have HB1 := Lib.hid hb1
  have HB2 := Lib.hid (below_then hb1 hb2)
  have HM2 := Lib.hid (HM.out.below hb2)
  clear hb1 hb2
  go_wp2_with fail
  refine (P2.out _ _ (HV0.out.below HB2.out)).mono ?_
  rintro e w3 ⟨rfl, hb3⟩
  have HB3 := Lib.hid (below_then HB2.out hb3)
  have HM3 := Lib.hid (HM2.out.below hb3)
  clear hb3
  go_wp2_with fail
  refine (U1.out _).mono ?_
  rintro e w4 ⟨⟨va, rfl, ha⟩, hb4⟩
  have HB4 := Lib.hid (below_then HB3.out hb4)
  have HM4 := Lib.hid (HM3.out.below hb4)
  have HA4 := Lib.hid ha
  clear hb4 ha
  go_wp2_with fail
  refine (U2.out _).mono ?_
  rintro e w5 ⟨⟨vb, rfl, hbb⟩, hb5⟩
  have HB5 := Lib.hid (below_then HB4.out hb5)
  have HM5 := Lib.hid (HM4.out.below hb5)
  have HA5 := Lib.hid (HA4.out.below hb5)
  have HBB := Lib.hid hbb
  clear hb5 hbb
  go_wp2_with fail
  refine (num_any _ _).mono ?_
  rintro e w' ⟨rfl, rfl⟩
  go_wp2_with fail
  refine (same_eq ul _ _ _ HA5.out HBB.out (by have : ul.length ≤ 4096 := SL; omega)).mono ?_
  rintro e w6 ⟨rfl, hb6⟩
  have HB6 := Lib.hid (below_then HB5.out hb6)
  have HM6 := Lib.hid (HM5.out.below hb6)
  clear hb6
  go_wp2_with fail
  refine (num_any _ _).mono ?_
  rintro e w' ⟨rfl, rfl⟩
  go_wp2_with fail
  refine (same_eq l _ _ _ HM6.out (HV0.out.below HB6.out) (by omega)).mono ?_
  rintro e w7 ⟨rfl, hb7⟩
  have HB7 := Lib.hid (below_then HB6.out hb7)
  clear hb7
  go_wp2_with fail
  refine (works_ok _ (EE.out.below HB7.out)).mono ?_
  rintro e w8 ⟨rfl, hb8⟩
  go_wp2_with fail
  go_ret
  exact ⟨rfl, below_then HB7.out hb8⟩
end Go.Proofs.YtpnjedcijbpngaaDoor
