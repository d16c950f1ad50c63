/- strconv.FormatUint of base 16 (public), snap.hex. -/
import Derived.Test.YtmfmmopnapchjaaDoorYf
namespace Go.Proofs.YtmfmmopnapchjaaDoor
open Go Go.RowKit Go.Shelf Go.Sort
set_option linter.unusedVariables false
set_option linter.unusedSimpArgs false
set_option maxRecDepth 100000
set_option maxHeartbeats 1600000

theorem hexD_len (n : Nat) (hn : n < 4294967296) : (hexD n).length ≤ 8 := by
  unfold hexD
  rw [hexJ_len]
  have : ∀ (f j m : Nat), m < 16 ^ (j + 1) → hexN f m ≤ j := by
    intro f
    induction f with
    | zero => intro j m _; exact Nat.zero_le _
    | succ f ih =>
      intro j m hm
      rw [hexN]
      split
      · exact Nat.zero_le _
      · cases j with
        | zero => omega
        | succ j =>
          have := ih j (m / 16) (by rw [Nat.div_lt_iff_lt_mul (by decide)]; rw [Nat.pow_succ] at hm; exact hm)
          omega
  have := this 16 7 n (by omega)
  omega
theorem fmtI_c (n : Nat) (hn : n < 4294967296) (w : World) (E : EnvZ w) : Calls Tryd.prog 59 #[.int .u64 n, .int .i64 16] w fun e w' => e = .returned (str (hexD n)) ∧ Below w.heap.size w w' := by
  have F := Lib.hid (fmtBits_c n hn w E)
  clear E
  go_enter Tryd.func59, Tryd.ntmps59
  go_wp2_with fail
  refine F.out.mono ?_
  rintro e w' ⟨rfl, hb⟩
  have HB := Lib.hid hb
  clear hb
  go_wp2_with fail
  go_ret
  exact ⟨rfl, HB.out⟩
theorem fmtU_c (n : Nat) (hn : n < 4294967296) (w : World) (E : EnvZ w) : Calls Tryd.prog 43 #[.int .u64 n, .int .i64 16] w fun e w' => e = .returned (str (hexD n)) ∧ Below w.heap.size w w' := by
  have F := Lib.hid (fmtI_c n hn w E)
  clear E
  go_enter Tryd.func43, Tryd.ntmps43
  go_wp2_with fail
  refine F.out.mono ?_
  rintro e w' ⟨rfl, hb⟩
  have HB := Lib.hid hb
  clear hb
  go_wp2_with fail
  go_ret
  exact ⟨rfl, HB.out⟩
/-- A sum as eight digits. -/
def hexS (n : Nat) : List UInt8 := Lib.repeatL [48] (8 - (hexD n).length) ++ hexD n
theorem repeatL_len (l : List UInt8) (c : Nat) : (Lib.repeatL l c).length = l.length * c := by
  induction c with
  | zero => simp [Lib.repeatL]
  | succ c ih =>
    rw [Lib.repeatL, List.length_append, ih]
    rw [Nat.mul_succ]; omega
theorem hex_c (n : Nat) (hn : n < 4294967296) (w : World) (E : EnvZ w) : Calls Tryd.prog 26 #[.int .u32 n] w fun e w' => e = .returned (str (hexS n)) ∧ Below w.heap.size w w' := by
  have F := Lib.hid (fmtU_c n hn w E)
  have hl := hexD_len n hn
  have R := Lib.hid (fun w' => Tryd.strings_Repeat ⟨#[48]⟩ (8 - (hexD n).length) w' (by omega) (by
    show 1 * _ ≤ _
    omega))
  have hc : (8 : Int) - ((hexD n).length : Int) = ((8 - (hexD n).length : Nat) : Int) := by omega
  have hrl : (Lib.repeatL ([48] : List UInt8) (8 - (hexD n).length)).length ≤ 8 := by rw [repeatL_len]; simp
  have hw : IntKind.u64.wrap (n : Int) = n := by rw [IntKind.wrap_u64]; omega
  clear E
  go_enter Tryd.func26, Tryd.ntmps26
  go_wp2_with fail
  refine F.out.mono ?_
  rintro e w' ⟨rfl, hb⟩
  have HB := Lib.hid hb
  clear hb
  go_wp2_with fail
  refine (R.out w').mono ?_
  rintro e w2 ⟨rfl, hb2⟩
  have HB2 := Lib.hid (HB.out.trans (hb2.mono HB.out.size))
  have hrl' : (Lib.repeatL (⟨#[48]⟩ : ByteArray).data.toList (8 - (hexD n).length)).length ≤ 8 := hrl
  have hnn : ¬ 9223372036854775807 < (Lib.repeatL (⟨#[48]⟩ : ByteArray).data.toList (8 - (hexD n).length)).length + (hexD n).length := by omega
  clear hb2
  go_wp2_with fail
  go_ret
  refine ⟨?_, HB2.out⟩
  show Ending.returned (Value.string _) = Ending.returned (str (hexS n))
  congr 2
end Go.Proofs.YtmfmmopnapchjaaDoor
