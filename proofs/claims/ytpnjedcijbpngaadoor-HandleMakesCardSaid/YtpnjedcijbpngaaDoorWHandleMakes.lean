/- The walk of HandleMakes. -/
import Derived.Test.YtpnjedcijbpngaaDoorHw
namespace Go.Proofs.YtpnjedcijbpngaaDoor
open Go Go.RowKit Go.Shelf Go.Sort
set_option maxHeartbeats 400000
set_option maxRecDepth 100000
set_option linter.unusedVariables false
theorem handleMakes_walk (k : Int) (wk : -9223372036854775808 ≤ k ∧ k ≤ 9223372036854775807) (s : Int) (ws : -9223372036854775808 ≤ s ∧ s ≤ 9223372036854775807) (g : Int) (wg : -9223372036854775808 ≤ g ∧ g ≤ 9223372036854775807) (W : World) (E : Env W) :
    Calls Tryd.prog 3 #[.int .i64 k, .int .i64 s, .int .i64 g] W fun e w' => e = .returned (.bool true) ∧ Below W.heap.size W w' := by
  have WK := Lib.hid (works_ok W E); clear E
  by_cases o : HOk k s g
  · have M := Lib.hid (fun W => make_ok k s g W o)
    have R := Lib.hid (fun W => rmake_ok k s g W o)
    have N0 := Lib.hid (fun W => num_nil W)
    clear o wk ws wg
    go_enter Tryd.func3, Tryd.ntmps3
    go_wp2_with (first | (go_at_call 9; refine (M.out _).mono ?_; rintro e w' ⟨rfl, rfl⟩) | (go_at_call 10; refine (R.out _).mono ?_; rintro e w' ⟨rfl, rfl⟩) | (go_at_call 11; refine (N0.out _).mono ?_; rintro e w' ⟨rfl, rfl⟩) | (go_at_call 12; refine (WK.out).mono ?_; rintro e w1 ⟨rfl, hb1⟩))
    go_ret
    exact ⟨rfl, hb1⟩
  · have M := Lib.hid (fun W => make_bad k s g W o)
    have R := Lib.hid (fun W => rmake_bad k s g W o)
    have N0 := Lib.hid (fun W => num_err 1 W)
    clear o wk ws wg
    go_enter Tryd.func3, Tryd.ntmps3
    go_wp2_with (first | (go_at_call 9; refine (M.out _).mono ?_; rintro e w' ⟨rfl, rfl⟩) | (go_at_call 10; refine (R.out _).mono ?_; rintro e w' ⟨rfl, rfl⟩) | (go_at_call 11; refine (N0.out _).mono ?_; rintro e w' ⟨rfl, rfl⟩) | (go_at_call 12; refine (WK.out).mono ?_; rintro e w1 ⟨rfl, hb1⟩))
    go_ret
    exact ⟨rfl, hb1⟩
end Go.Proofs.YtpnjedcijbpngaaDoor
