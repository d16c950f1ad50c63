/- Text of package handle: a handle's text; Itoa and Atoi of Go's library in the form in which the walks here take them. -/
import Derived.Test.YtmfmmopnapchjaaDoorHb
import Derived.Lib.ItoaLen
import Derived.Lib.QuietBelow
namespace Go.Proofs.YtmfmmopnapchjaaDoor
open Go Go.RowKit Go.Shelf Go.Sort
set_option maxHeartbeats 400000
set_option linter.unusedVariables false
set_option maxRecDepth 100000

theorem itoa_c (n : Int) (h0 : -9223372036854775808 ≤ n) (h1 : n ≤ 9223372036854775807) (W : World) (E : Env W) :
    Calls Tryd.prog 31 #[.int .i64 n] W fun e w' => e = .returned (.string ⟨(Lib.itoa n).toArray⟩) ∧ Below W.heap.size W w' := by
  refine (Tryd.strconv_Itoa n h0 h1 W E.tab).mono ?_
  rintro e w' ⟨he, k, os, rfl⟩
  exact ⟨he, Lib.below_grow _ _ (Nat.le_refl _) k os⟩

/-- The number that Atoi hands back, whatever the error. -/
def atoiV (l : List UInt8) : Int := match Lib.atoiAll l with | .ok v => v | .range => Lib.atoiSat l | _ => 0

/-- The letter of a kind. -/
def letter (k : Int) : UInt8 := if k = 1 then 110 else if k = 2 then 116 else 115
/-- A handle's text. -/
def hText (h : Int) : List UInt8 :=
  if h = 0 then [45] else if HV h then letter (hK h) :: (Lib.itoa (hS h) ++ 46 :: Lib.itoa (hG h)) else []

theorem HV_ne {h : Int} (v : HV h) : h ≠ 0 := by have := HV_range v; omega

theorem text_zero (W : World) : Calls Tryd.prog 13 #[.int .i64 0] W fun e w' => e = .returned (.string ⟨(hText 0).toArray⟩) ∧ Below W.heap.size W w' := by
  go_enter Tryd.func13, Tryd.ntmps13
  go_wp2_with fail
  go_ret
  exact ⟨rfl, Below.refl _ _⟩
theorem text_bad {h : Int} (W : World) (v : ¬ HV h) (z : h ≠ 0) : Calls Tryd.prog 13 #[.int .i64 h] W fun e w' => e = .returned (.string ⟨(hText h).toArray⟩) ∧ Below W.heap.size W w' := by
  have T : hText h = [] := by unfold hText; rw [if_neg z, if_neg v]
  rw [T]
  clear T
  have V := Lib.hid v; clear v
  have Z : (h == 0) = false := by simp [z]
  clear z
  go_enter Tryd.func13, Tryd.ntmps13
  go_wp2_with (go_at_call 29; refine (valid_f _ V.out).mono ?_; rintro e w' ⟨rfl, rfl⟩)
  go_ret
  exact ⟨rfl, Below.refl _ _⟩

theorem str_join (c : UInt8) (a b : List UInt8) : (⟨#[c]⟩ : ByteArray) ++ ⟨a.toArray⟩ ++ ⟨#[46]⟩ ++ ⟨b.toArray⟩ = ⟨(c :: (a ++ 46 :: b)).toArray⟩ := by
  apply ByteArray.ext
  simp [ByteArray.data_append]

theorem text_ok {h : Int} (W : World) (E : Env W) (v : HV h) : Calls Tryd.prog 13 #[.int .i64 h] W fun e w' => e = .returned (.string ⟨(hText h).toArray⟩) ∧ Below W.heap.size W w' := by
  have z := HV_ne v
  have T : hText h = letter (hK h) :: (Lib.itoa (hS h) ++ 46 :: Lib.itoa (hG h)) := by unfold hText; rw [if_neg z, if_pos v]
  have hs : 0 ≤ hS h ∧ hS h ≤ 65535 := ⟨v.2.2.1, v.2.2.2.1⟩
  have hg : 0 ≤ hG h ∧ hG h ≤ 1048576 := by have := v.2.2.2.2; omega
  have k3 : hK h = 1 ∨ hK h = 2 ∨ hK h = 3 := by have := v.1; have := v.2.1; omega
  have V := Lib.hid v; clear v
  have Z : (h == 0) = false := by simp [z]
  clear z
  have ls := Lib.itoa_length_le (hS h) (by omega) (by omega)
  have lg := Lib.itoa_length_le (hG h) (by omega) (by omega)
  have cS : ∀ d os, Calls Tryd.prog 31 #[.int .i64 (hS h)] (grow (redrawn W d) os) fun e w'' => e = .returned (.string ⟨(Lib.itoa (hS h)).toArray⟩) ∧ ∃ p : Regrown, w'' = grow (redrawn W p.d) p.os :=
    fun d os => Calls.regrown_of (itoa_c (hS h) (by omega) (by omega) _ (E.below (below_regrown W d os)))
  have cG : ∀ d os, Calls Tryd.prog 31 #[.int .i64 (hG h)] (grow (redrawn W d) os) fun e w'' => e = .returned (.string ⟨(Lib.itoa (hG h)).toArray⟩) ∧ ∃ p : Regrown, w'' = grow (redrawn W p.d) p.os :=
    fun d os => Calls.regrown_of (itoa_c (hG h) (by omega) (by omega) _ (E.below (below_regrown W d os)))
  have CS := Lib.hid cS; clear cS
  have CG := Lib.hid cG; clear cG
  clear hs hg
  rw [T]
  clear T
  rcases k3 with k | k | k
  all_goals
    have P : ∀ W, Calls Tryd.prog 30 #[.int .i64 h] W fun e w' => e = .returned (.tuple #[.int .i64 _, .int .i64 (hS h), .int .i64 (hG h)]) ∧ W = w' := fun W => by have := parts_any h W; rw [k] at this; exact this
    have PP := Lib.hid P; clear P
    rw [k]
    clear k
    generalize Lib.itoa (hS h) = a at *
    generalize Lib.itoa (hG h) = b at *
    go_enter Tryd.func13, Tryd.ntmps13
    go_wp2_with (first | (go_at_call 29; refine (valid_t _ V.out).mono ?_; rintro e w' ⟨rfl, rfl⟩) | (go_at_call 30; refine (PP.out _).mono ?_; rintro e w' ⟨rfl, rfl⟩))
    have w0 : IntKind.i64.wrap 0 = 0 := by decide
    have w1 : IntKind.i64.wrap 1 = 1 := by decide
    have w2 : IntKind.i64.wrap 2 = 2 := by decide
    have x0 : (⟨#[110, 116, 115]⟩ : ByteArray).extract 0 1 = ⟨#[110]⟩ := by decide
    have x1 : (⟨#[110, 116, 115]⟩ : ByteArray).extract 1 2 = ⟨#[116]⟩ := by decide
    have x2 : (⟨#[110, 116, 115]⟩ : ByteArray).extract 2 3 = ⟨#[115]⟩ := by decide
    have n1 : ¬ 9223372036854775807 < 1 + a.length := by omega
    have n2 : ¬ 9223372036854775807 < 1 + a.length + 1 := by omega
    have n3 : ¬ 9223372036854775807 < 1 + a.length + 1 + b.length := by omega
    refine wp_region_quiet_below (by kernel_rfl) (by kernel_rfl) ?_
    repeat (quiet_step (first | exact CS.out _ _ | exact CG.out _ _))
    refine wpQuiet_nil ?_
    intro _ hw'
    obtain ⟨⟨dq, osq⟩, hw''⟩ := hw'
    subst hw''
    go_wp2
    go_ret
    refine ⟨?_, below_regrown W dq osq⟩
    exact congrArg (fun s => Ending.returned (Value.string s)) (str_join _ a b)
theorem text_any {h : Int} (W : World) (E : Env W) : Calls Tryd.prog 13 #[.int .i64 h] W fun e w' => e = .returned (.string ⟨(hText h).toArray⟩) ∧ Below W.heap.size W w' := by
  by_cases z : h = 0
  · subst z; exact text_zero W
  · by_cases v : HV h
    · exact text_ok W E v
    · exact text_bad W v z
end Go.Proofs.YtmfmmopnapchjaaDoor
