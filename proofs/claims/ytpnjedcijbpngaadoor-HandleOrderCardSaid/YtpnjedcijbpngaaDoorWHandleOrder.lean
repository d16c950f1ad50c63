/- The walk of HandleOrder. -/
import Derived.Test.YtpnjedcijbpngaaDoorHw
import Derived.Deep.QuietTactic
import Derived.BigQuiet
namespace Go.Proofs.YtpnjedcijbpngaaDoor
open Go Go.RowKit Go.Shelf Go.Sort
set_option maxHeartbeats 800000
set_option maxRecDepth 100000
set_option linter.unusedVariables false
theorem order_bad (a b : Int) (W : World) (E : Env W) (v : ¬ (HV a ∧ HV b)) :
    Calls Tryd.prog 6 #[.int .i64 a, .int .i64 b] W fun e w' => e = .returned (.bool true) ∧ Below W.heap.size W w' := by
  have WK := Lib.hid (works_ok W E); clear E
  by_cases va : HV a
  · have vb : ¬ HV b := fun h => v ⟨va, h⟩
    have A := Lib.hid (fun W => valid_t W va)
    have B := Lib.hid (fun W => valid_f W vb)
    clear v va vb
    go_enter Tryd.func6, Tryd.ntmps6
    go_wp2_with fail
    refine (A.out _).mono ?_
    rintro e w' ⟨rfl, rfl⟩
    go_wp2_with fail
    refine (B.out _).mono ?_
    rintro e w' ⟨rfl, rfl⟩
    go_wp2_with (go_at_call 12; refine (WK.out).mono ?_; rintro e w1 ⟨rfl, hb1⟩)
    go_ret
    exact ⟨rfl, hb1⟩
  · have A := Lib.hid (fun W => valid_f W va)
    clear v va
    go_enter Tryd.func6, Tryd.ntmps6
    go_wp2_with fail
    refine (A.out _).mono ?_
    rintro e w' ⟨rfl, rfl⟩
    go_wp2_with (go_at_call 12; refine (WK.out).mono ?_; rintro e w1 ⟨rfl, hb1⟩)
    go_ret
    exact ⟨rfl, hb1⟩

/-- The sign of a comparison, or what came before. -/
def sg (x y c : Int) : Int := if x < y then -1 else if y < x then 1 else c

theorem sg_all {a b : Int} (va : HV a) (vb : HV b) :
    (a < b → sg (hK a) (hK b) (sg (hS a) (hS b) (sg (hG a) (hG b) 0)) = -1) ∧ (a = b → sg (hK a) (hK b) (sg (hS a) (hS b) (sg (hG a) (hG b) 0)) = 0) ∧ (b < a → sg (hK a) (hK b) (sg (hS a) (hS b) (sg (hG a) (hG b) 0)) = 1) := by
  have e1 := HV_eq va
  have e2 := HV_eq vb
  unfold HV HOk at va vb
  generalize hK a = k1 at *; generalize hS a = s1 at *; generalize hG a = g1 at *
  generalize hK b = k2 at *; generalize hS b = s2 at *; generalize hG b = g2 at *
  unfold sg
  refine ⟨fun h => ?_, fun h => ?_, fun h => ?_⟩ <;> repeat' split
  all_goals first | rfl | (exfalso; omega)

def OR (ka sa ga kb sb gb n q : Int) : Prop := (n = 2 ∧ q = 0) ∨ (n = 1 ∧ q = sg ga gb 0) ∨ (n = 0 ∧ q = sg sa sb (sg ga gb 0)) ∨ (n = -1 ∧ q = sg ka kb (sg sa sb (sg ga gb 0)))

theorem order_ok (a b : Int) (W : World) (E : Env W) (va : HV a) (vb : HV b) :
    Calls Tryd.prog 6 #[.int .i64 a, .int .i64 b] W fun e w' => e = .returned (.bool true) ∧ Below W.heap.size W w' := by
  have EE := Lib.hid E; clear E
  have A := Lib.hid va; clear va
  have B := Lib.hid vb; clear vb
  go_enter Tryd.func6, Tryd.ntmps6
  go_wp2_with fail
  refine (valid_t _ A.out).mono ?_; rintro e w' ⟨rfl, rfl⟩
  go_wp2_with fail
  refine (valid_t _ B.out).mono ?_; rintro e w' ⟨rfl, rfl⟩
  go_wp2_with fail
  refine (kind_t _ A.out).mono ?_; rintro e w' ⟨rfl, rfl⟩
  go_wp2_with fail
  refine (slot_t _ A.out).mono ?_; rintro e w' ⟨rfl, rfl⟩
  go_wp2_with fail
  refine (gen_t _ A.out).mono ?_; rintro e w' ⟨rfl, rfl⟩
  go_wp2_with fail
  refine (kind_t _ B.out).mono ?_; rintro e w' ⟨rfl, rfl⟩
  go_wp2_with fail
  refine (slot_t _ B.out).mono ?_; rintro e w' ⟨rfl, rfl⟩
  go_wp2_with fail
  refine (gen_t _ B.out).mono ?_; rintro e w' ⟨rfl, rfl⟩
  go_wp2_with fail
  have bX : Below W.heap.size W ((W.alloc (.cells #[.int .i64 (hK a), .int .i64 (hS a), .int .i64 (hG a)] 3)).alloc (.cells #[.int .i64 (hK b), .int .i64 (hS b), .int .i64 (hG b)] 3)) := ((Below.refl _ _).alloc (Nat.le_refl _) _).alloc (by simp) _
  have c0 : ((W.alloc (.cells #[.int .i64 (hK a), .int .i64 (hS a), .int .i64 (hG a)] 3)).alloc (.cells #[.int .i64 (hK b), .int .i64 (hS b), .int .i64 (hG b)] 3)).cell? ⟨W.heap.size, 0, none⟩ = some (.int .i64 (hK a)) := by simp [go_sem]
  have c1 : ((W.alloc (.cells #[.int .i64 (hK a), .int .i64 (hS a), .int .i64 (hG a)] 3)).alloc (.cells #[.int .i64 (hK b), .int .i64 (hS b), .int .i64 (hG b)] 3)).cell? ⟨W.heap.size, 1, none⟩ = some (.int .i64 (hS a)) := by simp [go_sem]
  have c2 : ((W.alloc (.cells #[.int .i64 (hK a), .int .i64 (hS a), .int .i64 (hG a)] 3)).alloc (.cells #[.int .i64 (hK b), .int .i64 (hS b), .int .i64 (hG b)] 3)).cell? ⟨W.heap.size, 2, none⟩ = some (.int .i64 (hG a)) := by simp [go_sem]
  have d0 : ((W.alloc (.cells #[.int .i64 (hK a), .int .i64 (hS a), .int .i64 (hG a)] 3)).alloc (.cells #[.int .i64 (hK b), .int .i64 (hS b), .int .i64 (hG b)] 3)).cell? ⟨W.heap.size + 1, 0, none⟩ = some (.int .i64 (hK b)) := by simp [go_sem]
  have d1 : ((W.alloc (.cells #[.int .i64 (hK a), .int .i64 (hS a), .int .i64 (hG a)] 3)).alloc (.cells #[.int .i64 (hK b), .int .i64 (hS b), .int .i64 (hG b)] 3)).cell? ⟨W.heap.size + 1, 1, none⟩ = some (.int .i64 (hS b)) := by simp [go_sem]
  have d2 : ((W.alloc (.cells #[.int .i64 (hK a), .int .i64 (hS a), .int .i64 (hG a)] 3)).alloc (.cells #[.int .i64 (hK b), .int .i64 (hS b), .int .i64 (hG b)] 3)).cell? ⟨W.heap.size + 1, 2, none⟩ = some (.int .i64 (hG b)) := by simp [go_sem]
  generalize (W.alloc (.cells #[.int .i64 (hK a), .int .i64 (hS a), .int .i64 (hG a)] 3)).alloc (.cells #[.int .i64 (hK b), .int .i64 (hS b), .int .i64 (hG b)] 3) = X at *
  have CC := Lib.hid (⟨c0, c1, c2, d0, d1, d2⟩ : _ ∧ _ ∧ _ ∧ _ ∧ _ ∧ _)
  have BX := Lib.hid bX
  clear c0 c1 c2 d0 d1 d2 bX
  go_loopw [7, 8] (fun c i wr => ∃ n q : Int, OR (hK a) (hS a) (hG a) (hK b) (hS b) (hG b) n q ∧ c = .int .i64 q ∧ i = .int .i64 n ∧ Below X.heap.size X wr) (fun _ i _ => (intOf i + 1).toNat)
  case atStart => exact ⟨2, 0, .inl ⟨rfl, rfl⟩, rfl, rfl, Below.refl _ _⟩
  case round =>
    obtain ⟨n, q, hor, rfl, rfl, hbx⟩ := hrel
    obtain ⟨c0, c1, c2, d0, d1, d2⟩ := CC.out
    have e0 := (hbx.cell (block_lt_of_cell c0)).trans c0
    have e1 := (hbx.cell (block_lt_of_cell c1)).trans c1
    have e2 := (hbx.cell (block_lt_of_cell c2)).trans c2
    have f0 := (hbx.cell (block_lt_of_cell d0)).trans d0
    have f1 := (hbx.cell (block_lt_of_cell d1)).trans d1
    have f2 := (hbx.cell (block_lt_of_cell d2)).trans d2
    clear c0 c1 c2 d0 d1 d2
    rcases hor with ⟨rfl, rfl⟩ | ⟨rfl, rfl⟩ | ⟨rfl, rfl⟩ | ⟨rfl, hq⟩
    case inl =>
      rcases Int.lt_trichotomy (hG a) (hG b) with h | h | h
      · have Q : Hid (sg (hG a) (hG b) (0) = -1) := if_pos h
        go_wp2_with fail
        go_quiet (fail)
        go_wp2_with fail
        go_roundw
        case rel => exact ⟨1, -1, .inr (.inl ⟨rfl, Q.out.symm⟩), rfl, by go_num, hbx.trans (below_drewN (Below.refl _ _) _)⟩
        case measure => simp [intOf]
      · have h1 : ¬ hG a < hG b := by omega
        have h2 : ¬ hG b < hG a := by omega
        have Q : Hid (sg (hG a) (hG b) (0) = 0) := by unfold sg; exact (if_neg h1).trans (if_neg h2)
        clear h
        go_wp2_with fail
        go_quiet (fail)
        go_wp2_with fail
        go_quiet (fail)
        go_wp2_with fail
        go_roundw
        case rel => exact ⟨1, _, .inr (.inl ⟨rfl, Q.out.symm⟩), rfl, by go_num, hbx.trans (below_drewN (Below.refl _ _) _)⟩
        case measure => simp [intOf]
      · have h1 : ¬ hG a < hG b := by omega
        have Q : Hid (sg (hG a) (hG b) (0) = 1) := by unfold sg; exact (if_neg h1).trans (if_pos h)
        go_wp2_with fail
        go_quiet (fail)
        go_wp2_with fail
        go_quiet (fail)
        go_wp2_with fail
        go_roundw
        case rel => exact ⟨1, 1, .inr (.inl ⟨rfl, Q.out.symm⟩), rfl, by go_num, hbx.trans (below_drewN (Below.refl _ _) _)⟩
        case measure => simp [intOf]
    case inr.inl =>
      rcases Int.lt_trichotomy (hS a) (hS b) with h | h | h
      · have Q : Hid (sg (hS a) (hS b) (sg (hG a) (hG b) 0) = -1) := if_pos h
        go_wp2_with fail
        go_quiet (fail)
        go_wp2_with fail
        go_roundw
        case rel => exact ⟨0, -1, .inr (.inr (.inl ⟨rfl, Q.out.symm⟩)), rfl, by go_num, hbx.trans (below_drewN (Below.refl _ _) _)⟩
        case measure => simp [intOf]
      · have h1 : ¬ hS a < hS b := by omega
        have h2 : ¬ hS b < hS a := by omega
        have Q : Hid (sg (hS a) (hS b) (sg (hG a) (hG b) 0) = sg (hG a) (hG b) 0) := by unfold sg; exact (if_neg h1).trans (if_neg h2)
        clear h
        go_wp2_with fail
        go_quiet (fail)
        go_wp2_with fail
        go_quiet (fail)
        go_wp2_with fail
        go_roundw
        case rel => exact ⟨0, _, .inr (.inr (.inl ⟨rfl, Q.out.symm⟩)), rfl, by go_num, hbx.trans (below_drewN (Below.refl _ _) _)⟩
        case measure => simp [intOf]
      · have h1 : ¬ hS a < hS b := by omega
        have Q : Hid (sg (hS a) (hS b) (sg (hG a) (hG b) 0) = 1) := by unfold sg; exact (if_neg h1).trans (if_pos h)
        go_wp2_with fail
        go_quiet (fail)
        go_wp2_with fail
        go_quiet (fail)
        go_wp2_with fail
        go_roundw
        case rel => exact ⟨0, 1, .inr (.inr (.inl ⟨rfl, Q.out.symm⟩)), rfl, by go_num, hbx.trans (below_drewN (Below.refl _ _) _)⟩
        case measure => simp [intOf]
    case inr.inr.inl =>
      rcases Int.lt_trichotomy (hK a) (hK b) with h | h | h
      · have Q : Hid (sg (hK a) (hK b) (sg (hS a) (hS b) (sg (hG a) (hG b) 0)) = -1) := if_pos h
        go_wp2_with fail
        go_quiet (fail)
        go_wp2_with fail
        go_roundw
        case rel => exact ⟨(-1), -1, .inr (.inr (.inr ⟨rfl, Q.out.symm⟩)), rfl, by go_num, hbx.trans (below_drewN (Below.refl _ _) _)⟩
        case measure => simp [intOf]
      · have h1 : ¬ hK a < hK b := by omega
        have h2 : ¬ hK b < hK a := by omega
        have Q : Hid (sg (hK a) (hK b) (sg (hS a) (hS b) (sg (hG a) (hG b) 0)) = sg (hS a) (hS b) (sg (hG a) (hG b) 0)) := by unfold sg; exact (if_neg h1).trans (if_neg h2)
        clear h
        go_wp2_with fail
        go_quiet (fail)
        go_wp2_with fail
        go_quiet (fail)
        go_wp2_with fail
        go_roundw
        case rel => exact ⟨(-1), _, .inr (.inr (.inr ⟨rfl, Q.out.symm⟩)), rfl, by go_num, hbx.trans (below_drewN (Below.refl _ _) _)⟩
        case measure => simp [intOf]
      · have h1 : ¬ hK a < hK b := by omega
        have Q : Hid (sg (hK a) (hK b) (sg (hS a) (hS b) (sg (hG a) (hG b) 0)) = 1) := by unfold sg; exact (if_neg h1).trans (if_pos h)
        go_wp2_with fail
        go_quiet (fail)
        go_wp2_with fail
        go_quiet (fail)
        go_wp2_with fail
        go_roundw
        case rel => exact ⟨(-1), 1, .inr (.inr (.inr ⟨rfl, Q.out.symm⟩)), rfl, by go_num, hbx.trans (below_drewN (Below.refl _ _) _)⟩
        case measure => simp [intOf]
    case inr.inr.inr =>
      have T := sg_all A.out B.out
      rw [← hq] at T
      clear hq
      rcases Int.lt_trichotomy a b with h | h | h
      · obtain rfl := T.1 h
        clear T
        have h1 : (a == b) = false := by simp; omega
        have MK := Lib.hid (fun n => quiet_left (make_ok (hK a) (hS a) (hG a) (wr.drewN n) A.out))
        have EQ := Lib.hid (HV_eq A.out)
        have bW := BX.out.trans (hbx.mono BX.out.size)
        have WK := Lib.hid (fun n => works_ok (wr.drewN n) (EE.out.below (below_drewN bW n)))
        have Z1 : (hK a * 1099511627776 + hS a * 1048576 + hG a == a) = true := by rw [← EQ.out]; simp
        go_wp2_with fail
        go_quiet ((go_at_call 9; exact MK.out _))
        go_wp2_with (go_at_call 12; refine (WK.out _).mono ?_; rintro e w1 ⟨rfl, hb1⟩)
        go_ret
        exact ⟨rfl, below_then (below_drewN bW _) hb1⟩
      · obtain rfl := T.2.1 h
        clear T
        have h1 : (a == b) = true := by simp [h]
        have h2 : decide (a < b) = false := by simp; omega
        have H := Lib.hid h; clear h
        have MK := Lib.hid (fun n => quiet_left (make_ok (hK a) (hS a) (hG a) (wr.drewN n) A.out))
        have EQ := Lib.hid (HV_eq A.out)
        have bW := BX.out.trans (hbx.mono BX.out.size)
        have WK := Lib.hid (fun n => works_ok (wr.drewN n) (EE.out.below (below_drewN bW n)))
        have Z1 : (hK a * 1099511627776 + hS a * 1048576 + hG a == a) = true := by rw [← EQ.out]; simp
        go_wp2_with fail
        go_quiet ((go_at_call 9; exact MK.out _))
        go_wp2_with (go_at_call 12; refine (WK.out _).mono ?_; rintro e w1 ⟨rfl, hb1⟩)
        go_ret
        exact ⟨rfl, below_then (below_drewN bW _) hb1⟩
      · obtain rfl := T.2.2 h
        clear T
        have h1 : (a == b) = false := by simp; omega
        have h2 : decide (a < b) = false := by simp; omega
        have MK := Lib.hid (fun n => quiet_left (make_ok (hK a) (hS a) (hG a) (wr.drewN n) A.out))
        have EQ := Lib.hid (HV_eq A.out)
        have bW := BX.out.trans (hbx.mono BX.out.size)
        have WK := Lib.hid (fun n => works_ok (wr.drewN n) (EE.out.below (below_drewN bW n)))
        have Z1 : (hK a * 1099511627776 + hS a * 1048576 + hG a == a) = true := by rw [← EQ.out]; simp
        go_wp2_with fail
        go_quiet ((go_at_call 9; exact MK.out _))
        go_wp2_with (go_at_call 12; refine (WK.out _).mono ?_; rintro e w1 ⟨rfl, hb1⟩)
        go_ret
        exact ⟨rfl, below_then (below_drewN bW _) hb1⟩

theorem handleOrder_walk (a : Int) (wa : -9223372036854775808 ≤ a ∧ a ≤ 9223372036854775807) (b : Int) (wb : -9223372036854775808 ≤ b ∧ b ≤ 9223372036854775807) (W : World) (E : Env W) :
    Calls Tryd.prog 6 #[.int .i64 a, .int .i64 b] W fun e w' => e = .returned (.bool true) ∧ Below W.heap.size W w' := by
  by_cases v : HV a ∧ HV b
  · exact order_ok a b W E v.1 v.2
  · exact order_bad a b W E v
end Go.Proofs.YtpnjedcijbpngaaDoor
