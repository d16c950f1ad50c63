/- trace.word, trace.Text at every mark. -/
import Derived.Test.YtohodbpjcbjifaaGreatDoorKa
import Derived.Test.YtohodbpjcbjifaaGreatDoorQt
import Derived.Test.YtohodbpjcbjifaaGreatDoorSj
import Derived.Outline
namespace Go.Proofs.YtohodbpjcbjifaaGreatDoor
open Go Go.RowKit Go.Shelf Go.Sort
set_option linter.unusedVariables false
set_option linter.unusedSimpArgs false
set_option maxRecDepth 100000
set_option maxHeartbeats 1600000

theorem word_s (k : Int) (W : World) : Calls Tryz.prog 15 #[.int .i64 k] W fun e w' => e = .returned (str (wordS k)) ∧ Below W.heap.size W w' := by
  by_cases h : 1 ≤ k ∧ k ≤ 9
  · have hk : k = 1 ∨ k = 2 ∨ k = 3 ∨ k = 4 ∨ k = 5 ∨ k = 6 ∨ k = 7 ∨ k = 8 ∨ k = 9 := by omega
    clear h
    rcases hk with rfl | rfl | rfl | rfl | rfl | rfl | rfl | rfl | rfl
    all_goals
      go_enter Tryz.func15, Tryz.ntmps15
      go_wp2
      go_ret
      exact ⟨rfl, (Below.refl _ _).alloc (Nat.le_refl _) _⟩
  · have e : wordS k = [] := by
      unfold wordS
      repeat' split
      all_goals first | rfl | omega
    rw [e]
    exact word_none k h W
theorem text_no (m : Mk) (W : World) (h : ¬ Ok0 m) : Calls Tryz.prog 5 #[m.val] W fun e w' => e = .returned (str (mText m)) ∧ Below W.heap.size W w' := by
  have e : mText m = [] := if_neg h
  rw [e]
  clear e
  have VF := Lib.hid (fun w => valid0_f m w h)
  obtain ⟨t, k, hh, j, n⟩ := m
  simp only [Mk.val] at VF
  clear h
  simp only [Mk.val]
  go_enter Tryz.func5, Tryz.ntmps5
  go_wp2_with fail
  refine (VF.out _).mono ?_
  rintro e w1 ⟨rfl, b1⟩
  go_wp2_with fail
  go_ret
  exact ⟨rfl, ((Below.refl _ _).alloc (Nat.le_refl _) _).trans (b1.mono (by simp))⟩
/-- A region that draws its order, with such a tail; the calls of its head make memory. -/
theorem region_below_tail {P : Program} {id : Nat} {Q : Exit → Act → World → Prop} {a : Act} {w : World} {l : List Oper} (n : Nat) (hm : P.follows .mixedOrders = true) (hB : Region.lexTailB .any l.toArray n = true)
    (h : wpQuiet P l.toArray (fun w' => ∃ p : Regrown, w' = grow (redrawn w p.d) p.os) (fun a' => ∀ w', (∃ p : Regrown, w' = grow (redrawn w p.d) p.os) → wpList P l.toArray Q (l.drop n) a' w') (l.take n) a) : (Code.region id l.toArray true).wp P Q a w :=
  region_quiet_tail (C := fun w' => ∃ p : Regrown, w' = grow (redrawn w p.d) p.os) n hm hB ⟨⟨w.drawn + 1, #[]⟩, by rw [grow_empty]; rfl⟩ h
theorem word_len (k : Int) : (wordS k).length ≤ 6 := by
  unfold wordS
  repeat' split
  all_goals decide
theorem hText_len {h : Int} (v : H0 h) : (hText h).length ≤ 32 := by
  rcases v with rfl | v
  · decide
  · obtain ⟨a, b, e, _, _, _, _, _, _, la, lb, _, _⟩ := text_form v
    rw [e]; simp; omega
theorem text_yes (m : Mk) (W : World) (E : Env W) (h : Ok0 m) : Calls Tryz.prog 5 #[m.val] W fun e w' => e = .returned (str (mText m)) ∧ Below W.heap.size W w' := by
  have HR : Hid (mText m = Lib.join (mComps m) [32]) := Lib.hid (if_pos h)
  have VT := Lib.hid (fun w => valid0 m w h)
  obtain ⟨t, k, hh, j, n⟩ := m
  simp only [Mk.val] at VT
  obtain ⟨⟨t0, t1⟩, hk, h0, hj, n0, n1⟩ := h
  simp only at t0 t1 n0 n1
  obtain ⟨w0, hw0⟩ : ∃ w0, w0 = W.alloc (.cells #[.int .i64 t, .int .i64 k, .int .i64 hh, .int .i64 j, .int .i64 n] 24) := ⟨_, rfl⟩
  have b0 : Below W.heap.size W w0 := by rw [hw0]; exact (Below.refl _ _).alloc (Nat.le_refl _) _
  have c0 : w0.heap[W.heap.size]? = some (.cells #[.int .i64 t, .int .i64 k, .int .i64 hh, .int .i64 j, .int .i64 n] 24) := by rw [hw0]; show (W.heap.push _)[W.heap.size]? = _; exact Array.getElem?_push_size
  have HW := Lib.hid hw0
  have B0 := Lib.hid b0
  have C0 := Lib.hid c0
  have EE := Lib.hid E
  clear E hw0 b0 c0 hk
  simp only [Mk.val]
  go_enter Tryz.func5, Tryz.ntmps5
  go_wp2_with fail
  rw [← HW.out]
  refine (VT.out _).mono ?_
  rintro e w1 ⟨rfl, b1⟩
  have B1 := Lib.hid (B0.out.trans (b1.mono B0.out.size))
  have C1 : w1.heap[W.heap.size]? = some (.cells #[.int .i64 t, .int .i64 k, .int .i64 hh, .int .i64 j, .int .i64 n] 24) := (b1.block _ (Array.getElem?_eq_some_iff.1 C0.out).1).trans C0.out
  have E1 := EE.out.below B1.out
  have k0 : ∀ d os, (grow (redrawn w1 d) os).cell? ⟨W.heap.size, 0, none⟩ = some (.int .i64 t) := fun d os => cell_regrown (by simp [World.cell?, C1]) d os
  have k1 : ∀ d os, (grow (redrawn w1 d) os).cell? ⟨W.heap.size, 1, none⟩ = some (.int .i64 k) := fun d os => cell_regrown (by simp [World.cell?, C1]) d os
  have k2 : ∀ d os, (grow (redrawn w1 d) os).cell? ⟨W.heap.size, 2, none⟩ = some (.int .i64 hh) := fun d os => cell_regrown (by simp [World.cell?, C1]) d os
  have k3 : ∀ d os, (grow (redrawn w1 d) os).cell? ⟨W.heap.size, 3, none⟩ = some (.int .i64 j) := fun d os => cell_regrown (by simp [World.cell?, C1]) d os
  have k4 : ∀ d os, (grow (redrawn w1 d) os).cell? ⟨W.heap.size, 4, none⟩ = some (.int .i64 n) := fun d os => cell_regrown (by simp [World.cell?, C1]) d os
  have D0 := Lib.hid (fun d os => Calls.regrown_of (itoa_c t (by omega) (by omega) _ (E1.below (below_regrown w1 d os))))
  have D1 := Lib.hid (fun d os => Calls.regrown_of (word_s k (grow (redrawn w1 d) os)))
  have D2 := Lib.hid (fun d os => Calls.regrown_of (text_any (h := hh) _ (E1.below (below_regrown w1 d os))))
  have D3 := Lib.hid (fun d os => Calls.regrown_of (text_any (h := j) _ (E1.below (below_regrown w1 d os))))
  have D4 := Lib.hid (fun d os => Calls.regrown_of (itoa_c n (by omega) (by omega) _ (E1.below (below_regrown w1 d os))))
  have SJ := Lib.hid (fun w => sjoin_s (mComps ⟨t, k, hh, j, n⟩) _ _ (RS_new w 9 (mComps ⟨t, k, hh, j, n⟩) (by simp [mComps])) (by simp [mComps]) (by
    have := Lib.itoa_length_le t (by omega) (by omega)
    have := Lib.itoa_length_le n (by omega) (by omega)
    have := word_len k
    have := hText_len h0
    have := hText_len hj
    rw [mComps, Lib.join_cons]
    simp only [tail_consC, List.length_append, List.length_cons, show Lib.joinTail [32] [] = [] from rfl, List.length_nil]
    omega))
  clear E1 C1 b1 h0 hj
  go_wp2_with fail
  refine region_below_tail 15 (by kernel_rfl) (by kernel_rfl) ?_
  repeat (quiet_step (first | with_reducible exact D0.out _ _ | with_reducible exact D1.out _ _ | with_reducible exact D2.out _ _ | with_reducible exact D3.out _ _ | with_reducible exact D4.out _ _))
  refine wpQuiet_nil ?_
  intro _ hw'
  obtain ⟨⟨dq, osq⟩, rfl⟩ := hw'
  have B2 := Lib.hid (B1.out.trans ((below_regrown w1 dq osq).mono B1.out.size))
  generalize grow (redrawn w1 dq) osq = w2 at *
  simp only [List.drop_succ_cons, List.drop_zero]
  go_wp2_with fail
  refine (SJ.out w2).mono ?_
  rintro e w3 ⟨rfl, b3⟩
  have B3 := Lib.hid (B2.out.trans (((Below.refl _ _).alloc (Nat.le_refl _) _).trans (b3.mono (by simp))|>.mono B2.out.size))
  clear b3
  go_wp2_with fail
  go_ret
  exact ⟨by rw [HR.out]; rfl, B3.out⟩
theorem text_c (m : Mk) (W : World) (E : Env W) : Calls Tryz.prog 5 #[m.val] W fun e w' => e = .returned (str (mText m)) ∧ Below W.heap.size W w' := by
  by_cases h : Ok0 m
  · exact text_yes m W E h
  · exact text_no m W h
end Go.Proofs.YtohodbpjcbjifaaGreatDoor
