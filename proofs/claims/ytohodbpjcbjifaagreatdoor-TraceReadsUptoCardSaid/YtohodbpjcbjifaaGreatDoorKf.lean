/- Text of the reference of layer 19 at every mark. -/
import Derived.Test.YtohodbpjcbjifaaGreatDoorKe
import Derived.Test.YtohodbpjcbjifaaGreatDoorRt
namespace Go.Proofs.YtohodbpjcbjifaaGreatDoor
open Go Go.RowKit Go.Shelf Go.Sort
set_option linter.unusedVariables false
set_option linter.unusedSimpArgs false
set_option maxRecDepth 100000
set_option maxHeartbeats 3200000

theorem rdig_c (n : Int) (h0 : 0 ≤ n) (h1 : n ≤ 1073741824) (W : World) :
    Calls Tryz.prog 17 #[.int .i64 n] W fun e w' => e = .returned (str (Lib.itoa n)) ∧ Below W.heap.size W w' := by
  have := rdigits01 n.toNat (by omega) W
  rw [show ((n.toNat : Nat) : Int) = n by omega] at this
  refine this.mono ?_
  rintro e w' ⟨rfl, rfl⟩
  exact ⟨by rw [itoa_nat n h0], Below.refl _ _⟩
theorem rword_b (k : Int) (h : 1 ≤ k ∧ k ≤ 9) (W : World) : Calls Tryz.prog 18 #[.int .i64 k] W fun e w' => e = .returned (str (wordS k)) ∧ Below W.heap.size W w' :=
  (rword_c k h W).mono fun _ _ ⟨a, b⟩ => ⟨a, b ▸ Below.refl _ _⟩
theorem rtext0_no (m : Mk) (W : World) (h : ¬ Ok0 m) : Calls Tryz.prog 6 #[m.val] W fun e w' => e = .returned (str (mText m)) ∧ Below W.heap.size W w' := by
  have e : mText m = [] := if_neg h
  rw [e]
  clear e
  have VF := Lib.hid (fun w => rvalid0_f m w h)
  obtain ⟨t, k, hh, j, n⟩ := m
  simp only [Mk.val] at VF
  clear h
  simp only [Mk.val]
  go_enter Tryz.func6, Tryz.ntmps6
  go_wp2_with fail
  refine (VF.out _).mono ?_
  rintro e w1 ⟨rfl, b1⟩
  go_wp2_with fail
  go_ret
  exact ⟨rfl, ((Below.refl _ _).alloc (Nat.le_refl _) _).trans (b1.mono (by simp))⟩
theorem join5 (a b c d e : List UInt8) : ((((((((⟨a.toArray⟩ : ByteArray) ++ (⟨#[32]⟩ : ByteArray)) ++ ⟨b.toArray⟩) ++ ⟨#[32]⟩) ++ ⟨c.toArray⟩) ++ ⟨#[32]⟩) ++ ⟨d.toArray⟩) ++ ⟨#[32]⟩) ++ ⟨e.toArray⟩ = ⟨(Lib.join [a, b, c, d, e] [32]).toArray⟩ := by
  apply ByteArray.ext
  rw [Lib.join_cons]
  simp [ByteArray.data_append, tail_consC, show Lib.joinTail [32] [] = [] from rfl]
theorem rtext0_yes (m : Mk) (W : World) (h : Ok0 m) : Calls Tryz.prog 6 #[m.val] W fun e w' => e = .returned (str (mText m)) ∧ Below W.heap.size W w' := by
  have HR : Hid (mText m = Lib.join (mComps m) [32]) := Lib.hid (if_pos h)
  have VT := Lib.hid (fun w => rvalid0 m w h)
  obtain ⟨t, k, hh, j, n⟩ := m
  simp only [Mk.val] at VT
  obtain ⟨⟨t0, t1⟩, hk, h0, hj, n0, n1⟩ := h
  simp only at t0 t1 n0 n1 hk h0 hj
  obtain ⟨w0, hw0⟩ : ∃ w0, w0 = W.alloc (.cells #[.int .i64 t, .int .i64 k, .int .i64 hh, .int .i64 j, .int .i64 n] 24) := ⟨_, rfl⟩
  have b0 : Below W.heap.size W w0 := by rw [hw0]; exact (Below.refl _ _).alloc (Nat.le_refl _) _
  have c0 : w0.heap[W.heap.size]? = some (.cells #[.int .i64 t, .int .i64 k, .int .i64 hh, .int .i64 j, .int .i64 n] 24) := by rw [hw0]; show (W.heap.push _)[W.heap.size]? = _; exact Array.getElem?_push_size
  have HW := Lib.hid hw0
  have B0 := Lib.hid b0
  have C0 := Lib.hid c0
  have DT := Lib.hid (fun w => rdig_c t t0 t1 w)
  have DN := Lib.hid (fun w => rdig_c n n0 n1 w)
  have DW := Lib.hid (fun w => rword_b k hk w)
  have la := Lib.itoa_length_le t (by omega) (by omega)
  have lb := Lib.itoa_length_le n (by omega) (by omega)
  have lw := word_len k
  have lh := hText_len h0
  have lj := hText_len hj
  clear hw0 b0 c0 hk h0 hj
  simp only [Mk.val]
  go_enter Tryz.func6, Tryz.ntmps6
  go_wp2_with fail
  rw [← HW.out]
  refine (VT.out _).mono ?_
  rintro e w1 ⟨rfl, b1⟩
  have B1 := Lib.hid (B0.out.trans (b1.mono B0.out.size))
  have C1 : w1.heap[W.heap.size]? = some (.cells #[.int .i64 t, .int .i64 k, .int .i64 hh, .int .i64 j, .int .i64 n] 24) := (b1.block _ (Array.getElem?_eq_some_iff.1 C0.out).1).trans C0.out
  have k0 : ∀ d os, (grow (redrawn w1 d) os).cell? ⟨W.heap.size, 0, none⟩ = some (.int .i64 t) := fun d os => cell_regrown (by simp [World.cell?, C1]) d os
  have k1 : ∀ d os, (grow (redrawn w1 d) os).cell? ⟨W.heap.size, 1, none⟩ = some (.int .i64 k) := fun d os => cell_regrown (by simp [World.cell?, C1]) d os
  have k2 : ∀ d os, (grow (redrawn w1 d) os).cell? ⟨W.heap.size, 2, none⟩ = some (.int .i64 hh) := fun d os => cell_regrown (by simp [World.cell?, C1]) d os
  have k3 : ∀ d os, (grow (redrawn w1 d) os).cell? ⟨W.heap.size, 3, none⟩ = some (.int .i64 j) := fun d os => cell_regrown (by simp [World.cell?, C1]) d os
  have k4 : ∀ d os, (grow (redrawn w1 d) os).cell? ⟨W.heap.size, 4, none⟩ = some (.int .i64 n) := fun d os => cell_regrown (by simp [World.cell?, C1]) d os
  have D0 := Lib.hid (fun d os => Calls.regrown_of (DT.out (grow (redrawn w1 d) os)))
  have D1 := Lib.hid (fun d os => Calls.regrown_of (DW.out (grow (redrawn w1 d) os)))
  have D2 := Lib.hid (fun d os => Calls.regrown_of (rtext_any (h := hh) (grow (redrawn w1 d) os)))
  have D3 := Lib.hid (fun d os => Calls.regrown_of (rtext_any (h := j) (grow (redrawn w1 d) os)))
  have D4 := Lib.hid (fun d os => Calls.regrown_of (DN.out (grow (redrawn w1 d) os)))
  have HR2 : Hid (mText ⟨t, k, hh, j, n⟩ = Lib.join [Lib.itoa t, wordS k, hText hh, hText j, Lib.itoa n] [32]) := HR
  clear C1 b1 DT DW DN HR
  generalize Lib.itoa t = a at *
  generalize wordS k = b at *
  generalize hText hh = c at *
  generalize hText j = d at *
  generalize Lib.itoa n = e at *
  have n1' : ¬ 9223372036854775807 < a.length + 1 := by omega
  have n2 : ¬ 9223372036854775807 < a.length + 1 + b.length := by omega
  have n3 : ¬ 9223372036854775807 < a.length + 1 + b.length + 1 := by omega
  have n4 : ¬ 9223372036854775807 < a.length + 1 + b.length + 1 + c.length := by omega
  have n5 : ¬ 9223372036854775807 < a.length + 1 + b.length + 1 + c.length + 1 := by omega
  have n6 : ¬ 9223372036854775807 < a.length + 1 + b.length + 1 + c.length + 1 + d.length := by omega
  have n7 : ¬ 9223372036854775807 < a.length + 1 + b.length + 1 + c.length + 1 + d.length + 1 := by omega
  have n8 : ¬ 9223372036854775807 < a.length + 1 + b.length + 1 + c.length + 1 + d.length + 1 + e.length := by omega
  clear la lb lw lh lj
  go_wp2_with fail
  refine wp_region_quiet_below (by kernel_rfl) (by kernel_rfl) ?_
  repeat (quiet_step (first | with_reducible exact D0.out _ _ | with_reducible exact D1.out _ _ | with_reducible exact D2.out _ _ | with_reducible exact D3.out _ _ | with_reducible exact D4.out _ _))
  refine wpQuiet_nil ?_
  intro _ hw'
  obtain ⟨⟨dq, osq⟩, rfl⟩ := hw'
  have B2 := Lib.hid (B1.out.trans ((below_regrown w1 dq osq).mono B1.out.size))
  generalize grow (redrawn w1 dq) osq = w2 at *
  go_wp2_with fail
  go_ret
  exact ⟨by rw [HR2.out]; exact congrArg (fun s => Ending.returned (Value.string s)) (join5 a b c d e), B2.out⟩
theorem rtext0_c (m : Mk) (W : World) : Calls Tryz.prog 6 #[m.val] W fun e w' => e = .returned (str (mText m)) ∧ Below W.heap.size W w' := by
  by_cases h : Ok0 m
  · exact rtext0_yes m W h
  · exact rtext0_no m W h
end Go.Proofs.YtohodbpjcbjifaaGreatDoor
