/- The walk of LexWords, where the text is short. -/
import Derived.Test.YtdcnlgjngfmbcaaDoorNw
import Derived.Test.YtdcnlgjngfmbcaaDoorNx
import Derived.Test.YtdcnlgjngfmbcaaDoorNy
import Derived.Test.YtdcnlgjngfmbcaaDoorNu
import Derived.Laws.StructEq
namespace Go.Proofs.YtdcnlgjngfmbcaaDoor
open Go Go.RowKit Go.Shelf
set_option linter.unusedVariables false
set_option linter.unusedSimpArgs false
set_option maxRecDepth 100000
set_option maxHeartbeats 1600000

theorem eqRv (q p : Int) (w : World) : (binOp BinOp.eql 56 (rsv q p) (rsv q p)).run Tryd.prog w = .ok (.bool true) w := by
  have p1 : Tryd.prog.stoodInHeld 56 = false := by kernel_rfl
  have p2 : Tryd.prog.underlying 56 = some (.struct (Tryd.prog.fieldsOf 56)) := rfl
  rw [run_eql_struct, run_equalIn_struct w 9999 _ _ _ p2 p1]
  simp [go_sem, Tryd.underlying56, Tryd.underlying3]
theorem path_len (l : List UInt8) : (pathS l).1.length ≤ 8 := by
  unfold pathS
  split
  · simp
  · split
    · simp
    · split
      · show (splitC 47 [] l).length ≤ 8
        omega
      · simp
theorem lexWords_walk (s : ByteArray) (hs : s.size ≤ 1048576) (W : World) (E : Env W) :
    Calls Tryd.prog 7 #[.string s] W fun e w' => e = .returned (.bool true) ∧ Below W.heap.size W w' := by
  obtain ⟨l, rfl⟩ : ∃ l : List UInt8, s = ⟨l.toArray⟩ := ⟨_, of_str s⟩
  rw [sz] at hs
  have EE := Lib.hid E
  have C1 := Lib.hid (num_l l W (by omega))
  have C2 := Lib.hid (fun w => (show Calls Tryd.prog 21 #[str l] w (fun e w' => e = .returned (.tuple #[.int .i64 (numS l).1, .int .i64 (numS l).2]) ∧ w = w') from rnum_any ⟨l.toArray⟩ w (by rw [sz]; omega)))
  have C3 := Lib.hid (fun w (h : Env w) => pair_any l w h (by omega))
  have C4 := Lib.hid (fun w => rpair_any l w hs)
  have C5 := Lib.hid (fun w (h : Env w) => path_any l w h (by omega))
  have C6 := Lib.hid (fun w => rpath_any l w (by omega))
  have C7 := Lib.hid (fun w => (show Calls Tryd.prog 26 #[str l] w (fun e w' => e = .returned (.bool (nmS l)) ∧ Below w.heap.size w w') from name_any ⟨l.toArray⟩ w (by rw [sz]; omega)))
  have C8 := Lib.hid (fun w => (show Calls Tryd.prog 27 #[str l] w (fun e w' => e = .returned (.bool (nmS l)) ∧ w = w') from rname_any ⟨l.toArray⟩ w (by rw [sz]; omega)))
  have TX := Lib.hid (fun a b w (h : RS w a (pathS l).1) (h2 : RS w b (pathS l).1) => texts_s _ a b w h h2 (by have := path_len l; omega))
  have WC := Lib.hid works_c
  have NO := Lib.hid num_of
  have QR := Lib.hid (eqRv (pairS l).1.1 (pairS l).1.2)
  clear E hs
  generalize numS l = N at *
  generalize pairS l = PR at *
  generalize pathS l = PA at *
  generalize nmS l = nm at *
  go_enter Tryd.func7, Tryd.ntmps7
  go_wp2_with fail
  refine C1.out.mono ?_
  rintro e w1 ⟨rfl, b1⟩
  have B1 := Lib.hid b1
  clear b1 C1
  go_wp2_with fail
  refine (C2.out _).mono ?_
  rintro e w' ⟨rfl, rfl⟩
  go_wp2_with fail
  refine (C3.out _ (EE.out.below B1.out)).mono ?_
  rintro e w2 ⟨rfl, b2⟩
  have B2 := Lib.hid (B1.out.trans (b2.mono B1.out.size))
  clear b2 C2 C3 B1
  go_wp2_with fail
  refine (C4.out _).mono ?_
  rintro e w3 ⟨rfl, b3⟩
  have h7 : (w2.alloc (.cells #[.int .i64 PR.1.1, .int .i64 PR.1.2] 56)).heap[w2.heap.size]? = some (.cells #[.int .i64 PR.1.1, .int .i64 PR.1.2] 56) := by
    show (w2.heap.push _)[w2.heap.size]? = _
    exact Array.getElem?_push_size
  have K7 := Lib.hid ((b3.block _ (two_lt h7)).trans h7)
  have B23 : Hid (Below w2.heap.size w2 w3) := Lib.hid (((Below.refl _ _).alloc (Nat.le_refl _) _).trans (b3.mono (by simp)))
  have B3 := Lib.hid (B2.out.trans (B23.out.mono B2.out.size))
  clear b3 h7 C4
  have hA3 : Hid (Below w3.heap.size w3 (w3.alloc (.cells #[.int .i64 PR.1.1, .int .i64 PR.1.2] 56))) := Lib.hid ((Below.refl _ _).alloc (Nat.le_refl _) _)
  have EA := Lib.hid (EE.out.below (B3.out.trans (hA3.out.mono B3.out.size)))
  go_wp2_with fail
  refine (C5.out _ EA.out).mono ?_
  rintro e w4 ⟨v1, rfl, r1, b4⟩
  have h9 : (w3.alloc (.cells #[.int .i64 PR.1.1, .int .i64 PR.1.2] 56)).heap[w3.heap.size]? = some (.cells #[.int .i64 PR.1.1, .int .i64 PR.1.2] 56) := by
    show (w3.heap.push _)[w3.heap.size]? = _
    exact Array.getElem?_push_size
  have K9 := Lib.hid ((b4.block _ (two_lt h9)).trans h9)
  have B34 : Hid (Below w3.heap.size w3 w4) := Lib.hid (hA3.out.trans (b4.mono (by simp)))
  have R1 := Lib.hid r1
  clear b4 h9 r1 C5 hA3 EA
  go_wp2_with fail
  refine (C6.out _).mono ?_
  rintro e w5 ⟨v2, rfl, r2, b5⟩
  have B45 := Lib.hid b5
  have R2 := Lib.hid r2
  clear b5 r2 C6
  go_wp2_with fail
  refine (C7.out _).mono ?_
  rintro e w6 ⟨rfl, b6⟩
  have B46 := Lib.hid (B45.out.trans (b6.mono B45.out.size))
  have R26 := Lib.hid (R2.out.below b6)
  have R16 := Lib.hid (R1.out.below B46.out)
  have B36 := Lib.hid (B34.out.trans (B46.out.mono B34.out.size))
  have BW6 := Lib.hid (B3.out.trans (B36.out.mono B3.out.size))
  have c7 := (B36.out.block _ (two_lt K7.out)).trans K7.out
  have c9 := (B46.out.block _ (two_lt K9.out)).trans K9.out
  have k70 := two_c0 c7
  have k71 := two_c1 c7
  have k90 := two_c0 c9
  have k91 := two_c1 c9
  clear c7 c9 b6 B45 B46 B36 B34 B23 B2 B3 K7 K9 R1 R2 C7
  go_wp2_with fail
  refine (C8.out _).mono ?_
  rintro e w' ⟨rfl, rfl⟩
  have q1 : (nm == nm) = true := by simp
  have q2 : (N.1 == N.1) = true := by simp
  have q3 : (N.2 == N.2) = true := by simp
  have q4 : (PR.2 == PR.2) = true := by simp
  have q5 : (PA.2 == PA.2) = true := by simp
  have qr := QR.out
  go_wp2_with fail
  refine (NO.out _ _).mono ?_
  rintro e w' ⟨rfl, rfl⟩
  go_wp2_with fail
  refine (NO.out _ _).mono ?_
  rintro e w' ⟨rfl, rfl⟩
  go_wp2_with fail
  refine (TX.out v1 v2 _ R16.out R26.out).mono ?_
  rintro e w7 ⟨rfl, n7, rfl⟩
  have B7 : Hid (Below W.heap.size W (w6.drewN n7)) := Lib.hid (BW6.out.trans ((below_dr w6 n7).mono BW6.out.size))
  clear k70 k71 k90 k91 R16 R26 BW6 TX
  generalize w6.drewN n7 = w7 at *
  go_wp2_with fail
  refine (NO.out _ _).mono ?_
  rintro e w' ⟨rfl, rfl⟩
  go_wp2_with fail
  refine (WC.out _ (EE.out.below B7.out)).mono ?_
  rintro e w8 ⟨rfl, b8⟩
  have B8 := Lib.hid (B7.out.trans (b8.mono B7.out.size))
  clear b8 B7
  go_wp2_with fail
  go_ret
  exact ⟨rfl, B8.out⟩
end Go.Proofs.YtdcnlgjngfmbcaaDoor
