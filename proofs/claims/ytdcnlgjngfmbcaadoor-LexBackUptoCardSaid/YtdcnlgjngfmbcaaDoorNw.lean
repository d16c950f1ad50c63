/- works of the laws of layer 24. -/
import Derived.Test.YtdcnlgjngfmbcaaDoorNt
import Derived.Test.YtdcnlgjngfmbcaaDoorNc
import Derived.Test.YtdcnlgjngfmbcaaDoorNj
import Derived.Test.YtdcnlgjngfmbcaaDoorNo
import Derived.Test.YtdcnlgjngfmbcaaDoorLm
namespace Go.Proofs.YtdcnlgjngfmbcaaDoor
open Go Go.RowKit Go.Shelf
set_option linter.unusedVariables false
set_option linter.unusedSimpArgs false
set_option maxRecDepth 100000
set_option maxHeartbeats 3200000

theorem two_new {w : World} {a b : List UInt8} : CellsAt (w.alloc (.cells #[str a, str b] 9)) w.heap.size [a, b] := by
  unfold CellsAt
  show (w.heap.push _)[w.heap.size]? = _
  rw [Array.getElem?_push_size]
  rfl
theorem CellsAt.alloc {w : World} {B : Nat} {l : List (List UInt8)} (h : CellsAt w B l) (o : Obj) : CellsAt (w.alloc o) B l := by
  have lt := h.lt
  unfold CellsAt at h ⊢
  show (w.heap.push _)[B]? = _
  rw [Array.getElem?_push_lt lt, ← h]
  exact (Array.getElem?_eq_getElem lt).symm
theorem CellsAt.alloc_ {w : World} {B : Nat} {l : List (List UInt8)} {o : Obj} (h : CellsAt w B l) : CellsAt (w.alloc o) B l := h.alloc o
theorem lines_k : linesOf [97, 32, 32, 98, 32, 35, 32, 99, 10, 10, 32, 100] = ([(1, [[97], [98]]), (3, [[100]])], 0, 0) := by decide
theorem pair_k : pairS [51, 47, 49, 48] = ((3, 10), 0) := by decide
theorem num_k : numS [48, 55] = (0, 4) := by decide
theorem opt_k : optS [[100, 117, 101], [53]] [[99, 97, 112], [100, 117, 101]] = ([[], [53]], 0) := by decide
theorem join_k : joinS [[97], [98]] = ([97, 32, 98], 0) := by decide
theorem name_k1 : nmS [97, 95, 49] = true := by decide
theorem name_k2 : nmS [65] = false := by decide

theorem lines_w (W : World) (E : Env W) : Calls Tryd.prog 9 #[str [97, 32, 32, 98, 32, 35, 32, 99, 10, 10, 32, 100]] W fun e w' => ∃ v, e = .returned (.tuple #[v, .int .i64 0, .nilIface]) ∧ RL w' v [(1, [[97], [98]]), (3, [[100]])] ∧ Below W.heap.size W w' := by
  have := lines_any [97, 32, 32, 98, 32, 35, 32, 99, 10, 10, 32, 100] W E (by decide)
  rw [lines_k] at this
  exact this
theorem pair_w (W : World) (E : Env W) : Calls Tryd.prog 22 #[str [51, 47, 49, 48]] W fun e w' => e = .returned (.tuple #[rsv 3 10, .nilIface]) ∧ Below W.heap.size W w' := by
  have := pair_any [51, 47, 49, 48] W E (by decide)
  rw [pair_k] at this
  exact this
theorem num_w (W : World) : Calls Tryd.prog 20 #[str [48, 55]] W fun e w' => e = .returned (.tuple #[.int .i64 0, errN 4]) ∧ Below W.heap.size W w' := by
  have := num_l [48, 55] W (by decide)
  rw [num_k] at this
  exact this
theorem opt_w (W : World) (A B : Nat) (hA : CellsAt W A [[100, 117, 101], [53]]) (hB : CellsAt W B [[99, 97, 112], [100, 117, 101]]) :
    Calls Tryd.prog 17 #[.slice (some ⟨A, 0, none⟩) 2 2, .slice (some ⟨B, 0, none⟩) 2 2] W fun e w' => ∃ u, e = .returned (.tuple #[u, .nilIface]) ∧ RS w' u [[], [53]] ∧ Below W.heap.size W w' := by
  have := options_any [[100, 117, 101], [53]] [[99, 97, 112], [100, 117, 101]] _ _ W hA.rs hB.rs (by decide) (by decide)
  rw [opt_k] at this
  exact this
theorem join_w (W : World) (A : Nat) (hA : CellsAt W A [[97], [98]]) : Calls Tryd.prog 15 #[.slice (some ⟨A, 0, none⟩) 2 2] W fun e w' => e = .returned (.tuple #[str [97, 32, 98], .nilIface]) ∧ Below W.heap.size W w' := by
  have := join_any [[97], [98]] _ W hA.rs (by decide) (by
    intro k hk
    match k, hk with
    | 0, _ => decide
    | 1, _ => decide) (by decide)
  rw [join_k] at this
  exact this
theorem name_w1 (W : World) : Calls Tryd.prog 26 #[str [97, 95, 49]] W fun e w' => e = .returned (.bool true) ∧ Below W.heap.size W w' := by
  have := name_any ⟨[97, 95, 49].toArray⟩ W (by decide)
  rw [show nmS (⟨[97, 95, 49].toArray⟩ : ByteArray).data.toList = true from name_k1] at this
  exact this
theorem name_w2 (W : World) : Calls Tryd.prog 26 #[str [65]] W fun e w' => e = .returned (.bool false) ∧ Below W.heap.size W w' := by
  have := name_any ⟨[65].toArray⟩ W (by decide)
  rw [show nmS (⟨[65].toArray⟩ : ByteArray).data.toList = false from name_k2] at this
  exact this
theorem eqR (w : World) : (binOp BinOp.eql 56 (rsv 3 10) (rsv 3 10)).run Tryd.prog w = .ok (.bool true) w := by kernel_rfl
theorem eqN (w : World) : (binOp BinOp.eql 24 .nilIface .nilIface).run Tryd.prog w = .ok (.bool true) w := by kernel_rfl
theorem works_c (W : World) (E : Env W) : Calls Tryd.prog 13 #[] W fun e w' => e = .returned (.bool true) ∧ Below W.heap.size W w' := by
  have EE := Lib.hid E
  clear E
  have LW := Lib.hid lines_w
  have PW := Lib.hid pair_w
  have NW := Lib.hid num_w
  have OW := Lib.hid opt_w
  have JW := Lib.hid join_w
  have N1 := Lib.hid name_w1
  have N2 := Lib.hid name_w2
  have NE := Lib.hid (num_err 4)
  have qR := eqR
  have qN := eqN
  go_enter Tryd.func13, Tryd.ntmps13
  go_wp2_with fail
  refine (LW.out W EE.out).mono ?_
  rintro e w1 ⟨v1, rfl, rl1, be1⟩
  have RL1 := Lib.hid rl1
  have BE1 := Lib.hid be1
  clear rl1 be1 LW
  go_wp2_with fail
  refine (PW.out w1 (EE.out.below BE1.out)).mono ?_
  rintro e w2 ⟨rfl, be2⟩
  have BE2 := Lib.hid be2
  clear be2 PW
  go_wp2_with fail
  refine (NW.out _).mono ?_
  rintro e w3 ⟨rfl, be3⟩
  have CP : Hid (w3.heap[w2.heap.size]? = some (.cells #[.int .i64 3, .int .i64 10] 56)) := Lib.hid (by
    have h : (w2.alloc (.cells #[.int .i64 3, .int .i64 10] 56)).heap[w2.heap.size]? = some (.cells #[.int .i64 3, .int .i64 10] 56) := by
      show (w2.heap.push _)[w2.heap.size]? = _
      exact Array.getElem?_push_size
    exact (be3.block _ (two_lt h)).trans h)
  have BE3 : Hid (Below w2.heap.size w2 w3) := Lib.hid (((Below.refl _ _).alloc (Nat.le_refl _) _).trans (be3.mono (by simp)))
  clear be3 NW
  go_wp2_with fail
  have SZ : ∀ (w : World) (o : Obj), (w.alloc o).heap.size = w.heap.size + 1 := fun w o => by simp
  refine (OW.out _ _ _ two_new.alloc_ ?_).mono ?_
  · have h := two_new (w := w3.alloc (.cells #[str [100, 117, 101], str [53]] 9)) (a := [99, 97, 112]) (b := [100, 117, 101])
    rw [SZ] at h
    exact h
  rintro e w4 ⟨u, rfl, rs4, be4⟩
  have BE4 : Hid (Below w3.heap.size w3 w4) := Lib.hid ((((Below.refl _ _).alloc (Nat.le_refl _) _).alloc (by simp) _).trans (be4.mono (by simp; omega)))
  obtain ⟨pu, cu, rfl, hru⟩ := RS.out rs4
  have RU := Lib.hid hru
  clear rs4 be4 OW hru SZ
  go_wp2_with fail
  refine (JW.out _ _ two_new).mono ?_
  rintro e w5 ⟨rfl, be5⟩
  have BE5 : Hid (Below w4.heap.size w4 w5) := Lib.hid (((Below.refl _ _).alloc (Nat.le_refl _) _).trans (be5.mono (by simp)))
  clear be5 JW
  have B35 : Below w3.heap.size w3 w5 := BE4.out.trans (BE5.out.mono BE4.out.size)
  have B25 : Below w2.heap.size w2 w5 := BE3.out.trans (B35.mono BE3.out.size)
  have B15 : Below w1.heap.size w1 w5 := BE2.out.trans (B25.mono BE2.out.size)
  have BW5 := Lib.hid (BE1.out.trans (B15.mono BE1.out.size))
  have c5 := (B35.block _ (two_lt CP.out)).trans CP.out
  have k0 := two_c0 c5
  have k1 := two_c1 c5
  have rl5 := RL1.out.below B15
  obtain ⟨p1, q1, rfl, hr1⟩ := rl5
  obtain ⟨b, o, x0, rfl, _, _, f1, rs1⟩ := hr1 0 (by decide)
  obtain ⟨_, _, x1, hpe, _, f2, _, _⟩ := hr1 1 (by decide)
  cases hpe
  obtain ⟨px, cx, rfl, hrx⟩ := RS.out rs1
  obtain ⟨b', o', rfl, _, f3⟩ := hrx 1 (by decide)
  obtain ⟨bu, ou, rfl, hlu, f4⟩ := RU.out 0 (by decide)
  obtain ⟨_, _, hpe, _, f5⟩ := RU.out 1 (by decide)
  cases hpe
  replace f4 := (BE5.out.cell (p := ⟨bu, ou + 0, none⟩) hlu).trans f4
  replace f5 := (BE5.out.cell (p := ⟨bu, ou + 1, none⟩) hlu).trans f5
  replace f1 : w5.cell? ⟨b, o + 1, none⟩ = some (.slice (some ⟨b', o', none⟩) 2 cx) := by simpa using f1
  replace f2 : w5.cell? ⟨b, o + 2, none⟩ = some (.int .i64 3) := by simpa using f2
  replace f3 : w5.cell? ⟨b', o' + 1, none⟩ = some (str [98]) := by simpa using f3
  replace f4 : w5.cell? ⟨bu, ou, none⟩ = some (str []) := by simpa using f4
  replace f5 : w5.cell? ⟨bu, ou + 1, none⟩ = some (str [53]) := by simpa using f5
  clear B35 B25 B15 c5 hr1 rs1 hrx RL1 CP BE1 BE2 BE3 BE4 BE5 RU hlu
  go_wp2_with fail
  refine (NE.out _).mono ?_
  rintro e w' ⟨rfl, rfl⟩
  go_wp2_with fail
  refine (N1.out _).mono ?_
  rintro e w6 ⟨rfl, be6⟩
  have B6 := Lib.hid (BW5.out.trans (be6.mono BW5.out.size))
  clear be6 BW5 f1 f2 f3 f4 f5 k0 k1
  go_wp2_with fail
  refine (N2.out _).mono ?_
  rintro e w7 ⟨rfl, be7⟩
  have B7 := Lib.hid (B6.out.trans (be7.mono B6.out.size))
  clear be7 B6
  go_wp2_with fail
  go_ret
  exact ⟨rfl, B7.out⟩
end Go.Proofs.YtdcnlgjngfmbcaaDoor
