/- What is asked of an item of layer 25, both sides: its range, its depth, room, what is reserved. -/
import Derived.Test.YtophilmjfdhhaaaGreatDoorFj
namespace Go.Proofs.YtophilmjfdhhaaaGreatDoor
open Go Go.RowKit Go.Shelf Go.Sort
set_option linter.unusedVariables false
set_option linter.unusedSimpArgs false
set_option maxRecDepth 100000
set_option maxHeartbeats 1600000

def itR (x : It) : Bool := okR x.q x.p
def underG : List It → Int → Int
  | [], _ => 0
  | x :: r, a => (if x.par = a then shareI x.q x.p else 0) + underG r a
theorem underG_snoc (a : Int) (x : It) : ∀ l : List It, underG (l ++ [x]) a = underG l a + (if x.par = a then shareI x.q x.p else 0)
  | [] => by simp [underG]
  | y :: r => by
    show (if y.par = a then shareI y.q y.p else 0) + underG (r ++ [x]) a = (if y.par = a then shareI y.q y.p else 0) + underG r a + _
    rw [underG_snoc a x r, Int.add_assoc]
theorem underG_bounds (a : Int) : ∀ l : List It, (∀ x ∈ l, itR x = true) → 0 ≤ underG l a ∧ underG l a ≤ 1048576 * l.length
  | [], _ => by simp [underG]
  | y :: r, h => by
    have h1 := underG_bounds a r (fun x hx => h x (by simp [hx]))
    have h2 := share_bounds (h y (by simp))
    show 0 ≤ (if y.par = a then shareI y.q y.p else 0) + underG r a ∧ _ + underG r a ≤ _
    rw [List.length_cons]
    by_cases hp : y.par = a
    · rw [if_pos hp]; omega
    · rw [if_neg hp]; omega
theorem take_it {l : List It} {i : Nat} (hi : i < l.length) : l.take (i + 1) = l.take i ++ [l.getD i default] := by
  rw [List.take_succ_eq_append_getElem hi, List.getD, List.getElem?_eq_getElem hi]; rfl
theorem underG_at {l : List It} {i : Nat} (hi : i < l.length) (a : Int) : underG (l.take (i + 1)) a = underG (l.take i) a + (if (l.getD i default).par = a then shareI (l.getD i default).q (l.getD i default).p else 0) := by
  rw [take_it hi, underG_snoc]
theorem checkRange_c (l : List It) (v1 v2 : Value) (i : Nat) (W : World) (h : RT W v1 l) (hi : i < l.length) (hl : l.length ≤ 1000000000000) (hpl : (l.getD i default).pr.length ≤ 140737488355328) :
    Calls Tryz.prog 46 #[.agg #[v1, v2], .int .i64 i] W fun e w' => e = .returned (if itR (l.getD i default) && prOk (l.getD i default).pr then .nilIface else errN 2) ∧ Below W.heap.size W w' := by
  obtain ⟨w0, hw0⟩ : ∃ w0, w0 = W.alloc (trObj v1 v2) := ⟨_, rfl⟩
  have b0 : Below W.heap.size W w0 := by rw [hw0]; exact (Below.refl _ _).alloc (Nat.le_refl _) _
  have C : w0.heap[W.heap.size]? = some (trObj v1 v2) := by rw [hw0]; exact new_blk _
  have s0 : W.heap.size < w0.heap.size := by rw [hw0]; simp
  obtain ⟨p, c, rfl, hlc, hcm, hit⟩ := h.out
  obtain ⟨b, o, rfl, hbW, hit⟩ := hit (by omega)
  have c0 := two_a C
  have HW : Hid (w0 = W.alloc (trObj (.slice (some ⟨b, o, none⟩) l.length c) v2)) := Lib.hid hw0
  have B0 := Lib.hid b0
  have hx := hit i hi
  have x2 := hx.c2
  have x3 := hx.c3
  obtain ⟨u, x4, hu⟩ := hx.c4
  have VC := Lib.hid (valid_c (l.getD i default).q (l.getD i default).p w0)
  have HXB := Lib.hid (fun w1 (hb : Below w0.heap.size w0 w1) => (hb.cell (p := ⟨b, o + i * 5 + 4, none⟩) (Nat.lt_trans hbW s0)).trans ((b0.cell (p := ⟨b, o + i * 5 + 4, none⟩) hbW).trans x4))
  have HC0 := Lib.hid (fun w1 (hb : Below w0.heap.size w0 w1) => (hb.cell (p := ⟨W.heap.size, 0, none⟩) s0).trans c0)
  have PC := Lib.hid (fun w1 (hb : Below w0.heap.size w0 w1) => prios_c (l.getD i default).pr u w1 ((hu.below b0).below hb) hpl)
  have hib : (i : Int) ≤ 1000000000000 := by omega
  have hil : (i : Int) < (l.length : Int) := by omega
  unfold itR
  generalize (l.getD i default).q = q at *
  generalize (l.getD i default).p = pp at *
  generalize (l.getD i default).pr = pr at *
  have B01 := Lib.hid (Nat.le_of_lt s0)
  clear h hw0 b0 C hit hx hu x4 s0
  cases hr : okR q pp with
  | false =>
    rw [hr] at VC
    clear hr
    go_enter Tryz.func46, Tryz.ntmps46
    go_wp2_with (go_at_call 74; rw [← HW.out]; refine VC.out.mono ?_; rintro e w1 ⟨rfl, hb1⟩)
    go_ret
    exact ⟨rfl, B0.out.trans (hb1.mono B01.out)⟩
  | true =>
    rw [hr] at VC
    clear hr
    cases hp : prOk pr with
    | true =>
      rw [hp] at PC
      clear hp
      go_enter Tryz.func46, Tryz.ntmps46
      go_wp2_with (first | (go_at_call 74; rw [← HW.out]; refine VC.out.mono ?_; rintro e w1 ⟨rfl, hb1⟩; have c0' := HC0.out w1 hb1; have x4' := HXB.out w1 hb1) | (go_at_call 58; refine (PC.out w1 hb1).mono ?_; rintro e w2 ⟨rfl, rfl⟩))
      go_ret
      exact ⟨rfl, B0.out.trans (hb1.mono B01.out)⟩
    | false =>
      rw [hp] at PC
      clear hp
      go_enter Tryz.func46, Tryz.ntmps46
      go_wp2_with (first | (go_at_call 74; rw [← HW.out]; refine VC.out.mono ?_; rintro e w1 ⟨rfl, hb1⟩; have c0' := HC0.out w1 hb1; have x4' := HXB.out w1 hb1) | (go_at_call 58; refine (PC.out w1 hb1).mono ?_; rintro e w2 ⟨rfl, rfl⟩))
      go_ret
      exact ⟨rfl, B0.out.trans (hb1.mono B01.out)⟩
theorem checkDepth_c (l : List It) (v1 v2 : Value) (i : Nat) (W : World) (h : RT W v1 l) (hw : Wl l) (hi : i < l.length) (hl : l.length ≤ 1000000000000) :
    Calls Tryz.prog 47 #[.agg #[v1, v2], .int .i64 i] W fun e w' => e = .returned (if 8 < depS l i then errN 90 else .nilIface) ∧ Below W.heap.size W w' := by
  obtain ⟨w0, hw0⟩ : ∃ w0, w0 = W.alloc (trObj v1 v2) := ⟨_, rfl⟩
  have b0 : Below W.heap.size W w0 := by rw [hw0]; exact (Below.refl _ _).alloc (Nat.le_refl _) _
  have C : w0.heap[W.heap.size]? = some (trObj v1 v2) := by rw [hw0]; exact new_blk _
  have s0 : W.heap.size < w0.heap.size := by rw [hw0]; simp
  have DC := Lib.hid (depth_c l v1 v2 i w0 (h.below b0) hw (by omega) (by omega) hl)
  have c0 := two_a C
  have c1 := two_b C
  have HW : Hid (w0 = W.alloc (trObj v1 v2)) := Lib.hid hw0
  have B0 := Lib.hid b0
  have B01 := Lib.hid (Nat.le_of_lt s0)
  have hdl := depS_le hw i i (by omega) (by omega)
  have hdb : ((depS l i : Nat) : Int) ≤ 1000000000001 := by omega
  generalize depS l i = d at *
  clear h hw0 b0 C hdl hw s0
  by_cases hd : 8 < d
  · have hd' : (8 : Int) < (d : Int) := by omega
    rw [if_pos hd]
    clear hd
    go_enter Tryz.func47, Tryz.ntmps47
    go_wp2_with (go_at_call 38; rw [← HW.out]; refine DC.out.mono ?_; rintro e w1 ⟨rfl, hb1⟩)
    go_ret
    exact ⟨rfl, B0.out.trans (hb1.mono B01.out)⟩
  · have hd' : ¬ (8 : Int) < (d : Int) := by omega
    rw [if_neg hd]
    clear hd
    go_enter Tryz.func47, Tryz.ntmps47
    go_wp2_with (go_at_call 38; rw [← HW.out]; refine DC.out.mono ?_; rintro e w1 ⟨rfl, hb1⟩)
    go_ret
    exact ⟨rfl, B0.out.trans (hb1.mono B01.out)⟩
theorem RI_form {w : World} {v : Value} {l : List Int} (h : RI w v l) : ∃ a cap, v = .slice a l.length cap := by
  obtain ⟨a, c, hv, _⟩ := h.out; exact ⟨a, c, hv⟩
theorem checkRoom_c (l : List It) (v1 v2 : Value) (i : Nat) (W : World) (h : RT W v1 l) (hi : i < l.length) (hl : l.length ≤ 1000000000000) :
    Calls Tryz.prog 48 #[.agg #[v1, v2], .int .i64 i] W fun e w' => e = .returned (if 63 ≤ i ∨ 8 < (l.getD i default).pr.length then errN 30 else .nilIface) ∧ Below W.heap.size W w' := by
  obtain ⟨w0, hw0⟩ : ∃ w0, w0 = W.alloc (trObj v1 v2) := ⟨_, rfl⟩
  have b0 : Below W.heap.size W w0 := by rw [hw0]; exact (Below.refl _ _).alloc (Nat.le_refl _) _
  have C : w0.heap[W.heap.size]? = some (trObj v1 v2) := by rw [hw0]; exact new_blk _
  obtain ⟨p, c, rfl, hlc, hcm, hit⟩ := h.out
  obtain ⟨b, o, rfl, hbW, hit⟩ := hit (by omega)
  have c0 := two_a C
  have HW : Hid (w0 = W.alloc (trObj (.slice (some ⟨b, o, none⟩) l.length c) v2)) := Lib.hid hw0
  have B0 := Lib.hid b0
  obtain ⟨u, x4, hu⟩ := (hit i hi).c4
  obtain ⟨ua, uc, rfl⟩ := RI_form hu
  have hib : (i : Int) ≤ 1000000000000 := by omega
  have hil : (i : Int) < (l.length : Int) := by omega
  generalize (l.getD i default).pr = pr at *
  clear h hw0 b0 C hit hu
  by_cases h63 : 63 ≤ i
  · have h63' : (63 : Int) ≤ (i : Int) := by omega
    rw [if_pos (.inl h63)]
    clear h63
    go_enter Tryz.func48, Tryz.ntmps48
    go_wp2_with fail
    go_ret
    exact ⟨rfl, by rw [← HW.out]; exact B0.out⟩
  · have h63' : ¬ (63 : Int) ≤ (i : Int) := by omega
    by_cases h8 : 8 < pr.length
    · have h8' : (8 : Int) < (pr.length : Int) := by omega
      have h8'' : decide (8 < pr.length) = true := decide_eq_true h8
      rw [if_pos (.inr h8)]
      clear h63 h8
      go_enter Tryz.func48, Tryz.ntmps48
      go_wp2_with fail
      go_ret
      exact ⟨rfl, by rw [← HW.out]; exact B0.out⟩
    · have h8' : ¬ (8 : Int) < (pr.length : Int) := by omega
      have h8'' : decide (8 < pr.length) = false := decide_eq_false h8
      rw [if_neg (by omega)]
      clear h63 h8
      go_enter Tryz.func48, Tryz.ntmps48
      go_wp2_with fail
      go_ret
      exact ⟨rfl, by rw [← HW.out]; exact B0.out⟩
end Go.Proofs.YtophilmjfdhhaaaGreatDoor
