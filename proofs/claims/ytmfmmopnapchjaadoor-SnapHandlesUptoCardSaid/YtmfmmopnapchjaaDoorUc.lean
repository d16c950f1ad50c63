/- Tables of nodes: find, name, Get, All. -/
import Derived.Test.YtmfmmopnapchjaaDoorUa
import Derived.Deep.QuietTactic
import Derived.BigQuiet
namespace Go.Proofs.YtmfmmopnapchjaaDoor
open Go Go.RowKit Go.ChangeShapes Go.WideShapes
set_option linter.unusedVariables false
set_option maxRecDepth 100000
set_option maxHeartbeats 800000

theorem findN_v (w : World) (b r N k : Nat) (h : Int) (hb : w.heap[b]? = some (.cells #[.int .i64 k, .slice (some ⟨r, 0, none⟩) N N] 95)) (hk : 1 ≤ k) (hv : ¬ HV h) :
    Calls Tryd.prog 51 #[.pointer (some ⟨b, 0, none⟩), .int .i64 h] w fun e w' => e = .returned (.tuple #[.pointer none, errN 20]) ∧ Qt w w' := by
  have T0 := kb_cell hb 0
  have T1 := kb_cell hb 1
  simp at T0 T1
  have KI := Lib.hid (Calls.q_of (fun w => kind_f (h := h) w hv))
  have hk0 : ((0 : Int) == (k : Int)) = false := by simp; omega
  clear hb hv
  go_enter Tryd.func51, Tryd.ntmps51
  go_wp2_with fail
  go_quiet (with_reducible exact KI.out _ _)
  go_wp2_with fail
  go_ret2
  exact ⟨rfl, ⟨_, rfl⟩⟩

theorem findN_k (w : World) (b r N k : Nat) (h : Int) (hb : w.heap[b]? = some (.cells #[.int .i64 k, .slice (some ⟨r, 0, none⟩) N N] 95)) (hv : HV h) (e1 : hK h ≠ k) :
    Calls Tryd.prog 51 #[.pointer (some ⟨b, 0, none⟩), .int .i64 h] w fun e w' => e = .returned (.tuple #[.pointer none, errN 20]) ∧ Qt w w' := by
  have T0 := kb_cell hb 0
  have T1 := kb_cell hb 1
  simp at T0 T1
  have KI := Lib.hid (Calls.q_of (fun w => kind_t (h := h) w hv))
  have hk0 : (hK h == (k : Int)) = false := by simpa using e1
  clear hb hv
  generalize hK h = kh at *
  go_enter Tryd.func51, Tryd.ntmps51
  go_wp2_with fail
  go_quiet (with_reducible exact KI.out _ _)
  go_wp2_with fail
  go_ret2
  exact ⟨rfl, ⟨_, rfl⟩⟩

theorem findN_n (w : World) (b r N k : Nat) (h : Int) (hb : w.heap[b]? = some (.cells #[.int .i64 k, .slice (some ⟨r, 0, none⟩) N N] 95)) (hv : HV h) (e1 : hK h = k) (e2 : ¬ hS h < N) :
    Calls Tryd.prog 51 #[.pointer (some ⟨b, 0, none⟩), .int .i64 h] w fun e w' => e = .returned (.tuple #[.pointer none, errN 20]) ∧ Qt w w' := by
  have T0 := kb_cell hb 0
  have T1 := kb_cell hb 1
  simp at T0 T1
  have KI := Lib.hid (Calls.q_of (fun w => kind_t (h := h) w hv))
  have SL := Lib.hid (fun w => slot_t (h := h) w hv)
  have GE := Lib.hid (Calls.q2_of (fun w => gen_t (h := h) w hv))
  have h0 : 0 ≤ hS h := by unfold HV HOk at hv; omega
  rw [e1] at KI
  have d1 : decide (hS h < 0) = false := by simp; omega
  have d2 : decide ((N : Int) ≤ hS h) = true := by simp; omega
  clear hb hv e1
  generalize hS h = sh at *
  generalize hG h = gh at *
  go_enter Tryd.func51, Tryd.ntmps51
  go_wp2_with fail
  go_quiet (with_reducible exact KI.out _ _)
  go_wp2_with fail
  refine (SL.out _).mono ?_
  rintro e w' ⟨rfl, rfl⟩
  go_wp2_with fail
  go_quiet (with_reducible exact GE.out _ _ _)
  go_wp2_with fail
  go_ret2
  exact ⟨rfl, ⟨_, rfl⟩⟩

theorem findN_s (w : World) (b r N k : Nat) (h : Int) (hb : w.heap[b]? = some (.cells #[.int .i64 k, .slice (some ⟨r, 0, none⟩) N N] 95)) (i : Nat) (g : Nat → Nat) (tk : Nat → Bool) (t : Nat → Value) (H : Row w r 97 3 N (slotN g tk t)) (hN : N ≤ 4096) (hi : i < N) (hv : HV h) (e1 : hK h = k) (e2 : hS h = i) (ht : tk i = false) :
    Calls Tryd.prog 51 #[.pointer (some ⟨b, 0, none⟩), .int .i64 h] w fun e w' => e = .returned (.tuple #[.pointer none, errN 20]) ∧ Qt w w' := by
  have T0 := kb_cell hb 0
  have T1 := kb_cell hb 1
  simp at T0 T1
  have c0 := H.cell i 0 hi (by decide)
  have c1 := H.cell i 1 hi (by decide)
  simp [slotN] at c0 c1
  have KI := Lib.hid (Calls.q_of (fun w => kind_t (h := h) w hv))
  have SL := Lib.hid (fun w => slot_t (h := h) w hv)
  have GE := Lib.hid (Calls.q2_of (fun w => gen_t (h := h) w hv))
  have h0 : 0 ≤ hS h := by unfold HV HOk at hv; omega
  rw [e1] at KI
  rw [ht] at c1
  rw [e2] at SL
  have d1 : decide ((i : Int) < 0) = false := decide_eq_false (by omega)
  have d2 : decide (N ≤ i) = false := decide_eq_false (by omega)
  clear H hb hv e1 e2 h0
  generalize hG h = gh at *
  go_enter Tryd.func51, Tryd.ntmps51
  go_wp2_with fail
  go_quiet (with_reducible exact KI.out _ _)
  go_wp2_with fail
  refine (SL.out _).mono ?_
  rintro e w' ⟨rfl, rfl⟩
  go_wp2_with fail
  go_quiet (with_reducible exact GE.out _ _ _)
  go_wp2_with fail
  go_ret2
  exact ⟨rfl, ⟨_, rfl⟩⟩

theorem findN_g (w : World) (b r N k : Nat) (h : Int) (hb : w.heap[b]? = some (.cells #[.int .i64 k, .slice (some ⟨r, 0, none⟩) N N] 95)) (i : Nat) (g : Nat → Nat) (tk : Nat → Bool) (t : Nat → Value) (H : Row w r 97 3 N (slotN g tk t)) (hN : N ≤ 4096) (hi : i < N) (hv : HV h) (e1 : hK h = k) (e2 : hS h = i) (ht : tk i = true) (hg : (g i : Int) ≠ hG h) :
    Calls Tryd.prog 51 #[.pointer (some ⟨b, 0, none⟩), .int .i64 h] w fun e w' => e = .returned (.tuple #[.pointer none, errN 20]) ∧ Qt w w' := by
  have T0 := kb_cell hb 0
  have T1 := kb_cell hb 1
  simp at T0 T1
  have c0 := H.cell i 0 hi (by decide)
  have c1 := H.cell i 1 hi (by decide)
  simp [slotN] at c0 c1
  have KI := Lib.hid (Calls.q_of (fun w => kind_t (h := h) w hv))
  have SL := Lib.hid (fun w => slot_t (h := h) w hv)
  have GE := Lib.hid (Calls.q2_of (fun w => gen_t (h := h) w hv))
  have h0 : 0 ≤ hS h := by unfold HV HOk at hv; omega
  rw [e1] at KI
  rw [ht] at c1
  rw [e2] at SL
  have hge : ((g i : Int) != hG h) = true := by simpa using hg
  clear H hb hv e1 e2 h0
  generalize hG h = gh at *
  generalize g i = gi at *
  go_enter Tryd.func51, Tryd.ntmps51
  go_wp2_with fail
  go_quiet (with_reducible exact KI.out _ _)
  go_wp2_with fail
  refine (SL.out _).mono ?_
  rintro e w' ⟨rfl, rfl⟩
  go_wp2_with fail
  go_quiet (with_reducible exact GE.out _ _ _)
  go_wp2_with fail
  go_ret2
  exact ⟨rfl, ⟨_, rfl⟩⟩

theorem findN_none (w : World) (b r N k : Nat) (g : Nat → Nat) (tk : Nat → Bool) (t : Nat → Value) (h : Int) (H : TabAt w b r 95 97 3 N k (slotN g tk t)) (hk : 1 ≤ k) (hN : N ≤ 4096) (hf : fnd N k g tk h = none) :
    Calls Tryd.prog 51 #[.pointer (some ⟨b, 0, none⟩), .int .i64 h] w fun e w' => e = .returned (.tuple #[.pointer none, errN 20]) ∧ Qt w w' := by
  by_cases hv : HV h
  · have h0 : 0 ≤ hS h := by unfold HV HOk at hv; omega
    by_cases e1 : hK h = k
    · by_cases e2 : hS h < N
      · obtain ⟨i, hi⟩ : ∃ i : Nat, hS h = i := ⟨(hS h).toNat, by omega⟩
        have hiN : i < N := by omega
        cases ht : tk i with
        | false => exact findN_s w b r N k h H.tb i g tk t H.row hN hiN hv e1 hi ht
        | true =>
          refine findN_g w b r N k h H.tb i g tk t H.row hN hiN hv e1 hi ht ?_
          intro hg
          unfold fnd at hf
          rw [if_pos ⟨hv, e1, e2, by rw [hi]; exact ht, by rw [hi]; exact hg⟩] at hf
          cases hf
      · exact findN_n w b r N k h H.tb hv e1 e2
    · exact findN_k w b r N k h H.tb hv e1
  · exact findN_v w b r N k h H.tb hk hv

theorem findN_some (w : World) (b r N k i : Nat) (g : Nat → Nat) (tk : Nat → Bool) (t : Nat → Value) (h : Int) (H : TabAt w b r 95 97 3 N k (slotN g tk t)) (hN : N ≤ 4096) (hf : fnd N k g tk h = some i) :
    Calls Tryd.prog 51 #[.pointer (some ⟨b, 0, none⟩), .int .i64 h] w fun e w' => e = .returned (.tuple #[.pointer (some ⟨r, i * 3, none⟩), .nilIface]) ∧ Qt w w' := by
  have T0 := kb_cell H.tb 0
  have T1 := kb_cell H.tb 1
  simp at T0 T1
  obtain ⟨hv, e1, e2, hiN, e3, e4⟩ := fnd_some hf
  have KI := Lib.hid (Calls.q_of (fun w => kind_t (h := h) w hv))
  have SL := Lib.hid (fun w => slot_t (h := h) w hv)
  have GE := Lib.hid (Calls.q2_of (fun w => gen_t (h := h) w hv))
  rw [e1] at KI
  rw [e2] at SL
  rw [← e4] at GE
  have c0 := H.row.cell i 0 hiN (by decide)
  have c1 := H.row.cell i 1 hiN (by decide)
  simp [slotN] at c0 c1
  rw [e3] at c1
  have d1 : decide ((i : Int) < 0) = false := decide_eq_false (by omega)
  have d2 : decide (N ≤ i) = false := decide_eq_false (by omega)
  clear H hf hv e1 e2 e3 e4
  generalize g i = gi at *
  go_enter Tryd.func51, Tryd.ntmps51
  go_wp2_with fail
  go_quiet (with_reducible exact KI.out _ _)
  go_wp2_with fail
  refine (SL.out _).mono ?_
  rintro e w' ⟨rfl, rfl⟩
  go_wp2_with fail
  go_quiet (with_reducible exact GE.out _ _ _)
  go_wp2_with fail
  go_ret2
  exact ⟨rfl, ⟨_, rfl⟩⟩

theorem nameN_c (w : World) (b r N k i : Nat) (g : Nat → Nat) (tk : Nat → Bool) (t : Nat → Value) (H : TabAt w b r 95 97 3 N k (slotN g tk t)) (hk : 1 ≤ k ∧ k ≤ 3) (hN : N ≤ 4096) (hi : i < N) (hg : 1 ≤ g i ∧ g i ≤ 1023) :
    Calls Tryd.prog 35 #[.pointer (some ⟨b, 0, none⟩), .int .i64 i] w fun e w' => e = .returned (.int .i64 (hnd k i (g i))) ∧ Qt w w' := by
  have T0 := kb_cell H.tb 0
  have T1 := kb_cell H.tb 1
  simp at T0 T1
  have MK := Lib.hid (Calls.q_of (fun w => make_ok k i (g i) w (by unfold HOk; omega)))
  have c0 := H.row.cell i 0 hi (by decide)
  simp [slotN] at c0
  unfold hnd
  clear H
  generalize g i = gi at *
  go_enter Tryd.func35, Tryd.ntmps35
  go_wp2_with fail
  go_quiet (with_reducible exact MK.out _ _)
  go_wp2_with fail
  go_ret
  exact ⟨rfl, ⟨_, rfl⟩⟩
end Go.Proofs.YtmfmmopnapchjaaDoor
