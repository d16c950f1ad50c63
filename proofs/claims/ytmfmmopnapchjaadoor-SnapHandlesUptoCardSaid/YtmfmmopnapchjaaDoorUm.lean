/- Tables of tasks: New. -/
import Derived.Test.YtmfmmopnapchjaaDoorUb
import Derived.Laws.MakeOwn
import Derived.Test.YtmfmmopnapchjaaDoorUab
namespace Go.Proofs.YtmfmmopnapchjaaDoor
open Go Go.RowKit Go.ChangeShapes Go.WideShapes
set_option linter.unusedVariables false
set_option linter.unusedSimpArgs false
set_option maxRecDepth 100000
set_option maxHeartbeats 800000

theorem Tryd.infoSlotT : (Tryd.prog.info? 140).map (fun i => (i.zero, i.size, i.bytes)) = some (some (.agg #[.int .i64 0, .bool false, .int .i64 0, .slice none 0 0, .int .i64 0, .int .i64 0, .int .i64 0, .int .i64 0, .int .i64 0, .int .i64 0]), 10, 96) := by kernel_rfl
theorem makeT (N : Nat) (h : N ≤ 4096) (w : World) : ∃ arr : Array Value, (Instr.makeSlice 136 (.int .i64 N) (.int .i64 N)).run Tryd.prog w = .ok (.slice (some ⟨w.heap.size, 0, none⟩) N N) (w.alloc (.cells arr 140)) ∧ arr.size = N * 10 ∧ ∀ i c, i < N → c < 10 → arr[i * 10 + c]? = [.int .i64 0, .bool false, .int .i64 0, .slice none 0 0, .int .i64 0, .int .i64 0, .int .i64 0, .int .i64 0, .int .i64 0, .int .i64 0][c]? := by
  obtain ⟨i0, hi, hz0, hz1, hz2⟩ := info_of Tryd.infoSlotT
  have := run_make (P := Tryd.prog) w 136 140 i0 _ Tryd.underlying136 hi hz0 .i64 .i64 N N (by omega) (by omega) (by rw [hz2]; omega) (by omega)
  rw [hz1, Int.toNat_natCast] at this
  refine ⟨_, this, size_madeCells _ _, ?_⟩
  intro i c hi hc
  have hlt : i * 10 + c < N * 10 := by omega
  have hm : (i * 10 + c) % 10 = c := by omega
  simp [madeCells, Value.cells, hlt]
  rw [Nat.mod_eq_of_lt hc, List.getElem?_eq_getElem (by simpa using hc)]
  rfl

theorem newT_c (w : World) (N k : Nat) (hk : 1 ≤ k ∧ k ≤ 3) (hN : 1 ≤ N ∧ N ≤ 4096) :
    Calls Tryd.prog 36 #[.int .i64 k, .int .i64 N] w fun e w' => ∃ b r, e = .returned (.tuple #[.pointer (some ⟨b, 0, none⟩), .nilIface]) ∧ w.heap.size ≤ b ∧ w.heap.size ≤ r ∧ TabAt w' b r 138 140 10 N k (slotT (fun _ => 1) (fun _ => false) (fun _ => TkV.zero)) ∧ Below w.heap.size w w' := by
  obtain ⟨arr, hmk, hsz, hcl⟩ := makeT N hN.2 w
  obtain ⟨w1, hw1⟩ : ∃ w1, w1 = w.alloc (.cells arr 140) := ⟨_, rfl⟩
  obtain ⟨w2, hw2⟩ : ∃ w2, w2 = w1.alloc (.cells #[.int .i64 k, .slice (some ⟨w.heap.size, 0, none⟩) N N] 138) := ⟨_, rfl⟩
  have s1 : w1.heap.size = w.heap.size + 1 := by rw [hw1]; simp
  have b1 : Below w.heap.size w w1 := hw1 ▸ (Below.refl _ w).alloc (Nat.le_refl _) _
  have b2 : Below w.heap.size w w2 := hw2 ▸ b1.alloc (by omega) _
  have r1 : w1.heap[w.heap.size]? = some (.cells arr 140) := hw1 ▸ kb_new w _
  have r2 : w2.heap[w.heap.size]? = some (.cells arr 140) := hw2 ▸ kb_alloc r1 _
  have t2 : w2.heap[w1.heap.size]? = some (.cells #[.int .i64 k, .slice (some ⟨w.heap.size, 0, none⟩) N N] 138) := hw2 ▸ kb_new w1 _
  have H2 : TabAt w2 w1.heap.size w.heap.size 138 140 10 N k (slotT (fun j => if j < 0 then 1 else 0) (fun _ => false) (fun _ => TkV.zero)) :=
    ⟨t2, ⟨arr, r2, hsz, fun i c hi hc => (hcl i c hi hc).trans (by simp [slotT, TkV.zero, Acc6.zero])⟩, fun i hi => rfl⟩
  have HW2 := Lib.hid hw2
  have HW1 := Lib.hid hw1
  have HH := Lib.hid H2
  have B2 := Lib.hid b2
  have S1 := Lib.hid s1
  have hbl := Lib.hid (Nat.le_of_lt (show w.heap.size < w1.heap.size by omega))
  rw [← hw1] at hmk
  have T2 := kb_cell t2 1
  simp at T2
  clear hw1 hw2 b1 b2 r1 r2 t2 H2 s1
  go_enter Tryd.func36, Tryd.ntmps36
  go_wp2_with fail
  rw [← HW2.out]
  go_loopw [33] (fun v wr => ∃ m : Nat, m ≤ N ∧ v = .int .i64 m ∧ TabAt wr w1.heap.size w.heap.size 138 140 10 N k (slotT (fun j => if j < m then 1 else 0) (fun _ => false) (fun _ => TkV.zero)) ∧ Below w.heap.size w wr) (fun v _ => N - (intOf v).toNat)
  case atStart => exact ⟨0, Nat.zero_le _, rfl, HH.out, B2.out⟩
  case round =>
    obtain ⟨m, hm, rfl, hT, hB⟩ := hrel
    by_cases hlt : m < N
    · have KT := Lib.hid hT
      have KB := Lib.hid hB
      have T3 := kb_cell hT.tb 1
      have c0 := hT.row.cell m 0 hlt (by decide)
      have fr := hT.row.fr
      have hne := Lib.hid (hT.ne (by decide))
      simp [slotT] at T3 c0
      clear hT hB T2
      go_wp2_with fail
      go_roundw
      case rel =>
        refine ⟨m + 1, by omega, by go_num, ⟨(kb_other hne.out _ _).trans KT.out.tb, (KT.out.row.set m 0 hlt (by decide) (.int .i64 1)).congr fun j hj => ?_⟩, KB.out.setCell (p := ⟨w.heap.size, m * 10, none⟩) (Nat.le_refl _) _⟩
        by_cases e : j = m
        · subst e
          rw [upd_same]
          simp [slotT]
        · rw [upd_other _ _ e]
          have : (j < m + 1) = (j < m) := propext (by omega)
          simp [slotT, this]
      case measure => simp [intOf]; omega
    · obtain rfl : m = N := by omega
      go_wp2_with fail
      go_ret2
      refine ⟨_, _, rfl, hbl.out, Nat.le_refl _, ⟨hT.tb, hT.row.congr fun j hj => ?_⟩, hB⟩
      simp [slotT, hj]
end Go.Proofs.YtmfmmopnapchjaaDoor
