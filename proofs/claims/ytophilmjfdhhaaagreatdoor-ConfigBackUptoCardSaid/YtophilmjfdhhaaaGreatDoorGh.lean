/- The laws of layer 25: same. -/
import Derived.Test.YtophilmjfdhhaaaGreatDoorGg
import Derived.Laws.StructEq
namespace Go.Proofs.YtophilmjfdhhaaaGreatDoor
open Go Go.RowKit Go.Shelf Go.Sort
set_option linter.unusedVariables false
set_option linter.unusedSimpArgs false
set_option maxRecDepth 100000
set_option maxHeartbeats 4000000

theorem new_blk1 (w : World) (o1 o2 : Obj) : ((w.alloc o1).alloc o2).heap[w.heap.size + 1]? = some o2 := by
  have := new_blk (w := w.alloc o1) o2
  simpa using this
theorem rsv_neq (q p : Int) (w : World) : (binOp .neq 43 (.agg #[.int .i64 q, .int .i64 p]) (.agg #[.int .i64 q, .int .i64 p])).run Tryz.prog w = .ok (.bool false) w := by
  have p1 : Tryz.prog.stoodInHeld 43 = false := by kernel_rfl
  have p2 : Tryz.prog.underlying 43 = some (.struct (Tryz.prog.fieldsOf 43)) := rfl
  rw [run_neq_struct, run_equalIn_struct w 9999 _ _ _ p2 p1]
  simp [go_sem, Tryz.underlying43, Tryz.underlying3]
theorem same_t (t : Tr) (v1 v2 u1 u2 : Value) (W : World) (h1 : RT W v1 t.items) (h2 : RI W v2 t.slack) (h3 : RT W u1 t.items) (h4 : RI W u2 t.slack) (hl : t.items.length ≤ 1000000000000) (hs : t.slack.length ≤ 140737488355328) (hp : ∀ x ∈ t.items, x.pr.length ≤ 140737488355328) :
    Calls Tryz.prog 10 #[.agg #[v1, v2], .agg #[u1, u2]] W fun e w' => e = .returned (.bool true) ∧ Below W.heap.size W w' := by
  obtain ⟨p1, c1, rfl, _, _, hi1⟩ := h1.out
  obtain ⟨p3, c3, rfl, _, _, hi3⟩ := h3.out
  obtain ⟨p2, c2, rfl⟩ := RI_form h2
  obtain ⟨p4, c4, rfl⟩ := RI_form h4
  have HI1 := Lib.hid hi1
  have HI3 := Lib.hid hi3
  have HPR : Hid (∀ i, i < t.items.length → (t.items.getD i default).pr.length ≤ 140737488355328) := Lib.hid (fun i hi => by rw [List.getD, List.getElem?_eq_getElem hi]; exact hp _ (List.getElem_mem hi))
  obtain ⟨w0, hw0⟩ : ∃ w0, w0 = (W.alloc (.cells #[.slice p1 t.items.length c1, .slice p2 t.slack.length c2] 25)).alloc (.cells #[.slice p3 t.items.length c3, .slice p4 t.slack.length c4] 32) := ⟨_, rfl⟩
  have HW0 := Lib.hid hw0
  have CT0 : Hid (w0.heap[W.heap.size]? = some (.cells #[.slice p1 t.items.length c1, .slice p2 t.slack.length c2] 25)) := Lib.hid (by rw [hw0]; exact blk_alloc (new_blk _) _)
  have CR0 : Hid (w0.heap[W.heap.size + 1]? = some (.cells #[.slice p3 t.items.length c3, .slice p4 t.slack.length c4] 32)) := Lib.hid (by rw [hw0]; have := new_blk (w := W.alloc (.cells #[.slice p1 t.items.length c1, .slice p2 t.slack.length c2] 25)) (.cells #[.slice p3 t.items.length c3, .slice p4 t.slack.length c4] 32); simpa using this)
  have B0 : Hid (Below W.heap.size W w0) := Lib.hid (by rw [hw0]; exact ((Below.refl _ _).alloc (Nat.le_refl _) _).alloc (by simp) _)
  have NS := Lib.hid (numbers_t t.slack _ _ w0 (h2.below B0.out) (h4.below B0.out) hs)
  have hli : (t.items.length : Int) ≤ 1000000000000 := by omega
  have hne0 : ((t.items.length : Int) != (t.items.length : Int)) = false := by simp
  have hne1 : (t.items.length != t.items.length) = false := by simp
  clear h1 h2 h3 h4 hi1 hi3 hw0 hp hs
  go_enter Tryz.func10, Tryz.ntmps10
  go_wp2_with fail
  rw [← HW0.out]
  refine NS.out.mono ?_
  rintro e w1 ⟨rfl, hb1⟩
  have HB1 := Lib.hid hb1
  clear hb1 NS
  go_wp2_with fail
  go_loopw [5] (fun i wr => ∃ k : Nat, k ≤ t.items.length ∧ i = .int .i64 k ∧ Hid (Below w0.heap.size w0 wr)) (fun i _ => t.items.length - (intOf i).toNat)
  case atStart => exact ⟨0, Nat.zero_le _, by go_num, HB1⟩
  case round =>
    obtain ⟨k, hk, rfl, hbe⟩ := hrel
    have hkb : (k : Int) ≤ 1000000000000 := by omega
    have BW := Lib.hid (B0.out.trans (hbe.out.mono B0.out.size))
    have CT := Lib.hid (blk_below CT0.out hbe.out)
    have CR := Lib.hid (blk_below CR0.out hbe.out)
    have t0 := blk_cell (j := 0) (v := .slice p1 t.items.length c1) CT.out rfl
    have r0 := blk_cell (j := 0) (v := .slice p3 t.items.length c3) CR.out rfl
    by_cases hlt : k < t.items.length
    · have hkn : (k : Int) < (t.items.length : Int) := by omega
      have hk1 : k + 1 ≤ t.items.length := hlt
      obtain ⟨b, o, rfl, hb, hx⟩ := HI1.out (by omega)
      obtain ⟨b', o', rfl, hb', hy⟩ := HI3.out (by omega)
      have hx := (hx k hlt).below hb BW.out
      have hy := (hy k hlt).below hb' BW.out
      have hpr := HPR.out k hlt
      generalize t.items.getD k default = x at *
      obtain ⟨x0, x1, x2, x3, zx, x4, rx⟩ := hx
      obtain ⟨y0, y1, y2, y3, zy, y4, ry⟩ := hy
      obtain ⟨ax, cx, rfl⟩ := RI_form rx
      obtain ⟨ay, cy, rfl⟩ := RI_form ry
      have RX := Lib.hid rx
      have RY := Lib.hid ry
      have NC := Lib.hid (fun w (h : Below wr.heap.size wr w) => numbers_t x.pr _ _ w (RX.out.below h) (RY.out.below h) hpr)
      have lT : W.heap.size < wr.heap.size := blk_lt CT.out
      have lR : W.heap.size + 1 < wr.heap.size := blk_lt CR.out
      have lb : b < wr.heap.size := Nat.lt_of_lt_of_le hb BW.out.size
      have lb' : b' < wr.heap.size := Nat.lt_of_lt_of_le hb' BW.out.size
      clear hlt rx ry
      go_upto_region 6 with fail
      go_cut [6, 7] (fun s6 s7 w => ∃ X Y : Nat, s6 = .pointer (some ⟨X, 0, none⟩) ∧ s7 = .pointer (some ⟨Y, 0, none⟩) ∧ Hid (w.heap[X]? = some (.cells #[str x.nm, .int .i64 x.par, .int .i64 x.q, .int .i64 x.p, .slice ax x.pr.length cx] 45)) ∧ Hid (w.heap[Y]? = some (.cells #[str x.nm, .int .i64 x.par, .int .i64 x.q, .int .i64 x.p, .slice ay x.pr.length cy] 73)) ∧ Hid (Below wr.heap.size wr w))
      case first =>
        go_region
        all_goals
          go_wp2_with fail
          go_meet
          first
            | exact ⟨_, _, rfl, rfl, Lib.hid (blk_alloc (new_blk (w := wr) _) _), Lib.hid (new_blk1 wr _ _), Lib.hid (((Below.refl wr.heap.size wr).alloc (Nat.le_refl _) _).alloc (by simp) _).drew⟩
            | exact ⟨_, _, rfl, rfl, Lib.hid (new_blk1 wr _ _), Lib.hid (blk_alloc (new_blk (w := wr) _) _), Lib.hid (((Below.refl wr.heap.size wr).alloc (Nat.le_refl _) _).alloc (by simp) _).drew⟩
      case rest =>
        obtain ⟨X, Y, rfl, rfl, hX, hY, hbc⟩ := hcut
        have a0 := blk_cell (j := 0) (v := str x.nm) hX.out rfl
        have a1 := blk_cell (j := 1) (v := .int .i64 x.par) hX.out rfl
        have a2 := blk_cell (j := 2) (v := .int .i64 x.q) hX.out rfl
        have a3 := blk_cell (j := 3) (v := .int .i64 x.p) hX.out rfl
        have a4 := blk_cell (j := 4) (v := .slice ax x.pr.length cx) hX.out rfl
        have b0 := blk_cell (j := 0) (v := str x.nm) hY.out rfl
        have b1 := blk_cell (j := 1) (v := .int .i64 x.par) hY.out rfl
        have b2 := blk_cell (j := 2) (v := .int .i64 x.q) hY.out rfl
        have b3 := blk_cell (j := 3) (v := .int .i64 x.p) hY.out rfl
        have b4 := blk_cell (j := 4) (v := .slice ay x.pr.length cy) hY.out rfl
        have e1 : (x.nm != x.nm) = false := by simp
        have e2 : (x.par != x.par) = false := by simp
        have e3 := fun w => rsv_neq x.q x.p w
        clear t0 r0 x0 x1 x2 x3 x4 y0 y1 y2 y3 y4
        go_wp2_with (go_at_call 13; refine (NC.out _ hbc.out).mono ?_; rintro e w3 ⟨rfl, hb3⟩)
        go_roundw
        case rel => exact ⟨k + 1, hk1, by go_num, Lib.hid (hbe.out.trans ((hbc.out.trans (hb3.mono hbc.out.size)).mono hbe.out.size))⟩
        case measure => show t.items.length - ((k : Int) + 1).toNat < t.items.length - ((k : Int)).toNat; omega
    · obtain rfl : k = t.items.length := by omega
      have hge : ¬ (t.items.length : Int) < (t.items.length : Int) := by omega
      clear hlt
      go_wp2_with fail
      go_ret
      exact ⟨rfl, BW.out⟩
end Go.Proofs.YtophilmjfdhhaaaGreatDoor
