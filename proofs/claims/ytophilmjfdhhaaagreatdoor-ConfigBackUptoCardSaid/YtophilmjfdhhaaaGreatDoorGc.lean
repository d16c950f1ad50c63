/- The reference's line of layer 25: the line of best-effort tasks. -/
import Derived.Test.YtophilmjfdhhaaaGreatDoorGb
namespace Go.Proofs.YtophilmjfdhhaaaGreatDoor
open Go Go.RowKit Go.Shelf Go.Sort
set_option linter.unusedVariables false
set_option linter.unusedSimpArgs false
set_option maxRecDepth 100000
set_option maxHeartbeats 4000000

theorem run_headS (s : List UInt8) (k : Nat) (hk : k ≤ s.length) (w : World) : (Instr.slice 9 (str s) none (some (.int .i64 k)) none).run Tryz.prog w = .ok (str (s.take k)) w := by
  have hsz : (⟨s.toArray⟩ : ByteArray).size = s.length := sz s
  have he : (⟨s.toArray⟩ : ByteArray).extract 0 k = ⟨(s.take k).toArray⟩ := by
    rw [extract_seg]; simp [seg]
  simp [Instr.slice, Instr.sliceBounds, Instr.sliceBound, asIntOf, go_sem, run_underlying Tryz.underlying9, hsz, hk, he]
theorem run_tailS (s : List UInt8) (k : Nat) (hk : k ≤ s.length) (w : World) : (Instr.slice 9 (str s) (some (.int .i64 k)) none none).run Tryz.prog w = .ok (str (s.drop k)) w := by
  have hsz : (⟨s.toArray⟩ : ByteArray).size = s.length := sz s
  have he : (⟨s.toArray⟩ : ByteArray).extract k s.length = ⟨(s.drop k).toArray⟩ := by
    rw [extract_seg]; simp [seg]; exact List.take_of_length_le (by simp)
  simp [Instr.slice, Instr.sliceBounds, Instr.sliceBound, asIntOf, go_sem, run_underlying Tryz.underlying9, hsz, hk, he]
theorem Tryz.infoRTree : (Tryz.prog.info? 32).map (·.size) = some 2 := by kernel_rfl
theorem rtree_load {w : World} {B : Nat} {x y : Value} (C : w.heap[B]? = some (.cells #[x, y] 32)) : (loadVar 32 ⟨B, 0, none⟩).run Tryz.prog w = .ok (.agg #[x, y]) w :=
  run_loadVar_row w B 32 32 #[x, y] (0, 0) _ C Tryz.underlying32 rfl Tryz.infoRTree
abbrev set2 (w : World) (R : Nat) (a b : Value) : World := (w.setCell ⟨R, 0, none⟩ a).setCell ⟨R, 1, none⟩ b
theorem set2_blk {w : World} {R : Nat} {t : TypeId} {x0 x1 : Value} (h : w.heap[R]? = some (.cells #[x0, x1] t)) (a b : Value) : (set2 w R a b).heap[R]? = some (.cells #[a, b] t) := blk_set (blk_set h 0 a) 1 b
theorem set2_other {w : World} {R k : Nat} (h : k ≠ R) (a b : Value) : (set2 w R a b).heap[k]? = w.heap[k]? := by unfold set2; rw [blk_set_other h, blk_set_other h]
theorem set2_size (w : World) (R : Nat) (a b : Value) : (set2 w R a b).heap.size = w.heap.size := by simp [set2]
theorem set2_below {W w : World} {n R : Nat} (h : Below n W w) (hR : n ≤ R) (a b : Value) : Below n W (set2 w R a b) := (h.setCell (p := ⟨R, 0, none⟩) hR _).setCell (p := ⟨R, 1, none⟩) hR _
/-- What the reference's line leaves. -/
def rlineP (t : Tr) (f : Bool) (s : List UInt8) (W : World) (e : Ending) (w' : World) : Prop :=
  ∃ p1 n1 c1 p2 n2 c2, e = .returned (.tuple #[.agg #[.slice p1 n1 c1, .slice p2 n2 c2], .int .i64 (lineS t f s).2]) ∧
    ((lineS t f s).2 = 0 → RT w' (.slice p1 n1 c1) (lineS t f s).1.items ∧ NilOk (.slice p1 n1 c1) ∧ RI w' (.slice p2 n2 c2) (lineS t f s).1.slack) ∧ Below W.heap.size W w'
theorem rlineP.bad {t : Tr} {f : Bool} {s : List UInt8} {W w' : World} {n : Int} (h : (lineS t f s).2 = n) (hn : n ≠ 0) (hb : Below W.heap.size W w') (p1 : Option Addr) (n1 c1 : Nat) (p2 : Option Addr) (n2 c2 : Nat) :
    rlineP t f s W (.returned (.tuple #[.agg #[.slice p1 n1 c1, .slice p2 n2 c2], .int .i64 n])) w' :=
  ⟨p1, n1, c1, p2, n2, c2, by rw [h], by (intro h0; rw [h] at h0; exact absurd h0 hn), hb⟩
theorem rlineP.good {t t' : Tr} {f : Bool} {s : List UInt8} {W w' : World} {p1 : Option Addr} {n1 c1 : Nat} {p2 : Option Addr} {n2 c2 : Nat} (h : lineS t f s = (t', 0)) (h1 : RT w' (.slice p1 n1 c1) t'.items) (hN : NilOk (.slice p1 n1 c1)) (h2 : RI w' (.slice p2 n2 c2) t'.slack) (hb : Below W.heap.size W w') :
    rlineP t f s W (.returned (.tuple #[.agg #[.slice p1 n1 c1, .slice p2 n2 c2], .int .i64 0])) w' :=
  ⟨p1, n1, c1, p2, n2, c2, by rw [h], by (intro _; rw [h]; exact ⟨h1, hN, h2⟩), hb⟩
theorem rline_slack (t : Tr) (s : List UInt8) (f : Bool) (v1 v2 : Value) (W : World) (h1 : RT W v1 t.items) (h2 : RI W v2 t.slack) (hne : t.items = []) (hsl : slackL f s) (hs : s.length ≤ 1048576) :
    Calls Tryz.prog 28 #[.agg #[v1, v2], str s, .bool f] W (rlineP t f s W) := by
  obtain ⟨p1, c1, rfl, _⟩ := h1.out
  obtain ⟨p2, c2, rfl⟩ := RI_form h2
  have HLS := Lib.hid (lineS_slack (t := t) hsl)
  have HNE := Lib.hid hne
  clear hne
  obtain ⟨rfl, hl6, ht6⟩ := hsl
  obtain ⟨w0, hw0⟩ : ∃ w0, w0 = (W.alloc (.cells #[.slice p1 t.items.length c1, .slice p2 t.slack.length c2] 32)).alloc (.cells #[.slice none 0 0, .slice none 0 0] 32) := ⟨_, rfl⟩
  have HW0 := Lib.hid hw0
  have CT0 : Hid (w0.heap[W.heap.size]? = some (.cells #[.slice p1 t.items.length c1, .slice p2 t.slack.length c2] 32)) := Lib.hid (by rw [hw0]; exact blk_alloc (new_blk _) _)
  have CR0 : Hid (w0.heap[W.heap.size + 1]? = some (.cells #[.slice none 0 0, .slice none 0 0] 32)) := Lib.hid (by rw [hw0]; have := new_blk (w := W.alloc (.cells #[.slice p1 t.items.length c1, .slice p2 t.slack.length c2] 32)) (.cells #[.slice none 0 0, .slice none 0 0] 32); simpa using this)
  have B0 : Hid (Below W.heap.size W w0) := Lib.hid (by rw [hw0]; exact ((Below.refl _ _).alloc (Nat.le_refl _) _).alloc (by simp) _)
  have S1 := Lib.hid (fun w => run_headS s 6 (by omega) w)
  have S2 := Lib.hid (fun w => run_tailS s 6 (by omega) w)
  have hs1 : ∀ w, (Instr.slice 9 (str s) none (some (.int .i64 6)) none).run Tryz.prog w = .ok (str [115, 108, 97, 99, 107, 32]) w := fun w => by have := S1.out w; rw [ht6] at this; exact this
  have hs2 : ∀ w, (Instr.slice 9 (str s) (some (.int .i64 6)) none none).run Tryz.prog w = .ok (str (s.drop 6)) w := fun w => S2.out w
  have SP := Lib.hid (rsplit_any ⟨(s.drop 6).toArray⟩ 32 w0 (by rw [sz]; simp; omega))
  have hwb0 := splitC_mem 32 (s.drop 6) []
  have hwl := splitC_many 32 (s.drop 6) []
  simp only at SP
  generalize splitC 32 [] (s.drop 6) = ws at *
  have hwb : ∀ x ∈ ws, x.length ≤ 16777216 := fun x hx => by have := hwb0 x hx; simp at this; omega
  have hwl' : ws.length ≤ 16777216 := by simp at hwl; omega
  have h6i : (6 : Int) < (s.length : Int) := by omega
  have hsi : (s.length : Int) ≤ 1048576 := by omega
  generalize s.drop 6 = sd at *
  clear hwb0 hwl hw0 ht6 S1 S2 h1 h2
  go_enter Tryz.func28, Tryz.ntmps28
  go_wp2_with fail
  rw [← HW0.out]
  refine SP.out.mono ?_
  rintro e w1 ⟨v, rfl, hr1, hb1⟩
  have AL := Lib.hid (rall_c ws v w1 hr1 hwl' hwb)
  obtain ⟨pw, cw, rfl, _⟩ := hr1.out
  have B1 := Lib.hid (B0.out.trans (hb1.mono B0.out.size))
  have CT1 := Lib.hid (blk_below CT0.out hb1)
  have CR1 := Lib.hid (blk_below CR0.out hb1)
  have NSB := Lib.hid (fun o h => numsS_bounds (l := ws) (o := o) h)
  clear hr1 hb1 SP CT0 CR0 B0 HW0 hwb
  go_wp2_with fail
  refine AL.out.mono ?_
  rintro e w2 ⟨⟨u, ⟨pu, ku, cu, rfl⟩, rfl, hu⟩, hb2⟩
  have HU := Lib.hid hu
  have B2 := Lib.hid (B1.out.trans (hb2.mono B1.out.size))
  have CT2 := Lib.hid (blk_below CT1.out hb2)
  have CR2 := Lib.hid (blk_below CR1.out hb2)
  have LT1 := Lib.hid (blk_lt CR1.out)
  have t0 := blk_cell (j := 0) (v := .slice p1 t.items.length c1) CT2.out rfl
  have t1 := blk_cell (j := 1) (v := .slice p2 t.slack.length c2) CT2.out rfl
  have r0 := blk_cell (j := 0) (v := .slice none 0 0) CR2.out rfl
  have r1 := blk_cell (j := 1) (v := .slice none 0 0) CR2.out rfl
  have rf := fun i => blk_frozen CR2.out i
  have HL := Lib.hid (rtree_load (set2_blk CR2.out (.slice p1 t.items.length c1) (.slice p2 t.slack.length c2)))
  have HB := Lib.hid (set2_below B2.out (Nat.le_succ _) (.slice p1 t.items.length c1) (.slice p2 t.slack.length c2))
  clear hu hb2 AL CT1 CR1
  generalize numsS ws = NS at *
  cases NS with
  | none =>
    have HN : Hid ((lineS t true s).2 = 250) := Lib.hid (by rw [HLS.out])
    rw [show (none : Option (List Int)).isSome = false from rfl]
    clear HLS
    go_wp2_with fail
    refine bodyPost_ret (v := .tuple #[.agg #[.slice p1 t.items.length c1, .slice p2 t.slack.length c2], .int .i64 250]) ?_ rfl (rlineP.bad HN.out (by decide) HB.out _ _ _ _ _ _)
    rw [results_cell_tmp rfl]
    have hld := HL.out
    simp [asAddr, Result.andThen, hld]
  | some l =>
    rw [show (some l : Option (List Int)).isSome = true from rfl]
    have HLT : Hid (lineS t true s = if prOk l = false then (t, 2) else if 16 < l.length then (t, 30) else (⟨t.items, l⟩, 0)) := HLS
    have RIu := RI_own (HU.out l rfl)
    obtain ⟨a6, c6, he6⟩ := RI_form RIu
    injection he6 with e1 e2 e3
    subst e1; subst e2; subst e3
    have hll : l.length ≤ 16777216 := by have := (NSB.out l rfl).1; omega
    have PR := Lib.hid (fun w (h : RI w (.slice pu l.length cu) l) => rprios_c l _ w h (by omega))
    have R6 := Lib.hid RIu
    clear RIu HLS NSB
    cases hp : prOk l with
    | false =>
      have HN : Hid ((lineS t true s).2 = 2) := Lib.hid (by rw [HLT.out, if_pos hp])
      rw [hp] at PR
      clear hp HLT
      go_wp2_with (go_at_call 52; refine (PR.out _ R6.out).mono ?_; rintro e w7 ⟨rfl, rfl⟩)
      refine bodyPost_ret (v := .tuple #[.agg #[.slice p1 t.items.length c1, .slice p2 t.slack.length c2], .int .i64 2]) ?_ rfl (rlineP.bad HN.out (by decide) HB.out _ _ _ _ _ _)
      rw [results_cell_tmp rfl]
      have hld := HL.out
      simp [asAddr, Result.andThen, hld]
    | true =>
      have HLV := Lib.hid (HLT.out.trans (if_neg (by rw [hp]; decide)))
      rw [hp] at PR
      clear hp HLT
      by_cases h16 : 16 < l.length
      · have HN : Hid ((lineS t true s).2 = 30) := Lib.hid (by rw [HLV.out, if_pos h16])
        have h16i : (16 : Int) < (l.length : Int) := by omega
        have h16d : decide (16 < l.length) = true := decide_eq_true h16
        clear h16 HLV
        go_wp2_with (go_at_call 52; refine (PR.out _ R6.out).mono ?_; rintro e w7 ⟨rfl, rfl⟩)
        refine bodyPost_ret (v := .tuple #[.agg #[.slice p1 t.items.length c1, .slice p2 t.slack.length c2], .int .i64 30]) ?_ rfl (rlineP.bad HN.out (by decide) HB.out _ _ _ _ _ _)
        rw [results_cell_tmp rfl]
        have hld := HL.out
        simp [asAddr, Result.andThen, hld]
      · have HN : Hid (lineS t true s = (⟨t.items, l⟩, 0)) := Lib.hid (by rw [HLV.out, if_neg h16])
        have h16i : ¬ (16 : Int) < (l.length : Int) := by omega
        have h16d : decide (16 < l.length) = false := decide_eq_false h16
        have HL2 := Lib.hid (rtree_load (set2_blk CR2.out (.slice none 0 0) (.slice pu l.length cu)))
        have HB2 := Lib.hid (set2_below B2.out (Nat.le_succ _) (.slice none 0 0) (.slice pu l.length cu))
        have RF : Hid (RI (set2 w2 (W.heap.size + 1) (.slice none 0 0) (.slice pu l.length cu)) (.slice pu l.length cu) l) := Lib.hid (R6.out.of_block (by rw [set2_size]; exact Nat.le_refl _) (fun k hk => set2_other (by have := (RI_own_block (HU.out l rfl)).1 k hk; have := LT1.out; omega) _ _))
        clear h16 HLV
        go_wp2_with (go_at_call 52; refine (PR.out _ R6.out).mono ?_; rintro e w7 ⟨rfl, rfl⟩)
        refine bodyPost_ret (v := .tuple #[.agg #[.slice none 0 0, .slice pu l.length cu], .int .i64 0]) ?_ rfl (rlineP.good HN.out (by rw [HNE.out]; exact RT_nil _) (by intro n c h; injection h with _ _ h; exact h.symm) RF.out HB2.out)
        rw [results_cell_tmp rfl]
        have hld := HL2.out
        simp [asAddr, Result.andThen, hld]
end Go.Proofs.YtophilmjfdhhaaaGreatDoor
