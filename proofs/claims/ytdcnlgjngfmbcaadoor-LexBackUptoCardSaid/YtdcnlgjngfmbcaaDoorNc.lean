/- Pairs: lex.Pair at every text. -/
import Derived.Test.YtdcnlgjngfmbcaaDoorNb
import Derived.Laws.ResultCell
namespace Go.Proofs.YtdcnlgjngfmbcaaDoor
open Go Go.RowKit Go.Shelf
set_option linter.unusedVariables false
set_option linter.unusedSimpArgs false
set_option maxRecDepth 100000
set_option maxHeartbeats 1600000

/-- A reserve as it is. -/
abbrev rsv (q p : Int) : Value := .agg #[.int .i64 q, .int .i64 p]
def okP (q p : Int) : Prop := 1 ≤ q ∧ q ≤ p ∧ p ≤ 1048576
instance (q p : Int) : Decidable (okP q p) := by unfold okP; infer_instance
def vErr (q p : Int) : Int := if okP q p then 0 else 2
theorem fvalid_c (q p : Int) (W : World) :
    Calls Tryd.prog 36 #[rsv q p] W fun e w' => e = .returned (errOf (vErr q p)) ∧ Below W.heap.size W w' := by
  have hA : Below W.heap.size W (W.alloc (.cells #[.int .i64 q, .int .i64 p] 56)) := (Below.refl _ _).alloc (Nat.le_refl _) _
  by_cases h1 : q < 1
  · have HR : Hid (vErr q p = 2) := Lib.hid (if_neg (fun h => by have := h.1; omega))
    go_enter Tryd.func36, Tryd.ntmps36
    go_wp2_with fail
    go_ret
    exact ⟨by rw [HR.out]; rfl, hA⟩
  · by_cases h2 : 1048576 < p
    · have HR : Hid (vErr q p = 2) := Lib.hid (if_neg (fun h => by have := h.2.2; omega))
      go_enter Tryd.func36, Tryd.ntmps36
      go_wp2_with fail
      go_ret
      exact ⟨by rw [HR.out]; rfl, hA⟩
    · by_cases h3 : p < q
      · have HR : Hid (vErr q p = 2) := Lib.hid (if_neg (fun h => by have := h.2.1; omega))
        have d3 : decide (p < q) = true := decide_eq_true h3
        go_enter Tryd.func36, Tryd.ntmps36
        go_wp2_with fail
        go_ret
        exact ⟨by rw [HR.out]; rfl, hA⟩
      · have HR : Hid (vErr q p = 0) := Lib.hid (if_pos ⟨by omega, by omega, by omega⟩)
        have d3 : decide (p < q) = false := decide_eq_false h3
        go_enter Tryd.func36, Tryd.ntmps36
        go_wp2_with fail
        go_ret
        exact ⟨by rw [HR.out]; rfl, hA⟩
theorem Tryd.infoRsv : (Tryd.prog.info? 56).map (·.size) = some 2 := by kernel_rfl
section
variable {w : World} {B : Nat} {x y : Value}
theorem two_c0 (C : w.heap[B]? = some (.cells #[x, y] 56)) : w.cell? ⟨B, 0, none⟩ = some x := by simp [World.cell?, C]
theorem two_c1 (C : w.heap[B]? = some (.cells #[x, y] 56)) : w.cell? ⟨B, 1, none⟩ = some y := by simp [World.cell?, C]
theorem two_f (C : w.heap[B]? = some (.cells #[x, y] 56)) (i : Nat) : w.frozen? ⟨B, i, none⟩ = false := by simp [World.frozen?, C]
theorem two_s (C : w.heap[B]? = some (.cells #[x, y] 56)) (v : Value) : (w.setCell ⟨B, 0, none⟩ v).heap[B]? = some (.cells #[v, y] 56) := by
  simp [World.setCell, Array.getElem?_modify, C]
theorem two_t (C : w.heap[B]? = some (.cells #[x, y] 56)) (v : Value) : (w.setCell ⟨B, 1, none⟩ v).heap[B]? = some (.cells #[x, v] 56) := by
  simp [World.setCell, Array.getElem?_modify, C]
theorem two_lt (C : w.heap[B]? = some (.cells #[x, y] 56)) : B < w.heap.size := (Array.getElem?_eq_some_iff.1 C).1
theorem two_alloc (C : w.heap[B]? = some (.cells #[x, y] 56)) (o : Obj) : (w.alloc o).heap[B]? = some (.cells #[x, y] 56) := by
  show (w.heap.push _)[B]? = _
  rw [Array.getElem?_push_lt (two_lt C), ← C]
  exact (Array.getElem?_eq_getElem (two_lt C)).symm
theorem two_load (C : w.heap[B]? = some (.cells #[x, y] 56)) : (loadVar 56 ⟨B, 0, none⟩).run Tryd.prog w = .ok (.agg #[x, y]) w :=
  run_loadVar_row w B 56 56 #[x, y] (0, 0) _ C Tryd.underlying56 rfl Tryd.infoRsv
theorem errOf0 : errOf 0 = .nilIface := rfl
theorem errOf2 : errOf 2 = errN 2 := rfl
theorem errOf4 : errOf 4 = errN 4 := rfl
theorem setCell_below {W : World} {n k : Nat} {v : Value} (h : Below n W w) (hB : n ≤ B) : Below n W (w.setCell ⟨B, k, none⟩ v) := h.setCell (p := ⟨B, k, none⟩) hB v
end
theorem eq0 (w : World) : (binOp BinOp.eql 24 .nilIface (errN 4)).run Tryd.prog w = .ok (.bool false) w := by kernel_rfl
theorem eq2 (w : World) : (binOp BinOp.eql 24 (errN 2) (errN 4)).run Tryd.prog w = .ok (.bool false) w := by kernel_rfl
theorem eq4 (w : World) : (binOp BinOp.eql 24 (errN 4) (errN 4)).run Tryd.prog w = .ok (.bool true) w := by kernel_rfl
theorem ne0 (w : World) : (binOp BinOp.neq 24 .nilIface .nilIface).run Tryd.prog w = .ok (.bool false) w := by kernel_rfl
theorem ne2 (w : World) : (binOp BinOp.neq 24 (errN 2) .nilIface).run Tryd.prog w = .ok (.bool true) w := by kernel_rfl
/-- A text as a pair: the numbers, and the error's number. -/
def pairGo (a b : Int × Int) : (Int × Int) × Int :=
  if a.2 = 4 ∨ b.2 = 4 then ((0, 0), 4) else if a.2 ≠ 0 ∨ b.2 ≠ 0 ∨ ¬ okP a.1 b.1 then ((0, 0), 2) else ((a.1, b.1), 0)
def pairS (l : List UInt8) : (Int × Int) × Int :=
  if (cutAt 47 l).2.isSome = false then ((0, 0), 4) else pairGo (numS (cutAt 47 l).1) (numS ((cutAt 47 l).2.getD []))
theorem numS_err (l : List UInt8) : (numS l).2 = 0 ∨ (numS l).2 = 2 ∨ (numS l).2 = 4 := by
  unfold numS
  split
  · exact .inr (.inr rfl)
  · split
    · exact .inr (.inr rfl)
    · split
      · exact .inr (.inl rfl)
      · exact .inl rfl
theorem num_l (l : List UInt8) (W : World) (hs : l.length ≤ 140737488355328) :
    Calls Tryd.prog 20 #[str l] W fun e w' => e = .returned (.tuple #[.int .i64 (numS l).1, errOf (numS l).2]) ∧ Below W.heap.size W w' :=
  num_any ⟨l.toArray⟩ W (by rw [sz]; exact hs)
theorem pair_any (l : List UInt8) (W : World) (E : Env W) (hs : l.length < 4294967281) :
    Calls Tryd.prog 22 #[str l] W fun e w' => e = .returned (.tuple #[rsv (pairS l).1.1 (pairS l).1.2, errOf (pairS l).2]) ∧ Below W.heap.size W w' := by
  obtain ⟨w0, hw0⟩ : ∃ w0, w0 = W.alloc (.cells #[.int .i64 0, .int .i64 0] 56) := ⟨_, rfl⟩
  have b0 : Below W.heap.size W w0 := by rw [hw0]; exact (Below.refl _ _).alloc (Nat.le_refl _) _
  have c0 : w0.heap[W.heap.size]? = some (.cells #[.int .i64 0, .int .i64 0] 56) := by rw [hw0]; show (W.heap.push _)[W.heap.size]? = _; exact Array.getElem?_push_size
  have hb := Lib.hid hw0
  have CT := Lib.hid (cut1_c l 47 w0 (E.below b0) hs)
  have hl := cutAt_len 47 l
  have HS : Hid (pairS l = if (cutAt 47 l).2.isSome = false then ((0, 0), 4) else pairGo (numS (cutAt 47 l).1) (numS ((cutAt 47 l).2.getD []))) := Lib.hid rfl
  clear E
  have q0 := eq0
  have q2 := eq2
  have q4 := eq4
  have n0 := ne0
  have n2 := ne2
  go_enter Tryd.func22, Tryd.ntmps22
  go_wp2_with fail
  rw [← hb.out]
  refine CT.out.mono ?_
  rintro e w1 ⟨rfl, be1⟩
  have B1 := b0.trans (be1.mono b0.size)
  have C1 : w1.heap[W.heap.size]? = some (.cells #[.int .i64 0, .int .i64 0] 56) := by rw [be1.block W.heap.size (Array.getElem?_eq_some_iff.1 c0).1]; exact c0
  clear be1 b0 c0 hw0 hb CT
  generalize hx : (cutAt 47 l).1 = x at *
  generalize hy : (cutAt 47 l).2.getD [] = y at *
  have hxl : x.length ≤ 140737488355328 := by omega
  have hyl : y.length ≤ 140737488355328 := by
    rw [← hy]
    cases h : (cutAt 47 l).2 with
    | none => simp
    | some r => have := hl.2 r h; simp; omega
  clear hx hy hl
  generalize (cutAt 47 l).2.isSome = is at *
  have NX := Lib.hid (fun W => num_l x W hxl)
  have NY := Lib.hid (fun W => num_l y W hyl)
  have ex := numS_err x
  have ey := numS_err y
  generalize numS x = a at *
  generalize numS y = b at *
  go_wp2_with fail
  refine (NX.out w1).mono ?_
  rintro e w2 ⟨rfl, be2⟩
  go_wp2_with fail
  refine (NY.out w2).mono ?_
  rintro e w3 ⟨rfl, be3⟩
  have lt1 : W.heap.size < w1.heap.size := (Array.getElem?_eq_some_iff.1 C1).1
  have B3 := (B1.trans (be2.mono B1.size)).trans (be3.mono (B1.trans (be2.mono B1.size)).size)
  have C3 : w3.heap[W.heap.size]? = some (.cells #[.int .i64 0, .int .i64 0] 56) := by
    rw [be3.block W.heap.size (Nat.lt_of_lt_of_le lt1 be2.size), be2.block W.heap.size lt1]; exact C1
  clear be2 be3 B1 C1 lt1 NX NY
  cases is with
  | false =>
    have HR : Hid (pairS l = ((0, 0), 4)) := Lib.hid (by rw [HS.out, if_pos rfl])
    clear HS
    have hc0 : ∀ o, (w3.alloc o).cell? ⟨W.heap.size, 0, none⟩ = some (.int .i64 0) := fun o => two_c0 (two_alloc C3 o)
    have hf0 : ∀ o, (w3.alloc o).frozen? ⟨W.heap.size, 0, none⟩ = false := fun o => two_f (two_alloc C3 o) 0
    have hc1 : ∀ v o, ((w3.setCell ⟨W.heap.size, 0, none⟩ v).alloc o).cell? ⟨W.heap.size, 1, none⟩ = some (.int .i64 0) := fun v o => two_c1 (two_alloc (two_s C3 v) o)
    have hf1 : ∀ v o, ((w3.setCell ⟨W.heap.size, 0, none⟩ v).alloc o).frozen? ⟨W.heap.size, 1, none⟩ = false := fun v o => two_f (two_alloc (two_s C3 v) o) 1
    have hld : ∀ v u o, (loadVar 56 ⟨W.heap.size, 0, none⟩).run Tryd.prog (((w3.setCell ⟨W.heap.size, 0, none⟩ v).setCell ⟨W.heap.size, 1, none⟩ u).alloc o) = .ok (.agg #[v, u]) (((w3.setCell ⟨W.heap.size, 0, none⟩ v).setCell ⟨W.heap.size, 1, none⟩ u).alloc o) := fun v u o => two_load (two_alloc (two_t (two_s C3 v) u) o)
    have lt3 := two_lt C3
    clear C3
    go_wp2_with fail
    (try simp only [Exit.inBlock, Exit.then])
    refine bodyPost_ret (v := .tuple #[rsv 0 0, errN 4]) ?_ rfl ⟨by rw [HR.out]; rfl, ?_⟩
    · rw [results_cell_tmp rfl]
      simp [asAddr, Result.andThen, hld]
    · exact ((setCell_below (setCell_below B3 (Nat.le_refl _)) (Nat.le_refl _)).alloc (by simp; exact Nat.le_of_lt lt3) _)
  | true =>
    have HP : Hid (pairS l = pairGo a b) := Lib.hid (by rw [HS.out, if_neg (by simp)])
    obtain ⟨an, ae⟩ := a
    obtain ⟨bn, be⟩ := b
    simp only at ex ey
    rcases ex with rfl | rfl | rfl
    · rcases ey with rfl | rfl | rfl
      · have HQ : Hid (pairS l = if okP an bn then ((an, bn), 0) else ((0, 0), 2)) := Lib.hid (by rw [HP.out]; unfold pairGo; by_cases h : okP an bn <;> simp [h])
        clear HS HP
        have c3' := two_alloc C3 (.cells #[.int .i64 an, .int .i64 bn] 56)
        have lt3 := two_lt C3
        have d3 : (w3.alloc (.cells #[.int .i64 an, .int .i64 bn] 56)).heap[w3.heap.size]? = some (.cells #[.int .i64 an, .int .i64 bn] 56) := by
          show (w3.heap.push _)[w3.heap.size]? = _
          exact Array.getElem?_push_size
        have B4 := B3.alloc (by omega) (.cells #[.int .i64 an, .int .i64 bn] 56)
        have VC := Lib.hid (fvalid_c an bn)
        have CC := Lib.hid c3'
        have DD := Lib.hid d3
        clear C3 c3' d3
        simp only [errOf0, errOf2, errOf4]
        go_wp2_with fail
        refine (VC.out _).mono ?_
        rintro e w5 ⟨rfl, be5⟩
        have C5 : w5.heap[W.heap.size]? = some (.cells #[.int .i64 0, .int .i64 0] 56) := (be5.block _ (two_lt CC.out)).trans CC.out
        have D5 : w5.heap[w3.heap.size]? = some (.cells #[.int .i64 an, .int .i64 bn] 56) := (be5.block _ (two_lt DD.out)).trans DD.out
        have B5 := B4.trans (be5.mono B4.size)
        clear CC DD VC B4 be5
        have hne : ¬ w3.heap.size = W.heap.size := by omega
        have hc0 := two_c0 C5
        have hf0 := two_f C5 0
        have hc1 : ∀ v, (w5.setCell ⟨W.heap.size, 0, none⟩ v).cell? ⟨W.heap.size, 1, none⟩ = some (.int .i64 0) := fun v => two_c1 (two_s C5 v)
        have hf1 : ∀ v, (w5.setCell ⟨W.heap.size, 0, none⟩ v).frozen? ⟨W.heap.size, 1, none⟩ = false := fun v => two_f (two_s C5 v) 1
        have hld : ∀ v u, (loadVar 56 ⟨W.heap.size, 0, none⟩).run Tryd.prog ((w5.setCell ⟨W.heap.size, 0, none⟩ v).setCell ⟨W.heap.size, 1, none⟩ u) = .ok (.agg #[v, u]) ((w5.setCell ⟨W.heap.size, 0, none⟩ v).setCell ⟨W.heap.size, 1, none⟩ u) := fun v u => two_load (two_t (two_s C5 v) u)
        have hk0 := two_c0 D5
        have hk1 := two_c1 D5
        clear C5 D5
        by_cases hok : okP an bn
        · have HR : Hid (pairS l = ((an, bn), 0)) := Lib.hid (by rw [HQ.out, if_pos hok])
          have hv : vErr an bn = 0 := if_pos hok
          rw [hv, errOf0]
          clear hok hv HQ B3
          go_wp2_with fail
          (try simp only [Exit.inBlock, Exit.then])
          refine bodyPost_ret (v := .tuple #[rsv an bn, .nilIface]) ?_ rfl ⟨by rw [HR.out]; rfl, ?_⟩
          · rw [results_cell_tmp rfl]
            simp [asAddr, Result.andThen, hld]
          · exact setCell_below (setCell_below B5 (Nat.le_refl _)) (Nat.le_refl _)
        · have HR : Hid (pairS l = ((0, 0), 2)) := Lib.hid (by rw [HQ.out, if_neg hok])
          have hv : vErr an bn = 2 := if_neg hok
          rw [hv, errOf2]
          clear hok hv HQ B3
          go_wp2_with fail
          (try simp only [Exit.inBlock, Exit.then])
          refine bodyPost_ret (v := .tuple #[rsv 0 0, errN 2]) ?_ rfl ⟨by rw [HR.out]; rfl, ?_⟩
          · rw [results_cell_tmp rfl]
            simp [asAddr, Result.andThen, hld]
          · exact setCell_below (setCell_below B5 (Nat.le_refl _)) (Nat.le_refl _)
      · have HR : Hid (pairS l = ((0, 0), 2)) := Lib.hid (by rw [HP.out]; unfold pairGo; simp)
        clear HS
        have hc0 : ∀ o, (w3.alloc o).cell? ⟨W.heap.size, 0, none⟩ = some (.int .i64 0) := fun o => two_c0 (two_alloc C3 o)
        have hf0 : ∀ o, (w3.alloc o).frozen? ⟨W.heap.size, 0, none⟩ = false := fun o => two_f (two_alloc C3 o) 0
        have hc1 : ∀ v o, ((w3.setCell ⟨W.heap.size, 0, none⟩ v).alloc o).cell? ⟨W.heap.size, 1, none⟩ = some (.int .i64 0) := fun v o => two_c1 (two_alloc (two_s C3 v) o)
        have hf1 : ∀ v o, ((w3.setCell ⟨W.heap.size, 0, none⟩ v).alloc o).frozen? ⟨W.heap.size, 1, none⟩ = false := fun v o => two_f (two_alloc (two_s C3 v) o) 1
        have hld : ∀ v u o, (loadVar 56 ⟨W.heap.size, 0, none⟩).run Tryd.prog (((w3.setCell ⟨W.heap.size, 0, none⟩ v).setCell ⟨W.heap.size, 1, none⟩ u).alloc o) = .ok (.agg #[v, u]) (((w3.setCell ⟨W.heap.size, 0, none⟩ v).setCell ⟨W.heap.size, 1, none⟩ u).alloc o) := fun v u o => two_load (two_alloc (two_t (two_s C3 v) u) o)
        have lt3 := two_lt C3
        clear C3
        simp only [errOf0, errOf2, errOf4]
        go_wp2_with fail
        (try simp only [Exit.inBlock, Exit.then])
        refine bodyPost_ret (v := .tuple #[rsv 0 0, errN 2]) ?_ rfl ⟨by rw [HR.out]; rfl, ?_⟩
        · rw [results_cell_tmp rfl]
          simp [asAddr, Result.andThen, hld]
        · exact ((setCell_below (setCell_below B3 (Nat.le_refl _)) (Nat.le_refl _)).alloc (by simp; exact Nat.le_of_lt lt3) _)
      · have HR : Hid (pairS l = ((0, 0), 4)) := Lib.hid (by rw [HP.out]; unfold pairGo; simp)
        clear HS
        have hc0 : ∀ o, (w3.alloc o).cell? ⟨W.heap.size, 0, none⟩ = some (.int .i64 0) := fun o => two_c0 (two_alloc C3 o)
        have hf0 : ∀ o, (w3.alloc o).frozen? ⟨W.heap.size, 0, none⟩ = false := fun o => two_f (two_alloc C3 o) 0
        have hc1 : ∀ v o, ((w3.setCell ⟨W.heap.size, 0, none⟩ v).alloc o).cell? ⟨W.heap.size, 1, none⟩ = some (.int .i64 0) := fun v o => two_c1 (two_alloc (two_s C3 v) o)
        have hf1 : ∀ v o, ((w3.setCell ⟨W.heap.size, 0, none⟩ v).alloc o).frozen? ⟨W.heap.size, 1, none⟩ = false := fun v o => two_f (two_alloc (two_s C3 v) o) 1
        have hld : ∀ v u o, (loadVar 56 ⟨W.heap.size, 0, none⟩).run Tryd.prog (((w3.setCell ⟨W.heap.size, 0, none⟩ v).setCell ⟨W.heap.size, 1, none⟩ u).alloc o) = .ok (.agg #[v, u]) (((w3.setCell ⟨W.heap.size, 0, none⟩ v).setCell ⟨W.heap.size, 1, none⟩ u).alloc o) := fun v u o => two_load (two_alloc (two_t (two_s C3 v) u) o)
        have lt3 := two_lt C3
        clear C3
        simp only [errOf0, errOf2, errOf4]
        go_wp2_with fail
        (try simp only [Exit.inBlock, Exit.then])
        refine bodyPost_ret (v := .tuple #[rsv 0 0, errN 4]) ?_ rfl ⟨by rw [HR.out]; rfl, ?_⟩
        · rw [results_cell_tmp rfl]
          simp [asAddr, Result.andThen, hld]
        · exact ((setCell_below (setCell_below B3 (Nat.le_refl _)) (Nat.le_refl _)).alloc (by simp; exact Nat.le_of_lt lt3) _)
    · rcases ey with rfl | rfl | rfl
      · have HR : Hid (pairS l = ((0, 0), 2)) := Lib.hid (by rw [HP.out]; unfold pairGo; simp)
        clear HS
        have hc0 : ∀ o, (w3.alloc o).cell? ⟨W.heap.size, 0, none⟩ = some (.int .i64 0) := fun o => two_c0 (two_alloc C3 o)
        have hf0 : ∀ o, (w3.alloc o).frozen? ⟨W.heap.size, 0, none⟩ = false := fun o => two_f (two_alloc C3 o) 0
        have hc1 : ∀ v o, ((w3.setCell ⟨W.heap.size, 0, none⟩ v).alloc o).cell? ⟨W.heap.size, 1, none⟩ = some (.int .i64 0) := fun v o => two_c1 (two_alloc (two_s C3 v) o)
        have hf1 : ∀ v o, ((w3.setCell ⟨W.heap.size, 0, none⟩ v).alloc o).frozen? ⟨W.heap.size, 1, none⟩ = false := fun v o => two_f (two_alloc (two_s C3 v) o) 1
        have hld : ∀ v u o, (loadVar 56 ⟨W.heap.size, 0, none⟩).run Tryd.prog (((w3.setCell ⟨W.heap.size, 0, none⟩ v).setCell ⟨W.heap.size, 1, none⟩ u).alloc o) = .ok (.agg #[v, u]) (((w3.setCell ⟨W.heap.size, 0, none⟩ v).setCell ⟨W.heap.size, 1, none⟩ u).alloc o) := fun v u o => two_load (two_alloc (two_t (two_s C3 v) u) o)
        have lt3 := two_lt C3
        clear C3
        simp only [errOf0, errOf2, errOf4]
        go_wp2_with fail
        (try simp only [Exit.inBlock, Exit.then])
        refine bodyPost_ret (v := .tuple #[rsv 0 0, errN 2]) ?_ rfl ⟨by rw [HR.out]; rfl, ?_⟩
        · rw [results_cell_tmp rfl]
          simp [asAddr, Result.andThen, hld]
        · exact ((setCell_below (setCell_below B3 (Nat.le_refl _)) (Nat.le_refl _)).alloc (by simp; exact Nat.le_of_lt lt3) _)
      · have HR : Hid (pairS l = ((0, 0), 2)) := Lib.hid (by rw [HP.out]; unfold pairGo; simp)
        clear HS
        have hc0 : ∀ o, (w3.alloc o).cell? ⟨W.heap.size, 0, none⟩ = some (.int .i64 0) := fun o => two_c0 (two_alloc C3 o)
        have hf0 : ∀ o, (w3.alloc o).frozen? ⟨W.heap.size, 0, none⟩ = false := fun o => two_f (two_alloc C3 o) 0
        have hc1 : ∀ v o, ((w3.setCell ⟨W.heap.size, 0, none⟩ v).alloc o).cell? ⟨W.heap.size, 1, none⟩ = some (.int .i64 0) := fun v o => two_c1 (two_alloc (two_s C3 v) o)
        have hf1 : ∀ v o, ((w3.setCell ⟨W.heap.size, 0, none⟩ v).alloc o).frozen? ⟨W.heap.size, 1, none⟩ = false := fun v o => two_f (two_alloc (two_s C3 v) o) 1
        have hld : ∀ v u o, (loadVar 56 ⟨W.heap.size, 0, none⟩).run Tryd.prog (((w3.setCell ⟨W.heap.size, 0, none⟩ v).setCell ⟨W.heap.size, 1, none⟩ u).alloc o) = .ok (.agg #[v, u]) (((w3.setCell ⟨W.heap.size, 0, none⟩ v).setCell ⟨W.heap.size, 1, none⟩ u).alloc o) := fun v u o => two_load (two_alloc (two_t (two_s C3 v) u) o)
        have lt3 := two_lt C3
        clear C3
        simp only [errOf0, errOf2, errOf4]
        go_wp2_with fail
        (try simp only [Exit.inBlock, Exit.then])
        refine bodyPost_ret (v := .tuple #[rsv 0 0, errN 2]) ?_ rfl ⟨by rw [HR.out]; rfl, ?_⟩
        · rw [results_cell_tmp rfl]
          simp [asAddr, Result.andThen, hld]
        · exact ((setCell_below (setCell_below B3 (Nat.le_refl _)) (Nat.le_refl _)).alloc (by simp; exact Nat.le_of_lt lt3) _)
      · have HR : Hid (pairS l = ((0, 0), 4)) := Lib.hid (by rw [HP.out]; unfold pairGo; simp)
        clear HS
        have hc0 : ∀ o, (w3.alloc o).cell? ⟨W.heap.size, 0, none⟩ = some (.int .i64 0) := fun o => two_c0 (two_alloc C3 o)
        have hf0 : ∀ o, (w3.alloc o).frozen? ⟨W.heap.size, 0, none⟩ = false := fun o => two_f (two_alloc C3 o) 0
        have hc1 : ∀ v o, ((w3.setCell ⟨W.heap.size, 0, none⟩ v).alloc o).cell? ⟨W.heap.size, 1, none⟩ = some (.int .i64 0) := fun v o => two_c1 (two_alloc (two_s C3 v) o)
        have hf1 : ∀ v o, ((w3.setCell ⟨W.heap.size, 0, none⟩ v).alloc o).frozen? ⟨W.heap.size, 1, none⟩ = false := fun v o => two_f (two_alloc (two_s C3 v) o) 1
        have hld : ∀ v u o, (loadVar 56 ⟨W.heap.size, 0, none⟩).run Tryd.prog (((w3.setCell ⟨W.heap.size, 0, none⟩ v).setCell ⟨W.heap.size, 1, none⟩ u).alloc o) = .ok (.agg #[v, u]) (((w3.setCell ⟨W.heap.size, 0, none⟩ v).setCell ⟨W.heap.size, 1, none⟩ u).alloc o) := fun v u o => two_load (two_alloc (two_t (two_s C3 v) u) o)
        have lt3 := two_lt C3
        clear C3
        simp only [errOf0, errOf2, errOf4]
        go_wp2_with fail
        (try simp only [Exit.inBlock, Exit.then])
        refine bodyPost_ret (v := .tuple #[rsv 0 0, errN 4]) ?_ rfl ⟨by rw [HR.out]; rfl, ?_⟩
        · rw [results_cell_tmp rfl]
          simp [asAddr, Result.andThen, hld]
        · exact ((setCell_below (setCell_below B3 (Nat.le_refl _)) (Nat.le_refl _)).alloc (by simp; exact Nat.le_of_lt lt3) _)
    · rcases ey with rfl | rfl | rfl
      · have HR : Hid (pairS l = ((0, 0), 4)) := Lib.hid (by rw [HP.out]; unfold pairGo; simp)
        clear HS
        have hc0 : ∀ o, (w3.alloc o).cell? ⟨W.heap.size, 0, none⟩ = some (.int .i64 0) := fun o => two_c0 (two_alloc C3 o)
        have hf0 : ∀ o, (w3.alloc o).frozen? ⟨W.heap.size, 0, none⟩ = false := fun o => two_f (two_alloc C3 o) 0
        have hc1 : ∀ v o, ((w3.setCell ⟨W.heap.size, 0, none⟩ v).alloc o).cell? ⟨W.heap.size, 1, none⟩ = some (.int .i64 0) := fun v o => two_c1 (two_alloc (two_s C3 v) o)
        have hf1 : ∀ v o, ((w3.setCell ⟨W.heap.size, 0, none⟩ v).alloc o).frozen? ⟨W.heap.size, 1, none⟩ = false := fun v o => two_f (two_alloc (two_s C3 v) o) 1
        have hld : ∀ v u o, (loadVar 56 ⟨W.heap.size, 0, none⟩).run Tryd.prog (((w3.setCell ⟨W.heap.size, 0, none⟩ v).setCell ⟨W.heap.size, 1, none⟩ u).alloc o) = .ok (.agg #[v, u]) (((w3.setCell ⟨W.heap.size, 0, none⟩ v).setCell ⟨W.heap.size, 1, none⟩ u).alloc o) := fun v u o => two_load (two_alloc (two_t (two_s C3 v) u) o)
        have lt3 := two_lt C3
        clear C3
        simp only [errOf0, errOf2, errOf4]
        go_wp2_with fail
        (try simp only [Exit.inBlock, Exit.then])
        refine bodyPost_ret (v := .tuple #[rsv 0 0, errN 4]) ?_ rfl ⟨by rw [HR.out]; rfl, ?_⟩
        · rw [results_cell_tmp rfl]
          simp [asAddr, Result.andThen, hld]
        · exact ((setCell_below (setCell_below B3 (Nat.le_refl _)) (Nat.le_refl _)).alloc (by simp; exact Nat.le_of_lt lt3) _)
      · have HR : Hid (pairS l = ((0, 0), 4)) := Lib.hid (by rw [HP.out]; unfold pairGo; simp)
        clear HS
        have hc0 : ∀ o, (w3.alloc o).cell? ⟨W.heap.size, 0, none⟩ = some (.int .i64 0) := fun o => two_c0 (two_alloc C3 o)
        have hf0 : ∀ o, (w3.alloc o).frozen? ⟨W.heap.size, 0, none⟩ = false := fun o => two_f (two_alloc C3 o) 0
        have hc1 : ∀ v o, ((w3.setCell ⟨W.heap.size, 0, none⟩ v).alloc o).cell? ⟨W.heap.size, 1, none⟩ = some (.int .i64 0) := fun v o => two_c1 (two_alloc (two_s C3 v) o)
        have hf1 : ∀ v o, ((w3.setCell ⟨W.heap.size, 0, none⟩ v).alloc o).frozen? ⟨W.heap.size, 1, none⟩ = false := fun v o => two_f (two_alloc (two_s C3 v) o) 1
        have hld : ∀ v u o, (loadVar 56 ⟨W.heap.size, 0, none⟩).run Tryd.prog (((w3.setCell ⟨W.heap.size, 0, none⟩ v).setCell ⟨W.heap.size, 1, none⟩ u).alloc o) = .ok (.agg #[v, u]) (((w3.setCell ⟨W.heap.size, 0, none⟩ v).setCell ⟨W.heap.size, 1, none⟩ u).alloc o) := fun v u o => two_load (two_alloc (two_t (two_s C3 v) u) o)
        have lt3 := two_lt C3
        clear C3
        simp only [errOf0, errOf2, errOf4]
        go_wp2_with fail
        (try simp only [Exit.inBlock, Exit.then])
        refine bodyPost_ret (v := .tuple #[rsv 0 0, errN 4]) ?_ rfl ⟨by rw [HR.out]; rfl, ?_⟩
        · rw [results_cell_tmp rfl]
          simp [asAddr, Result.andThen, hld]
        · exact ((setCell_below (setCell_below B3 (Nat.le_refl _)) (Nat.le_refl _)).alloc (by simp; exact Nat.le_of_lt lt3) _)
      · have HR : Hid (pairS l = ((0, 0), 4)) := Lib.hid (by rw [HP.out]; unfold pairGo; simp)
        clear HS
        have hc0 : ∀ o, (w3.alloc o).cell? ⟨W.heap.size, 0, none⟩ = some (.int .i64 0) := fun o => two_c0 (two_alloc C3 o)
        have hf0 : ∀ o, (w3.alloc o).frozen? ⟨W.heap.size, 0, none⟩ = false := fun o => two_f (two_alloc C3 o) 0
        have hc1 : ∀ v o, ((w3.setCell ⟨W.heap.size, 0, none⟩ v).alloc o).cell? ⟨W.heap.size, 1, none⟩ = some (.int .i64 0) := fun v o => two_c1 (two_alloc (two_s C3 v) o)
        have hf1 : ∀ v o, ((w3.setCell ⟨W.heap.size, 0, none⟩ v).alloc o).frozen? ⟨W.heap.size, 1, none⟩ = false := fun v o => two_f (two_alloc (two_s C3 v) o) 1
        have hld : ∀ v u o, (loadVar 56 ⟨W.heap.size, 0, none⟩).run Tryd.prog (((w3.setCell ⟨W.heap.size, 0, none⟩ v).setCell ⟨W.heap.size, 1, none⟩ u).alloc o) = .ok (.agg #[v, u]) (((w3.setCell ⟨W.heap.size, 0, none⟩ v).setCell ⟨W.heap.size, 1, none⟩ u).alloc o) := fun v u o => two_load (two_alloc (two_t (two_s C3 v) u) o)
        have lt3 := two_lt C3
        clear C3
        simp only [errOf0, errOf2, errOf4]
        go_wp2_with fail
        (try simp only [Exit.inBlock, Exit.then])
        refine bodyPost_ret (v := .tuple #[rsv 0 0, errN 4]) ?_ rfl ⟨by rw [HR.out]; rfl, ?_⟩
        · rw [results_cell_tmp rfl]
          simp [asAddr, Result.andThen, hld]
        · exact ((setCell_below (setCell_below B3 (Nat.le_refl _)) (Nat.le_refl _)).alloc (by simp; exact Nat.le_of_lt lt3) _)
end Go.Proofs.YtdcnlgjngfmbcaaDoor
