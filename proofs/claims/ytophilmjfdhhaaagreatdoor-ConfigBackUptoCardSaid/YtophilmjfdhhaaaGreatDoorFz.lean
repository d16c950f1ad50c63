/- The reference's node of layer 25. -/
import Derived.Test.YtophilmjfdhhaaaGreatDoorFya
namespace Go.Proofs.YtophilmjfdhhaaaGreatDoor
open Go Go.RowKit Go.Shelf Go.Sort
set_option linter.unusedVariables false
set_option linter.unusedSimpArgs false
set_option maxRecDepth 100000
set_option maxHeartbeats 4000000

theorem Tryz.infoRItem : (Tryz.prog.info? 73).map (·.size) = some 5 := by kernel_rfl
theorem ritem_load {w : World} {B : Nat} {a b c d e : Value} (C : w.heap[B]? = some (.cells #[a, b, c, d, e] 73)) : (loadVar 73 ⟨B, 0, none⟩).run Tryz.prog w = .ok (.agg #[a, b, c, d, e]) w :=
  run_loadVar_row w B 73 73 #[a, b, c, d, e] (0, 0) _ C Tryz.underlying73 rfl Tryz.infoRItem
/-- Five stores into one block. -/
abbrev set5 (w : World) (R : Nat) (a b c d e : Value) : World := ((((w.setCell ⟨R, 0, none⟩ a).setCell ⟨R, 1, none⟩ b).setCell ⟨R, 2, none⟩ c).setCell ⟨R, 3, none⟩ d).setCell ⟨R, 4, none⟩ e
theorem set5_blk {w : World} {R : Nat} {t : TypeId} {x0 x1 x2 x3 x4 : Value} (h : w.heap[R]? = some (.cells #[x0, x1, x2, x3, x4] t)) (a b c d e : Value) : (set5 w R a b c d e).heap[R]? = some (.cells #[a, b, c, d, e] t) :=
  blk_set (blk_set (blk_set (blk_set (blk_set h 0 a) 1 b) 2 c) 3 d) 4 e
theorem set5_other {w : World} {R k : Nat} (h : k ≠ R) (a b c d e : Value) : (set5 w R a b c d e).heap[k]? = w.heap[k]? := by
  unfold set5
  rw [blk_set_other h, blk_set_other h, blk_set_other h, blk_set_other h, blk_set_other h]
theorem set5_size (w : World) (R : Nat) (a b c d e : Value) : (set5 w R a b c d e).heap.size = w.heap.size := by simp [set5]
theorem set5_belowN {W w : World} {n R : Nat} (h : Below n W w) (hR : n ≤ R) (a b c d e : Value) : Below n W (set5 w R a b c d e) :=
  ((((h.setCell (p := ⟨R, 0, none⟩) hR _).setCell (p := ⟨R, 1, none⟩) hR _).setCell (p := ⟨R, 2, none⟩) hR _).setCell (p := ⟨R, 3, none⟩) hR _).setCell (p := ⟨R, 4, none⟩) hR _
/-- What the reference's node leaves. -/
def rnodeP (ws : List (List UInt8)) (W : World) (e : Ending) (w' : World) : Prop :=
  ∃ nm q p a n c, e = .returned (.tuple #[.agg #[str nm, .int .i64 0, .int .i64 q, .int .i64 p, .slice a n c], .bool (itemO ws).isSome]) ∧
    (∀ x, itemO ws = some x → x.par = 0 ∧ nm = x.nm ∧ q = x.q ∧ p = x.p ∧ RI w' (.slice a n c) x.pr ∧ ∀ k, (Value.slice a n c).ownBlock = some k → W.heap.size ≤ k ∧ k < w'.heap.size) ∧ Below W.heap.size W w'
theorem rnodeP.bad {ws : List (List UInt8)} {W w' : World} (h : itemO ws = none) (hb : Below W.heap.size W w') (nm : List UInt8) (q p : Int) (a : Option Addr) (n c : Nat) : rnodeP ws W (.returned (.tuple #[.agg #[str nm, .int .i64 0, .int .i64 q, .int .i64 p, .slice a n c], .bool false])) w' :=
  ⟨nm, q, p, a, n, c, by rw [h]; rfl, by (intro x hx; rw [h] at hx; cases hx), hb⟩
theorem rnodeP.good {ws : List (List UInt8)} {W w' : World} {x : It} {nm : List UInt8} {q p : Int} {a : Option Addr} {n c : Nat} (h : itemO ws = some x) (h0 : x.par = 0) (h1 : nm = x.nm) (h2 : q = x.q) (h3 : p = x.p) (h4 : RI w' (.slice a n c) x.pr) (h5 : ∀ k, (Value.slice a n c).ownBlock = some k → W.heap.size ≤ k ∧ k < w'.heap.size) (hb : Below W.heap.size W w') : rnodeP ws W (.returned (.tuple #[.agg #[str nm, .int .i64 0, .int .i64 q, .int .i64 p, .slice a n c], .bool true])) w' :=
  ⟨nm, q, p, a, n, c, by rw [h]; rfl, by (intro y hy; rw [h] at hy; injection hy with hy; subst hy; exact ⟨h0, h1, h2, h3, h4, h5⟩), hb⟩
theorem rnode_c (s : List UInt8) (W : World) (hs : s.length ≤ 1048576) :
    Calls Tryz.prog 61 #[str s] W (rnodeP (splitC 32 [] s) W) := by
  obtain ⟨w0, hw0⟩ : ∃ w0, w0 = W.alloc (.cells #[.string ⟨#[]⟩, .int .i64 0, .int .i64 0, .int .i64 0, .slice none 0 0] 73) := ⟨_, rfl⟩
  have HW0 := Lib.hid hw0
  have C0 : w0.heap[W.heap.size]? = some (.cells #[.string ⟨#[]⟩, .int .i64 0, .int .i64 0, .int .i64 0, .slice none 0 0] 73) := by rw [hw0]; exact new_blk _
  have B0 : Hid (Below W.heap.size W w0) := Lib.hid (by rw [hw0]; exact (Below.refl _ _).alloc (Nat.le_refl _) _)
  have HC := Lib.hid C0
  have SP := Lib.hid (rsplit_own ⟨s.toArray⟩ 32 w0 (by rw [sz]; omega))
  have hwb0 := splitC_mem 32 s []
  have hwp := splitC_pos 32 s []
  have hwl := splitC_many 32 s []
  simp only at SP
  generalize splitC 32 [] s = ws at *
  have hwb : ∀ x ∈ ws, x.length ≤ 1048576 := fun x hx => by have := hwb0 x hx; simp only [List.length_nil, Nat.zero_add] at this; omega
  have HIT : Hid (itemO ws = if ws.length < 2 ∨ nameS (ws.getD 0 []) = false then none
    else if (cutAt 47 (ws.getD 1 [])).2.isSome = false then none
    else match numsS [(cutAt 47 (ws.getD 1 [])).1, (cutAt 47 (ws.getD 1 [])).2.getD []] with
    | none => none
    | some r => if ws.length = 2 then some ⟨ws.getD 0 [], 0, r.getD 0 0, r.getD 1 0, []⟩
      else if ws.getD 2 [] = wTasks then match numsS (ws.drop 3) with
        | none => none
        | some pr => some ⟨ws.getD 0 [], 0, r.getD 0 0, r.getD 1 0, pr⟩
      else none) := Lib.hid rfl
  have hwi : (ws.length : Int) ≤ 1048577 := by omega
  clear hwb0 C0 hw0 hs
  go_enter Tryz.func61, Tryz.ntmps61
  go_wp2_with fail
  rw [← HW0.out]
  refine SP.out.mono ?_
  rintro e w1 ⟨v, rfl, ⟨hr1, hown1⟩, hb1⟩
  have B1 := Lib.hid (B0.out.trans (hb1.mono B0.out.size))
  have C1 := Lib.hid (blk_below HC.out hb1)
  have HOW1 : Hid (∀ k, v.ownBlock = some k → w0.heap.size ≤ k) := Lib.hid hown1
  have HR0 : Hid (W.heap.size < w0.heap.size) := Lib.hid (blk_lt HC.out)
  clear hown1
  obtain ⟨pw, cw, rfl, hcw⟩ := hr1.out
  have HCW := Lib.hid hcw
  have HR1 := Lib.hid hr1
  clear hb1 hr1 SP HC HW0 B0 hcw
  by_cases hl2 : ws.length < 2
  · have hl2i : (ws.length : Int) < 2 := by omega
    have hld2 : decide (ws.length < 2) = true := decide_eq_true hl2
    have HN := Lib.hid (HIT.out.trans (if_pos (.inl hl2)))
    have k0 := blk_cell (j := 0) (v := .string ⟨#[]⟩) C1.out rfl
    have k1 := blk_cell (j := 1) (v := .int .i64 0) C1.out rfl
    have k2 := blk_cell (j := 2) (v := .int .i64 0) C1.out rfl
    have k3 := blk_cell (j := 3) (v := .int .i64 0) C1.out rfl
    have k4 := blk_cell (j := 4) (v := .slice none 0 0) C1.out rfl
    have kf := fun i => blk_frozen C1.out i
    have HL := Lib.hid (ritem_load (set5_blk C1.out (.string ⟨#[]⟩) (.int .i64 0) (.int .i64 0) (.int .i64 0) (.slice none 0 0)))
    clear hl2 HIT
    go_wp2_with fail
    refine bodyPost_ret (v := .tuple #[.agg #[.string ⟨#[]⟩, .int .i64 0, .int .i64 0, .int .i64 0, .slice none 0 0], .bool false]) ?_ rfl (rnodeP.bad HN.out (set5_belowN B1.out (Nat.le_refl _) _ _ _ _ _) [] 0 0 none 0 0)
    rw [results_cell_tmp rfl]
    have hld := HL.out
    simp [asAddr, Result.andThen, hld]
  · have hl2i : ¬ (ws.length : Int) < 2 := by omega
    have hld2 : decide (ws.length < 2) = false := decide_eq_false hl2
    have h0i : (0 : Int) < (ws.length : Int) := by omega
    have h1i : (1 : Int) < (ws.length : Int) := by omega
    obtain ⟨b, off, rfl, hbl, g0⟩ := HCW.out 0 (by omega)
    have g1 : w1.cell? ⟨b, off + 1, none⟩ = some (str (ws.getD 1 [])) := by
      obtain ⟨b2, o2, hp2, _, hg2⟩ := HCW.out 1 (by omega)
      injection hp2 with hp2
      injection hp2 with e1 e2
      subst e1; subst e2
      exact hg2
    rw [Nat.add_zero] at g0
    have G0 := Lib.hid (fun w (h : Below w1.heap.size w1 w) => (h.cell (p := ⟨b, off, none⟩) hbl).trans g0)
    have G1 := Lib.hid (fun w (h : Below w1.heap.size w1 w) => (h.cell (p := ⟨b, off + 1, none⟩) hbl).trans g1)
    have NM := Lib.hid (fun w => rname_any ⟨(ws.getD 0 []).toArray⟩ w (by rw [sz]; have := hwb (ws.getD 0 []) (by rw [List.getD, List.getElem?_eq_getElem (by omega)]; exact List.getElem_mem (by omega)); omega))
    simp only at NM
    have hx1l : (ws.getD 1 []).length ≤ 1048576 := hwb _ (by rw [List.getD, List.getElem?_eq_getElem (by omega)]; exact List.getElem_mem (by omega))
    generalize ws.getD 0 [] = x0 at *
    generalize ws.getD 1 [] = x1 at *
    generalize hnm : nameS x0 = nm at *
    clear hnm
    cases nm with
    | false =>
      have HN := Lib.hid (HIT.out.trans (if_pos (.inr rfl)))
      clear HIT
      go_wp2_with (go_at_call 75; refine (NM.out _).mono ?_; rintro e w2 ⟨rfl, rfl⟩; have k0 := blk_cell (j := 0) (v := .string ⟨#[]⟩) C1.out rfl; have k1 := blk_cell (j := 1) (v := .int .i64 0) C1.out rfl; have k2 := blk_cell (j := 2) (v := .int .i64 0) C1.out rfl; have k3 := blk_cell (j := 3) (v := .int .i64 0) C1.out rfl; have k4 := blk_cell (j := 4) (v := .slice none 0 0) C1.out rfl; have kf := fun i => blk_frozen C1.out i)
      have HL := Lib.hid (ritem_load (set5_blk C1.out (.string ⟨#[]⟩) (.int .i64 0) (.int .i64 0) (.int .i64 0) (.slice none 0 0)))
      refine bodyPost_ret (v := .tuple #[.agg #[.string ⟨#[]⟩, .int .i64 0, .int .i64 0, .int .i64 0, .slice none 0 0], .bool false]) ?_ rfl (rnodeP.bad HN.out (set5_belowN B1.out (Nat.le_refl _) _ _ _ _ _) [] 0 0 none 0 0)
      rw [results_cell_tmp rfl]
      have hld := HL.out
      simp [asAddr, Result.andThen, hld]
    | true =>
      have HIT2 := Lib.hid (HIT.out.trans (if_neg (by rintro (h | h); exact hl2 h; cases h)))
      clear HIT
      have RP := Lib.hid (fun w => rsplit_any ⟨x1.toArray⟩ 47 w (by rw [sz]; omega))
      simp only at RP
      have S2 := Lib.hid (fun h => split_two (x := x1) h)
      have S2N := Lib.hid (fun h => split_not_two (x := x1) h)
      have hpl := splitC_mem 47 x1 []
      generalize splitC 47 [] x1 = rs at *
      go_wp2_with (go_at_call 75; refine (NM.out _).mono ?_; rintro e w2 ⟨rfl, rfl⟩)
      refine (RP.out _).mono ?_
      rintro e w2 ⟨v, rfl, hr2, hb2⟩
      have B2 := Lib.hid (B1.out.trans (hb2.mono B1.out.size))
      have C2 := Lib.hid (blk_below C1.out hb2)
      have BW2 := Lib.hid hb2
      obtain ⟨pr, cr, rfl, hcr⟩ := hr2.out
      have HCR := Lib.hid hcr
      have hW2 : W.heap.size < w2.heap.size := blk_lt C2.out
      clear hb2 hr2 hcr RP G1 g1
      have k0 := blk_cell (j := 0) (v := .string ⟨#[]⟩) C2.out rfl
      have k1 := blk_cell (j := 1) (v := .int .i64 0) C2.out rfl
      have k2 := blk_cell (j := 2) (v := .int .i64 0) C2.out rfl
      have k3 := blk_cell (j := 3) (v := .int .i64 0) C2.out rfl
      have k4 := blk_cell (j := 4) (v := .slice none 0 0) C2.out rfl
      have kf := fun i => blk_frozen C2.out i
      by_cases h2 : rs.length = 2
      · obtain ⟨hs1, hs2⟩ := S2.out h2
        subst hs2
        have HIT3 := Lib.hid (HIT2.out.trans (if_neg (by rw [hs1]; decide)))
        rw [nums_two] at HIT3
        have hxa : (cutAt 47 x1).1.length ≤ 1048576 := by have := hpl _ (List.mem_cons_self); simp only [List.length_nil, Nat.zero_add] at this; omega
        have hxb : ((cutAt 47 x1).2.getD []).length ≤ 1048576 := by have := hpl _ (List.mem_cons_of_mem _ List.mem_cons_self); simp only [List.length_nil, Nat.zero_add] at this; omega
        have NA := Lib.hid (fun w => rNumber_any ⟨(cutAt 47 x1).1.toArray⟩ w (by rw [sz]; omega))
        have NB := Lib.hid (fun w => rNumber_any ⟨((cutAt 47 x1).2.getD []).toArray⟩ w (by rw [sz]; omega))
        simp only at NA NB
        generalize (cutAt 47 x1).1 = xa at *
        generalize (cutAt 47 x1).2.getD [] = xb at *
        obtain ⟨b2, o2, rfl, hbl2, r0⟩ := HCR.out 0 (by simp)
        have r1 : w2.cell? ⟨b2, o2 + 1, none⟩ = some (str xb) := by
          obtain ⟨b3, o3, hp3, _, hg3⟩ := HCR.out 1 (by simp)
          injection hp3 with hp3
          injection hp3 with e1 e2
          subst e1; subst e2
          exact hg3
        have r0 : w2.cell? ⟨b2, o2, none⟩ = some (str xa) := r0
        have g0 := G0.out _ BW2.out
        clear HIT2 S2 S2N hpl hs1 hxa hxb h2
        generalize hna : numR xa = na at *
        generalize hnb : numR xb = nb at *
        clear hna hnb
        clear HCR
        by_cases hab : na.isSome = true ∧ nb.isSome = true
        · obtain ⟨q, rfl⟩ := Option.isSome_iff_exists.1 hab.1
          obtain ⟨pv, rfl⟩ := Option.isSome_iff_exists.1 hab.2
          have NA : Hid (∀ w, Calls Tryz.prog 88 #[str xa] w fun e w' => e = .returned (.tuple #[.int .i64 q, .bool true]) ∧ w = w') := NA
          have NB : Hid (∀ w, Calls Tryz.prog 88 #[str xb] w fun e w' => e = .returned (.tuple #[.int .i64 pv, .bool true]) ∧ w = w') := NB
          have HIT4 : Hid (itemO ws = if ws.length = 2 then some ⟨x0, 0, q, pv, []⟩ else if ws.getD 2 [] = wTasks then match numsS (ws.drop 3) with | none => none | some pr => some ⟨x0, 0, q, pv, pr⟩ else none) := HIT3
          clear hab HIT3
          by_cases hl3 : ws.length = 2
          · have HN := Lib.hid (HIT4.out.trans (if_pos hl3))
            have h2' : ((ws.length : Int) == 2) = true := by rw [beq_iff_eq]; omega
            have h2'' : (ws.length == 2) = true := by rw [beq_iff_eq]; exact hl3
            have HL := Lib.hid (ritem_load (blk_alloc (set5_blk C2.out (str x0) (.int .i64 0) (.int .i64 q) (.int .i64 pv) (.slice none 0 0)) (.cells #[str x0, .int .i64 0, .int .i64 q, .int .i64 pv, .slice none 0 0] 73)))
            clear hl3 HIT4
            go_wp2_with (go_at_call 88; (first | (with_reducible refine (NA.out _).mono ?_) | (with_reducible refine (NB.out _).mono ?_)); rintro e w' ⟨rfl, rfl⟩)
            refine bodyPost_ret (v := .tuple #[.agg #[str x0, .int .i64 0, .int .i64 q, .int .i64 pv, .slice none 0 0], .bool true]) ?_ rfl ⟨x0, q, pv, none, 0, 0, by rw [HN.out]; rfl, by (intro x hx; rw [HN.out] at hx; injection hx with hx; subst hx; exact ⟨rfl, rfl, rfl, rfl, RI_nil _, by (intro k hk; cases hk)⟩), (set5_belowN B2.out (Nat.le_refl _) _ _ _ _ _).alloc (by rw [set5_size]; exact B2.out.size) _⟩
            rw [results_cell_tmp rfl]
            have hld := HL.out
            simp [asAddr, Result.andThen, hld]
          · have hl4 : 3 ≤ ws.length := by omega
            have HIT5 := Lib.hid (HIT4.out.trans (if_neg hl3))
            have h2' : ((ws.length : Int) == 2) = false := by rw [beq_eq_false_iff_ne]; omega
            have h2'' : (ws.length == 2) = false := by rw [beq_eq_false_iff_ne]; exact hl3
            have h3i : (3 : Int) ≤ (ws.length : Int) := by omega
            have h2lt : (2 : Int) < (ws.length : Int) := by omega
            obtain ⟨i1, hi1', _, hz1, _⟩ := info_of1F Tryz.infoStrF
            have hX : Hid (Below w1.heap.size w1 (w2.alloc (.cells #[str x0, .int .i64 0, .int .i64 q, .int .i64 pv, .slice none 0 0] 73))) := Lib.hid (BW2.out.alloc BW2.out.size _)
            obtain ⟨vd, hvd, rgd⟩ := from_c (P := Tryz.prog) (T := 40) (E := 9) Tryz.underlying40 hi1' hz1 (HR1.out.below hX.out) 3 (by simpa using hl4) (by simpa using (by omega : 0 < ws.length))
            have hsl : ∀ w1, (Instr.slice 40 (.slice (some ⟨b, off, none⟩) ws.length cw) (some (.int .i64 3)) none none).run Tryz.prog w1 = .ok vd w1 := hvd
            have rsd : RS (w2.alloc (.cells #[str x0, .int .i64 0, .int .i64 q, .int .i64 pv, .slice none 0 0] 73)) vd (ws.drop 3) := by rw [← List.map_drop] at rgd; exact rgd
            have AL := Lib.hid (rall_c (ws.drop 3) vd _ rsd (by simp; omega) (fun y hy => by have := hwb y (List.mem_of_mem_drop hy); omega))
            have G2 : Hid (∀ w, Below w1.heap.size w1 w → w.cell? ⟨b, off + 2, none⟩ = some (str (ws.getD 2 []))) := Lib.hid (fun w h => by
              obtain ⟨b3, o3, hp3, _, hg3⟩ := HCW.out 2 (by omega)
              injection hp3 with hp3
              injection hp3 with e1 e2
              subst e1; subst e2
              exact (h.cell (p := ⟨b, off + 2, none⟩) hbl).trans hg3)
            clear rsd rgd hvd hz1 hi1' hl3
            generalize ws.getD 2 [] = x2 at *
            generalize numsS (ws.drop 3) = NS at *
            go_wp2_with (go_at_call 88; (first | (with_reducible refine (NA.out _).mono ?_) | (with_reducible refine (NB.out _).mono ?_)); rintro e w' ⟨rfl, rfl⟩)
            refine AL.out.mono ?_
            rintro e w6 ⟨⟨u6, ⟨p6, k6, c6, rfl⟩, rfl, hu6⟩, hb6⟩
            have HU6 := Lib.hid hu6
            have XY6 := Lib.hid (blk_below (new_blk (w := w2) (.cells #[str x0, .int .i64 0, .int .i64 q, .int .i64 pv, .slice none 0 0] 73)) hb6)
            have CR6 := Lib.hid (blk_below (blk_alloc C2.out (.cells #[str x0, .int .i64 0, .int .i64 q, .int .i64 pv, .slice none 0 0] 73)) hb6)
            have B6 := Lib.hid ((B2.out.alloc B2.out.size (.cells #[str x0, .int .i64 0, .int .i64 q, .int .i64 pv, .slice none 0 0] 73)).trans (hb6.mono (B2.out.alloc B2.out.size _).size))
            have g26 := G2.out _ (hX.out.trans (hb6.mono hX.out.size))
            have s4 : w6.cell? ⟨w2.heap.size, 4, none⟩ = some (.slice none 0 0) := blk_cell XY6.out rfl
            have z4 := blk_frozen XY6.out 4
            have hbR : b ≠ W.heap.size := by have := HOW1.out b rfl; have := HR0.out; omega
            have hbX : b ≠ w2.heap.size := by have := BW2.out.size; omega
            have hRX : W.heap.size ≠ w2.heap.size := by omega
            have XY7 := Lib.hid (blk_set XY6.out 4 (.slice p6 k6 c6))
            have CR7 : Hid ((w6.setCell ⟨w2.heap.size, 4, none⟩ (.slice p6 k6 c6)).heap[W.heap.size]? = some (.cells #[.string ⟨#[]⟩, .int .i64 0, .int .i64 0, .int .i64 0, .slice none 0 0] 73)) := Lib.hid ((blk_set_other hRX 4 (.slice p6 k6 c6)).trans CR6.out)
            have B7 := Lib.hid (B6.out.setCell (p := ⟨w2.heap.size, 4, none⟩) (Nat.le_of_lt hW2) (.slice p6 k6 c6))
            have g27 : (w6.setCell ⟨w2.heap.size, 4, none⟩ (.slice p6 k6 c6)).cell? ⟨b, off + 2, none⟩ = some (str x2) := (World.cell?_of_block (w := w6) (w' := w6.setCell ⟨w2.heap.size, 4, none⟩ (.slice p6 k6 c6)) (a := ⟨b, off + 2, none⟩) (blk_set_other hbX _ _)).trans g26
            have HSW := Lib.hid (Nat.le_trans B2.out.size (Nat.le_of_lt (by simp : w2.heap.size < (w2.alloc (.cells #[str x0, .int .i64 0, .int .i64 q, .int .i64 pv, .slice none 0 0] 73)).heap.size)))
            have OWN7 : Hid (∀ o, NS = some o → RI w6 (.slice p6 k6 c6) o ∧ ∀ k, (Value.slice p6 k6 c6).ownBlock = some k → w2.heap.size < k ∧ k < w6.heap.size) := Lib.hid (fun o ho => ⟨RI_own (HU6.out o ho), fun k hk => ⟨by have := (RI_own_block (HU6.out o ho)).1 k hk; simp at this; omega, (RI_own_block (HU6.out o ho)).2 k hk⟩⟩)
            clear hb6 hu6 hX AL NA NB HU6 g26 k0 k1 k2 k3 k4 kf r0 r1 g0
            go_wp2_with fail
            obtain ⟨w7, hw7⟩ : ∃ w7, w7 = w6.setCell ⟨w2.heap.size, 4, none⟩ (.slice p6 k6 c6) := ⟨_, rfl⟩
            have HW7 := Lib.hid hw7
            rw [← hw7] at XY7 CR7 B7 g27 ⊢
            have x0c : w7.cell? ⟨w2.heap.size, 0, none⟩ = some (str x0) := blk_cell XY7.out rfl
            have x1c : w7.cell? ⟨w2.heap.size, 1, none⟩ = some (.int .i64 0) := blk_cell XY7.out rfl
            have x2c : w7.cell? ⟨w2.heap.size, 2, none⟩ = some (.int .i64 q) := blk_cell XY7.out rfl
            have x3c : w7.cell? ⟨w2.heap.size, 3, none⟩ = some (.int .i64 pv) := blk_cell XY7.out rfl
            have x4c : w7.cell? ⟨w2.heap.size, 4, none⟩ = some (.slice p6 k6 c6) := blk_cell XY7.out rfl
            have k0 := blk_cell (j := 0) (v := .string ⟨#[]⟩) CR7.out rfl
            have k1 := blk_cell (j := 1) (v := .int .i64 0) CR7.out rfl
            have k2 := blk_cell (j := 2) (v := .int .i64 0) CR7.out rfl
            have k3 := blk_cell (j := 3) (v := .int .i64 0) CR7.out rfl
            have k4 := blk_cell (j := 4) (v := .slice none 0 0) CR7.out rfl
            have kf := fun i => blk_frozen CR7.out i
            clear hw7 s4 z4 XY6 CR6
            have hRb : W.heap.size ≠ b := fun e => hbR e.symm
            cases NS with
            | none =>
              have HN : Hid (itemO ws = none) := Lib.hid (by rw [HIT5.out]; split <;> rfl)
              clear HIT5
              rw [show (none : Option (List Int)).isSome = false from rfl]
              go_region
              all_goals
                have HL : Hid ((loadVar 73 ⟨W.heap.size, 0, none⟩).run Tryz.prog (set5 w7 W.heap.size (str x0) (.int .i64 0) (.int .i64 q) (.int .i64 pv) (.slice p6 k6 c6)).drew = .ok (.agg #[str x0, .int .i64 0, .int .i64 q, .int .i64 pv, .slice p6 k6 c6]) (set5 w7 W.heap.size (str x0) (.int .i64 0) (.int .i64 q) (.int .i64 pv) (.slice p6 k6 c6)).drew) := Lib.hid (ritem_load (w := (set5 w7 W.heap.size (str x0) (.int .i64 0) (.int .i64 q) (.int .i64 pv) (.slice p6 k6 c6)).drew) (set5_blk CR7.out (str x0) (.int .i64 0) (.int .i64 q) (.int .i64 pv) (.slice p6 k6 c6)))
                have HB := Lib.hid (set5_belowN B7.out (Nat.le_refl _) (str x0) (.int .i64 0) (.int .i64 q) (.int .i64 pv) (.slice p6 k6 c6)).drew
                go_wp2_with fail
                refine bodyPost_ret (v := .tuple #[.agg #[str x0, .int .i64 0, .int .i64 q, .int .i64 pv, .slice p6 k6 c6], .bool false]) ?_ rfl (rnodeP.bad HN.out HB.out x0 q pv p6 k6 c6)
                rw [results_cell_tmp rfl]
                have hld := HL.out
                simp [asAddr, Result.andThen, hld]
            | some pr =>
              rw [show (some pr : Option (List Int)).isSome = true from rfl]
              by_cases hx2 : x2 = wTasks
              · have HN : Hid (itemO ws = some ⟨x0, 0, q, pv, pr⟩) := Lib.hid (by rw [HIT5.out, if_pos hx2])
                have RF : Hid (RI (set5 w7 W.heap.size (str x0) (.int .i64 0) (.int .i64 q) (.int .i64 pv) (.slice p6 k6 c6)).drew (.slice p6 k6 c6) pr ∧ ∀ k, (Value.slice p6 k6 c6).ownBlock = some k → W.heap.size ≤ k ∧ k < (set5 w7 W.heap.size (str x0) (.int .i64 0) (.int .i64 q) (.int .i64 pv) (.slice p6 k6 c6)).drew.heap.size) := Lib.hid (by
                  obtain ⟨o1, o2⟩ := OWN7.out pr rfl
                  have hs7 : w7.heap.size = w6.heap.size := by rw [HW7.out]; simp
                  have hsz : (set5 w7 W.heap.size (str x0) (.int .i64 0) (.int .i64 q) (.int .i64 pv) (.slice p6 k6 c6)).drew.heap.size = w6.heap.size := (set5_size w7 W.heap.size _ _ _ _ _).trans hs7
                  refine ⟨o1.of_block (by rw [hsz]; exact Nat.le_refl _) (fun k hk => ?_), fun k hk => ⟨by have := (o2 k hk).1; omega, by rw [hsz]; exact (o2 k hk).2⟩⟩
                  have h1 := (o2 k hk).1
                  have e1 : (set5 w7 W.heap.size (str x0) (.int .i64 0) (.int .i64 q) (.int .i64 pv) (.slice p6 k6 c6)).heap[k]? = w7.heap[k]? := set5_other (by omega) _ _ _ _ _
                  refine e1.trans ?_
                  rw [HW7.out]
                  exact blk_set_other (by omega) _ _)
                obtain rfl : x2 = [116, 97, 115, 107, 115] := hx2
                clear HIT5
                go_region
                all_goals
                  have HL : Hid ((loadVar 73 ⟨W.heap.size, 0, none⟩).run Tryz.prog (set5 w7 W.heap.size (str x0) (.int .i64 0) (.int .i64 q) (.int .i64 pv) (.slice p6 k6 c6)).drew = .ok (.agg #[str x0, .int .i64 0, .int .i64 q, .int .i64 pv, .slice p6 k6 c6]) (set5 w7 W.heap.size (str x0) (.int .i64 0) (.int .i64 q) (.int .i64 pv) (.slice p6 k6 c6)).drew) := Lib.hid (ritem_load (w := (set5 w7 W.heap.size (str x0) (.int .i64 0) (.int .i64 q) (.int .i64 pv) (.slice p6 k6 c6)).drew) (set5_blk CR7.out (str x0) (.int .i64 0) (.int .i64 q) (.int .i64 pv) (.slice p6 k6 c6)))
                  have HB := Lib.hid (set5_belowN B7.out (Nat.le_refl _) (str x0) (.int .i64 0) (.int .i64 q) (.int .i64 pv) (.slice p6 k6 c6)).drew
                  go_wp2_with fail
                  refine bodyPost_ret (v := .tuple #[.agg #[str x0, .int .i64 0, .int .i64 q, .int .i64 pv, .slice p6 k6 c6], .bool true]) ?_ rfl (rnodeP.good HN.out rfl rfl rfl rfl RF.out.1 RF.out.2 HB.out)
                  rw [results_cell_tmp rfl]
                  have hld := HL.out
                  simp [asAddr, Result.andThen, hld]
              · have HN : Hid (itemO ws = none) := Lib.hid (by rw [HIT5.out, if_neg hx2])
                have k1' : ¬ x2 = [116, 97, 115, 107, 115] := hx2
                have k2' : (x2 != [116, 97, 115, 107, 115]) = true := by simpa using k1'
                have k3' : (x2 == [116, 97, 115, 107, 115]) = false := by simpa using k1'
                clear hx2 HIT5
                go_region
                all_goals
                  have HL : Hid ((loadVar 73 ⟨W.heap.size, 0, none⟩).run Tryz.prog (set5 w7 W.heap.size (str x0) (.int .i64 0) (.int .i64 q) (.int .i64 pv) (.slice p6 k6 c6)).drew = .ok (.agg #[str x0, .int .i64 0, .int .i64 q, .int .i64 pv, .slice p6 k6 c6]) (set5 w7 W.heap.size (str x0) (.int .i64 0) (.int .i64 q) (.int .i64 pv) (.slice p6 k6 c6)).drew) := Lib.hid (ritem_load (w := (set5 w7 W.heap.size (str x0) (.int .i64 0) (.int .i64 q) (.int .i64 pv) (.slice p6 k6 c6)).drew) (set5_blk CR7.out (str x0) (.int .i64 0) (.int .i64 q) (.int .i64 pv) (.slice p6 k6 c6)))
                  have HB := Lib.hid (set5_belowN B7.out (Nat.le_refl _) (str x0) (.int .i64 0) (.int .i64 q) (.int .i64 pv) (.slice p6 k6 c6)).drew
                  go_wp2_with fail
                  refine bodyPost_ret (v := .tuple #[.agg #[str x0, .int .i64 0, .int .i64 q, .int .i64 pv, .slice p6 k6 c6], .bool false]) ?_ rfl (rnodeP.bad HN.out HB.out x0 q pv p6 k6 c6)
                  rw [results_cell_tmp rfl]
                  have hld := HL.out
                  simp [asAddr, Result.andThen, hld]
        · have HN : Hid (itemO ws = none) := Lib.hid (by
            rw [HIT3.out]
            cases na with
            | none => rfl
            | some q => cases nb with
              | none => rfl
              | some p => exact absurd ⟨rfl, rfl⟩ hab)
          have hab2 : (na.isSome && nb.isSome) = false := by
            cases h1 : na.isSome <;> cases h2 : nb.isSome <;> simp_all
          generalize na.getD 0 = qv at *
          generalize nb.getD 0 = pv at *
          generalize na.isSome = ab at *
          generalize nb.isSome = bb at *
          have HL := Lib.hid (ritem_load (blk_alloc (set5_blk C2.out (str x0) (.int .i64 0) (.int .i64 qv) (.int .i64 pv) (.slice none 0 0)) (.cells #[str x0, .int .i64 0, .int .i64 qv, .int .i64 pv, .slice none 0 0] 73)))
          clear hab HIT3
          cases ab <;> cases bb
          case true.true => cases hab2
          all_goals
            clear hab2
            go_wp2_with (go_at_call 88; (first | (with_reducible refine (NA.out _).mono ?_) | (with_reducible refine (NB.out _).mono ?_)); rintro e w' ⟨rfl, rfl⟩)
            refine bodyPost_ret (v := .tuple #[.agg #[str x0, .int .i64 0, .int .i64 qv, .int .i64 pv, .slice none 0 0], .bool false]) ?_ rfl (rnodeP.bad HN.out ((set5_belowN B2.out (Nat.le_refl _) _ _ _ _ _).alloc (by rw [set5_size]; exact B2.out.size) _) x0 qv pv none 0 0)
            rw [results_cell_tmp rfl]
            have hld := HL.out
            simp [asAddr, Result.andThen, hld]
      · have HN : Hid (itemO ws = none) := Lib.hid (by
          rcases S2N.out h2 with h | h
          · exact HIT2.out.trans (if_pos h)
          · rw [HIT2.out]
            split
            · rfl
            · rw [h])
        have h2' : ((rs.length : Int) != 2) = true := by rw [bne_iff_ne]; omega
        have h2'' : (rs.length != 2) = true := by rw [bne_iff_ne]; exact h2
        have HL := Lib.hid (ritem_load (set5_blk C2.out (.string ⟨#[]⟩) (.int .i64 0) (.int .i64 0) (.int .i64 0) (.slice none 0 0)))
        clear h2 HIT2 S2 S2N
        go_wp2_with fail
        refine bodyPost_ret (v := .tuple #[.agg #[.string ⟨#[]⟩, .int .i64 0, .int .i64 0, .int .i64 0, .slice none 0 0], .bool false]) ?_ rfl (rnodeP.bad HN.out (set5_belowN B2.out (Nat.le_refl _) _ _ _ _ _) [] 0 0 none 0 0)
        rw [results_cell_tmp rfl]
        have hld := HL.out
        simp [asAddr, Result.andThen, hld]
end Go.Proofs.YtophilmjfdhhaaaGreatDoor
