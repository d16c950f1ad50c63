/- The walk of ConfigPrints. -/
import Derived.Test.YtophilmjfdhhaaaGreatDoorJa
import Derived.Test.YtophilmjfdhhaaaGreatDoorIg
namespace Go.Proofs.YtophilmjfdhhaaaGreatDoor
open Go Go.RowKit Go.Shelf Go.Sort
set_option linter.unusedVariables false
set_option linter.unusedSimpArgs false
set_option maxRecDepth 100000
set_option maxHeartbeats 4000000

theorem configPrints_all (t : Tr) (v1 v2 : Value) (W : World) (h1 : RT W v1 t.items) (h2 : RI W v2 t.slack) (hl : t.items.length ≤ 1048576) (hs : t.slack.length ≤ 1048576) (hx : ∀ y ∈ t.items, y.nm.length ≤ 1048576 ∧ y.pr.length ≤ 1048576) (E : EnvT W) :
    Calls Tryz.prog 6 #[.agg #[v1, v2]] W fun e w' => e = .returned (.bool true) ∧ Below W.heap.size W w' := by
  obtain ⟨p1, c1, rfl, _⟩ := h1.out
  obtain ⟨p2, c2, rfl⟩ := RI_form h2
  have hn : ∀ x ∈ t.items, x.nm.length ≤ 140737488355328 := fun x h => by have := (hx x h).1; omega
  have hp : ∀ x ∈ t.items, x.pr.length ≤ 140737488355328 := fun x h => by have := (hx x h).2; omega
  have hp8 : ∀ x ∈ t.items, x.pr.length * 8 ≤ 140737488355328 := fun x h => by have := (hx x h).2; omega
  obtain ⟨w0, hw0⟩ : ∃ w0, w0 = W.alloc (rtrObj (.slice p1 t.items.length c1) (.slice p2 t.slack.length c2)) := ⟨_, rfl⟩
  have b0 : Below W.heap.size W w0 := by rw [hw0]; exact (Below.refl _ _).alloc (Nat.le_refl _) _
  have CC : w0.heap[W.heap.size]? = some (rtrObj (.slice p1 t.items.length c1) (.slice p2 t.slack.length c2)) := by rw [hw0]; exact new_blk _
  have HW := Lib.hid hw0
  have B0 := Lib.hid b0
  have EE := Lib.hid (fun w (h : Below w0.heap.size w0 w) => E.below (b0.trans (h.mono b0.size)))
  have g1 := h1.below b0
  have g2 := h2.below b0
  have TO : Hid (∀ w, Below w0.heap.size w0 w → Calls Tryz.prog 15 #[.agg #[.slice p1 t.items.length c1, .slice p2 t.slack.length c2]] w fun e w' => ∃ u1 u2, e = .returned (.agg #[u1, u2]) ∧ (Hid (RT w' u1 t.items ∧ RI w' u2 t.slack)) ∧ Hid (Below w.heap.size w w')) := Lib.hid (fun w h => (treeOf_c t _ _ w (g1.below h) (g2.below h) (by omega) (by omega) hp8).mono fun e w' ⟨u1, u2, he, k1, k2, kb⟩ => ⟨u1, u2, he, Lib.hid ⟨k1, k2⟩, Lib.hid kb⟩)
  have PR : Hid (∀ w u1 u2, Below w0.heap.size w0 w → (RT w u1 t.items ∧ RI w u2 t.slack) → Calls Tryz.prog 19 #[.agg #[u1, u2]] w fun e w' => e = .returned (.tuple #[str (printS t).1, errOf (printS t).2]) ∧ Below w.heap.size w w') := Lib.hid (fun w u1 u2 h k => print_c t _ _ w (EE.out w h).E k.1 k.2 (by omega) (by omega) hn hp)
  have RP : Hid (∀ w, Below w0.heap.size w0 w → Calls Tryz.prog 20 #[.agg #[.slice p1 t.items.length c1, .slice p2 t.slack.length c2]] w fun e w' => e = .returned (.tuple #[str (printS t).1, .int .i64 (printS t).2]) ∧ Below w.heap.size w w') := Lib.hid (fun w h => rprint_c t _ _ w (g1.below h) (g2.below h) (by omega) (by omega) hn hp)
  have VA : Hid (∀ w u1 u2, (RT w u1 t.items ∧ RI w u2 t.slack) → Calls Tryz.prog 21 #[.agg #[u1, u2]] w fun e w' => e = .returned (errOf (validS t)) ∧ Below w.heap.size w w') := Lib.hid (fun w u1 u2 k => valid25_c t _ _ w k.1 k.2 (by omega) (by omega) hn hp)
  have RV : Hid (∀ w, Below w0.heap.size w0 w → Calls Tryz.prog 22 #[.agg #[.slice p1 t.items.length c1, .slice p2 t.slack.length c2]] w fun e w' => e = .returned (.int .i64 (validS t)) ∧ Below w.heap.size w w') := Lib.hid (fun w h => rvalid25_c t _ _ w (g1.below h) (g2.below h) (by omega) (by omega) hn hp)
  have SA : Hid (∀ w u1 u2, Below w0.heap.size w0 w → (RT w u1 t.items ∧ RI w u2 t.slack) → Calls Tryz.prog 10 #[.agg #[u1, u2], .agg #[.slice p1 t.items.length c1, .slice p2 t.slack.length c2]] w fun e w' => e = .returned (.bool true) ∧ Below w.heap.size w w') := Lib.hid (fun w u1 u2 h k => same_t t _ _ _ _ w k.1 k.2 (g1.below h) (g2.below h) (by omega) (by omega) hp)
  have NE : Hid (∀ n w, Below w0.heap.size w0 w → Calls Tryz.prog 11 #[errOf n] w fun e w' => e = .returned (.int .i64 n) ∧ Below w.heap.size w w') := Lib.hid (fun n w h => num25_of n w (EE.out w h).T)
  have SU : Hid (∀ w, Below w0.heap.size w0 w → Calls Tryz.prog 12 #[] w fun e w' => e = .returned (.bool true) ∧ Below w.heap.size w w') := Lib.hid (fun w h => sure25_c w (EE.out w h).E)
  have CL : Hid (∀ w, Below w0.heap.size w0 w → w.heap[W.heap.size]? = some (rtrObj (.slice p1 t.items.length c1) (.slice p2 t.slack.length c2))) := Lib.hid (fun w h => blk_below CC h)
  have BI := Lib.hid (Below.refl w0.heap.size w0)
  generalize (printS t).1 = ps at *
  generalize (printS t).2 = pe at *
  generalize validS t = V at *
  have y0 := blk_cell (j := 0) (v := .slice p1 t.items.length c1) CC rfl
  have y1 := blk_cell (j := 1) (v := .slice p2 t.slack.length c2) CC rfl
  have hT0 : W.heap.size < w0.heap.size := blk_lt CC
  have q1 : (V == V) = true := by simp
  have q2 : (ps == ps) = true := by simp
  have q3 : (pe == pe) = true := by simp
  clear h1 h2 hl hs hx E hn hp hp8 b0 CC hw0 g1 g2
  go_enter Tryz.func6, Tryz.ntmps6
  go_wp2_with fail
  rw [← HW.out]
  refine (TO.out _ BI.out).mono ?_
  rintro e w1 ⟨u1, u2, rfl, k1, b1⟩
  have B1 := Lib.hid (BI.out.trans (b1.out.mono BI.out.size))
  obtain ⟨a1, d1, rfl, _⟩ := k1.out.1.out
  obtain ⟨a2, d2, rfl⟩ := RI_form k1.out.2
  obtain ⟨w2, hw2⟩ : ∃ w2, w2 = w1.alloc (trObj (.slice a1 t.items.length d1) (.slice a2 t.slack.length d2)) := ⟨_, rfl⟩
  have b12 : Below w1.heap.size w1 w2 := by rw [hw2]; exact (Below.refl _ _).alloc (Nat.le_refl _) _
  have CM2 := Lib.hid (show w2.heap[w1.heap.size]? = some (trObj (.slice a1 t.items.length d1) (.slice a2 t.slack.length d2)) by rw [hw2]; exact new_blk _)
  have B2 := Lib.hid (B1.out.trans (b12.mono B1.out.size))
  have K2 := Lib.hid (show RT w2 (.slice a1 t.items.length d1) t.items ∧ RI w2 (.slice a2 t.slack.length d2) t.slack from ⟨k1.out.1.below b12, k1.out.2.below b12⟩)
  have HW2 := Lib.hid hw2
  obtain ⟨M, hM⟩ : ∃ M, M = w1.heap.size := ⟨_, rfl⟩
  rw [← hM] at CM2
  have HM := Lib.hid hM
  have PR2 := Lib.hid (PR.out w2 _ _ B2.out K2.out)
  clear hw2 b12 k1 hM
  go_upto_region 2 with fail
  rw [← HW2.out]
  simp only [← HM.out]
  have m0 := blk_cell (j := 0) (v := .slice a1 t.items.length d1) CM2.out rfl
  have m1 := blk_cell (j := 1) (v := .slice a2 t.slack.length d2) CM2.out rfl
  have hM2 : M < w2.heap.size := blk_lt CM2.out
  go_wp2_with fail
  refine PR2.out.mono ?_
  rintro e w3 ⟨rfl, b3⟩
  have B3 := Lib.hid (B2.out.trans (b3.mono B2.out.size))
  have CM3 := Lib.hid (blk_below CM2.out b3)
  have K3 := Lib.hid (show RT w3 (.slice a1 t.items.length d1) t.items ∧ RI w3 (.slice a2 t.slack.length d2) t.slack from ⟨K2.out.1.below b3, K2.out.2.below b3⟩)
  have z0 := blk_cell (j := 0) (v := .slice p1 t.items.length c1) (CL.out w3 B3.out) rfl
  have z1 := blk_cell (j := 1) (v := .slice p2 t.slack.length c2) (CL.out w3 B3.out) rfl
  have hT3 : W.heap.size < w3.heap.size := blk_lt (CL.out w3 B3.out)
  have RP3 := Lib.hid (RP.out w3 B3.out)
  clear b3 m0 m1 y0 y1
  go_wp2_with fail
  refine RP3.out.mono ?_
  rintro e w4 ⟨rfl, b4⟩
  have B4 := Lib.hid (B3.out.trans (b4.mono B3.out.size))
  have CM4 := Lib.hid (blk_below CM3.out b4)
  have K4 := Lib.hid (show RT w4 (.slice a1 t.items.length d1) t.items ∧ RI w4 (.slice a2 t.slack.length d2) t.slack from ⟨K3.out.1.below b4, K3.out.2.below b4⟩)
  have BG : Hid (∀ d os, Below w0.heap.size w0 (grow (redrawn w4 d) os)) := Lib.hid (fun d os => B4.out.trans ((below_regrown w4 d os).mono B4.out.size))
  have k0 : ∀ d os, (grow (redrawn w4 d) os).cell? ⟨W.heap.size, 0, none⟩ = some (.slice p1 t.items.length c1) := fun d os => cell_regrown (two_a (CL.out w4 B4.out)) d os
  have k1 : ∀ d os, (grow (redrawn w4 d) os).cell? ⟨W.heap.size, 1, none⟩ = some (.slice p2 t.slack.length c2) := fun d os => cell_regrown (two_b (CL.out w4 B4.out)) d os
  have k2 : ∀ d os, (grow (redrawn w4 d) os).cell? ⟨M, 0, none⟩ = some (.slice a1 t.items.length d1) := fun d os => cell_regrown (two_a CM4.out) d os
  have k3 : ∀ d os, (grow (redrawn w4 d) os).cell? ⟨M, 1, none⟩ = some (.slice a2 t.slack.length d2) := fun d os => cell_regrown (two_b CM4.out) d os
  have KG : Hid (∀ d os, RT (grow (redrawn w4 d) os) (.slice a1 t.items.length d1) t.items ∧ RI (grow (redrawn w4 d) os) (.slice a2 t.slack.length d2) t.slack) := Lib.hid (fun d os => ⟨K4.out.1.below (below_regrown w4 d os), K4.out.2.below (below_regrown w4 d os)⟩)
  have D0 := Lib.hid (fun d os => Calls.regrown_of (VA.out (grow (redrawn w4 d) os) _ _ (KG.out d os)))
  have D1 := Lib.hid (fun d os => Calls.regrown_of (NE.out V (grow (redrawn w4 d) os) (BG.out d os)))
  have D2 := Lib.hid (fun d os => Calls.regrown_of (RV.out (grow (redrawn w4 d) os) (BG.out d os)))
  have D3 := Lib.hid (fun d os => Calls.regrown_of (NE.out pe (grow (redrawn w4 d) os) (BG.out d os)))
  have D4 := Lib.hid (fun d os => Calls.regrown_of (SA.out (grow (redrawn w4 d) os) _ _ (BG.out d os) (KG.out d os)))
  have D5 := Lib.hid (fun d os => Calls.regrown_of (SU.out (grow (redrawn w4 d) os) (BG.out d os)))
  clear b4 z0 z1
  go_upto_region 4 with fail
  refine wp_region_quiet_below (by kernel_rfl) (by kernel_rfl) ?_
  repeat (first | go_big_quiet_step (first | with_reducible exact D0.out _ _ | with_reducible exact D1.out _ _ | with_reducible exact D2.out _ _ | with_reducible exact D3.out _ _ | with_reducible exact D4.out _ _ | with_reducible exact D5.out _ _) | quiet_step (first | with_reducible exact D0.out _ _ | with_reducible exact D1.out _ _ | with_reducible exact D2.out _ _ | with_reducible exact D3.out _ _ | with_reducible exact D4.out _ _ | with_reducible exact D5.out _ _))
  refine wpQuiet_nil ?_
  intro _ hw'
  obtain ⟨⟨dq, osq⟩, rfl⟩ := hw'
  have BF := Lib.hid (B0.out.trans ((BG.out dq osq).mono B0.out.size))
  go_wp2
  go_ret
  exact ⟨rfl, BF.out⟩
theorem configPrints_walk (t : Tr) (v1 v2 : Value) {W : World} (h1 : RT W v1 t.items) (h2 : RI W v2 t.slack) (hl : t.items.length ≤ 1048576) (hs : t.slack.length ≤ 1048576) (hx : ∀ y ∈ t.items, y.nm.length ≤ 1048576 ∧ y.pr.length ≤ 1048576) (E : EnvT W) :
    Calls Tryz.prog 6 #[.agg #[v1, v2]] W fun e w' => e = .returned (.bool true) ∧ Below W.heap.size W w' := configPrints_all t v1 v2 W h1 h2 hl hs hx E
end Go.Proofs.YtophilmjfdhhaaaGreatDoor
