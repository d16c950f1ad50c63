/- The walk of ConfigFinds. -/
import Derived.Test.YtophilmjfdhhaaaGreatDoorIg
namespace Go.Proofs.YtophilmjfdhhaaaGreatDoor
open Go Go.RowKit Go.Shelf Go.Sort
set_option linter.unusedVariables false
set_option linter.unusedSimpArgs false
set_option maxRecDepth 100000
set_option maxHeartbeats 4000000

theorem configFinds_all (t : Tr) (v1 v2 : Value) (a : ByteArray) (W : World) (h1 : RT W v1 t.items) (h2 : RI W v2 t.slack) (hl : t.items.length ≤ 1048576) (hs : t.slack.length ≤ 1048576) (hx : ∀ y ∈ t.items, y.nm.length ≤ 1048576 ∧ y.pr.length ≤ 1048576) (ha : a.size ≤ 1048576) (E : EnvT W) :
    Calls Tryz.prog 5 #[.agg #[v1, v2], .string a] W fun e w' => e = .returned (.bool true) ∧ Below W.heap.size W w' := by
  obtain ⟨s, rfl⟩ : ∃ s : List UInt8, a = ⟨s.toArray⟩ := ⟨a.data.toList, by simp⟩
  rw [sz] at ha
  obtain ⟨p1, c1, rfl, _⟩ := h1.out
  obtain ⟨p2, c2, rfl⟩ := RI_form h2
  have hn : ∀ x ∈ t.items, x.nm.length ≤ 140737488355328 := fun x h => by have := (hx x h).1; omega
  have hp : ∀ x ∈ t.items, x.pr.length ≤ 140737488355328 := fun x h => by have := (hx x h).2; omega
  have hp8 : ∀ x ∈ t.items, x.pr.length * 8 ≤ 140737488355328 := fun x h => by have := (hx x h).2; omega
  obtain ⟨w0, hw0⟩ : ∃ w0, w0 = W.alloc (rtrObj (.slice p1 t.items.length c1) (.slice p2 t.slack.length c2)) := ⟨_, rfl⟩
  have b0 : Below W.heap.size W w0 := by rw [hw0]; exact (Below.refl _ _).alloc (Nat.le_refl _) _
  have CC : w0.heap[W.heap.size]? = some (rtrObj (.slice p1 t.items.length c1) (.slice p2 t.slack.length c2)) := by rw [hw0]; exact new_blk _
  have HW := Lib.hid hw0
  have B0 := Lib.hid b0
  have HC := Lib.hid CC
  have EE := Lib.hid (fun w (h : Below w0.heap.size w0 w) => E.below (b0.trans (h.mono b0.size)))
  have g1 := h1.below b0
  have g2 := h2.below b0
  have TO : Hid (∀ w, Below w0.heap.size w0 w → Calls Tryz.prog 15 #[.agg #[.slice p1 t.items.length c1, .slice p2 t.slack.length c2]] w fun e w' => ∃ u1 u2, e = .returned (.agg #[u1, u2]) ∧ (Hid (RT w' u1 t.items ∧ RI w' u2 t.slack)) ∧ Hid (Below w.heap.size w w')) := Lib.hid (fun w h => (treeOf_c t _ _ w (g1.below h) (g2.below h) (by omega) (by omega) hp8).mono fun e w' ⟨u1, u2, he, k1, k2, kb⟩ => ⟨u1, u2, he, Lib.hid ⟨k1, k2⟩, Lib.hid kb⟩)
  have SH : Hid (∀ w u1 u2, Below w0.heap.size w0 w → Hid (RT w u1 t.items ∧ RI w u2 t.slack) → Calls Tryz.prog 14 #[.agg #[u1, u2]] w fun e w' => ∃ v, e = .returned (.tuple #[v, errOf (sharesS t).2]) ∧ Hid (RI w' v (sharesS t).1) ∧ Hid (Below w.heap.size w w')) := Lib.hid (fun w u1 u2 h k => (shares_c t _ _ w k.out.1 k.out.2 (by omega) (by omega) hn hp).mono fun e w' ⟨v, he, k1, kb⟩ => ⟨v, he, Lib.hid k1, Lib.hid kb⟩)
  have RS : Hid (∀ w, Below w0.heap.size w0 w → Calls Tryz.prog 16 #[.agg #[.slice p1 t.items.length c1, .slice p2 t.slack.length c2]] w fun e w' => ∃ v, e = .returned (.tuple #[v, .int .i64 (sharesS t).2]) ∧ Hid (RI w' v (sharesS t).1) ∧ Hid (Below w.heap.size w w')) := Lib.hid (fun w h => (rshares_c t _ _ w (g1.below h) (g2.below h) (by omega) (by omega) hn hp).mono fun e w' ⟨v, he, k1, kb⟩ => ⟨v, he, Lib.hid k1, Lib.hid kb⟩)
  have FI : Hid (∀ w u1 u2, Below w0.heap.size w0 w → Hid (RT w u1 t.items ∧ RI w u2 t.slack) → Calls Tryz.prog 17 #[.agg #[u1, u2], str s] w fun e w' => e = .returned (.tuple #[.int .i64 (findS t s).1, errOf (findS t s).2]) ∧ Hid (Below w.heap.size w w')) := Lib.hid (fun w u1 u2 h k => (find_c t s _ _ w (EE.out w h).E k.out.1 k.out.2 (by omega) (by omega) hn hp (by omega)).mono fun e w' ⟨he, kb⟩ => ⟨he, Lib.hid kb⟩)
  have RF : Hid (∀ w, Below w0.heap.size w0 w → Calls Tryz.prog 18 #[.agg #[.slice p1 t.items.length c1, .slice p2 t.slack.length c2], str s] w fun e w' => e = .returned (.tuple #[.int .i64 (findS t s).1, .int .i64 (findS t s).2]) ∧ Hid (Below w.heap.size w w')) := Lib.hid (fun w h => (rfind_c t s _ _ w (g1.below h) (g2.below h) (by omega) (by omega) hn hp (by omega)).mono fun e w' ⟨he, kb⟩ => ⟨he, Lib.hid kb⟩)
  have SL : Hid ((sharesS t).1.length ≤ 140737488355328) := Lib.hid (by
    unfold sharesS
    split
    · simp
    · rw [unders_len]; omega)
  have NU : Hid (∀ w u v, RI w u (sharesS t).1 → RI w v (sharesS t).1 → Below w0.heap.size w0 w → Calls Tryz.prog 13 #[u, v] w fun e w' => e = .returned (.bool true) ∧ Hid (Below w.heap.size w w')) := Lib.hid (fun w u v k1 k2 h => (numbers_t _ u v w k1 k2 SL.out).mono fun e w' ⟨he, kb⟩ => ⟨he, Lib.hid kb⟩)
  have NE : Hid (∀ n w, Below w0.heap.size w0 w → Calls Tryz.prog 11 #[errOf n] w fun e w' => e = .returned (.int .i64 n) ∧ Hid (Below w.heap.size w w')) := Lib.hid (fun n w h => (num25_of n w (EE.out w h).T).mono fun e w' hh => ⟨hh.1, Lib.hid hh.2⟩)
  have SU : Hid (∀ w, Below w0.heap.size w0 w → Calls Tryz.prog 12 #[] w fun e w' => e = .returned (.bool true) ∧ Hid (Below w.heap.size w w')) := Lib.hid (fun w h => (sure25_c w (EE.out w h).E).mono fun e w' hh => ⟨hh.1, Lib.hid hh.2⟩)
  have CL : Hid (∀ w, Below w0.heap.size w0 w → w.cell? ⟨W.heap.size, 0, none⟩ = some (.slice p1 t.items.length c1) ∧ w.cell? ⟨W.heap.size, 1, none⟩ = some (.slice p2 t.slack.length c2)) := Lib.hid (fun w h => ⟨blk_cell (blk_below CC h) rfl, blk_cell (blk_below CC h) rfl⟩)
  have hT0 : W.heap.size < w0.heap.size := blk_lt CC
  have BI := Lib.hid (Below.refl w0.heap.size w0)
  generalize (sharesS t).1 = sl at *
  generalize (sharesS t).2 = se at *
  generalize (findS t s).1 = fa at *
  generalize (findS t s).2 = fe at *
  obtain ⟨y0, y1⟩ := CL.out w0 BI.out
  have q1 : (se == se) = true := by simp
  have q2 : (fa == fa) = true := by simp
  have q3 : (fe == fe) = true := by simp
  clear h1 h2 hl hs hx ha E hn hp hp8 b0 CC hw0 g1 g2 SL
  go_enter Tryz.func5, Tryz.ntmps5
  go_wp2_with fail
  rw [← HW.out]
  refine (TO.out _ BI.out).mono ?_
  rintro e w1 ⟨u1, u2, rfl, k1, b1⟩
  have B1 := Lib.hid (BI.out.trans (b1.out.mono BI.out.size))
  go_wp2_with fail
  refine (SH.out _ _ _ B1.out k1).mono ?_
  rintro e w2 ⟨sv, rfl, r2, b2⟩
  obtain ⟨q5, k5, rfl⟩ := RI_form r2.out
  have B2 := Lib.hid (B1.out.trans (b2.out.mono B1.out.size))
  obtain ⟨y20, y21⟩ := CL.out w2 B2.out
  have L2 : W.heap.size < w2.heap.size := Nat.lt_of_lt_of_le hT0 B2.out.size
  go_wp2_with fail
  refine (RS.out _ B2.out).mono ?_
  rintro e w3 ⟨rv, rfl, r3, b3⟩
  obtain ⟨q7, k7, rfl⟩ := RI_form r3.out
  have B3 := Lib.hid (B2.out.trans (b3.out.mono B2.out.size))
  obtain ⟨y30, y31⟩ := CL.out w3 B3.out
  have L3 : W.heap.size < w3.heap.size := Nat.lt_of_lt_of_le hT0 B3.out.size
  have r2b := Lib.hid (r2.out.below b3.out)
  go_wp2_with fail
  refine (TO.out _ B3.out).mono ?_
  rintro e w4 ⟨u3, u4, rfl, k4, b4⟩
  have B4 := Lib.hid (B3.out.trans (b4.out.mono B3.out.size))
  have r2c := Lib.hid (r2b.out.below b4.out)
  have r3c := Lib.hid (r3.out.below b4.out)
  go_wp2_with fail
  refine (FI.out _ _ _ B4.out k4).mono ?_
  rintro e w5 ⟨rfl, b5⟩
  have B5 := Lib.hid (B4.out.trans (b5.out.mono B4.out.size))
  have r2d := Lib.hid (r2c.out.below b5.out)
  have r3d := Lib.hid (r3c.out.below b5.out)
  obtain ⟨y50, y51⟩ := CL.out w5 B5.out
  have L5 : W.heap.size < w5.heap.size := Nat.lt_of_lt_of_le hT0 B5.out.size
  go_wp2_with fail
  refine (RF.out _ B5.out).mono ?_
  rintro e w6 ⟨rfl, b6⟩
  have B6 := Lib.hid (B5.out.trans (b6.out.mono B5.out.size))
  have r2e := Lib.hid (r2d.out.below b6.out)
  have r3e := Lib.hid (r3d.out.below b6.out)
  go_wp2_with fail
  refine (NU.out _ _ _ r2e.out r3e.out B6.out).mono ?_
  rintro e w7 ⟨rfl, b7⟩
  have B7 := Lib.hid (B6.out.trans (b7.out.mono B6.out.size))
  go_wp2_with fail
  refine (NE.out _ _ B7.out).mono ?_
  rintro e w8 ⟨rfl, b8⟩
  have B8 := Lib.hid (B7.out.trans (b8.out.mono B7.out.size))
  go_wp2_with fail
  refine (NE.out _ _ B8.out).mono ?_
  rintro e w9 ⟨rfl, b9⟩
  have B9 := Lib.hid (B8.out.trans (b9.out.mono B8.out.size))
  go_wp2_with fail
  refine (SU.out _ B9.out).mono ?_
  rintro e w10 ⟨rfl, b10⟩
  have B10 := Lib.hid (B9.out.trans (b10.out.mono B9.out.size))
  have BF := Lib.hid (B0.out.trans (B10.out.mono B0.out.size))
  go_wp2_with fail
  go_ret
  exact ⟨rfl, BF.out⟩
theorem configFinds_walk (t : Tr) (v1 v2 : Value) {W : World} (h1 : RT W v1 t.items) (h2 : RI W v2 t.slack) (hl : t.items.length ≤ 1048576) (hs : t.slack.length ≤ 1048576) (hx : ∀ y ∈ t.items, y.nm.length ≤ 1048576 ∧ y.pr.length ≤ 1048576) (a : ByteArray) (ha : a.size ≤ 1048576) (E : EnvT W) :
    Calls Tryz.prog 5 #[.agg #[v1, v2], .string a] W fun e w' => e = .returned (.bool true) ∧ Below W.heap.size W w' := configFinds_all t v1 v2 a W h1 h2 hl hs hx ha E
end Go.Proofs.YtophilmjfdhhaaaGreatDoor
