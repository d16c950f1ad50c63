/- The walk of ConfigBack. -/
import Derived.Test.YtophilmjfdhhaaaGreatDoorJa
import Derived.Test.YtophilmjfdhhaaaGreatDoorIg
namespace Go.Proofs.YtophilmjfdhhaaaGreatDoor
open Go Go.RowKit Go.Shelf Go.Sort
set_option linter.unusedVariables false
set_option linter.unusedSimpArgs false
set_option maxRecDepth 100000
set_option maxHeartbeats 8000000

theorem configBack_all (t : Tr) (v1 v2 : Value) (a : ByteArray) (W : World) (h1 : RT W v1 t.items) (h2 : RI W v2 t.slack) (hl : t.items.length ≤ 1048576) (hs : t.slack.length ≤ 1048576) (hx : ∀ y ∈ t.items, y.nm.length ≤ 1048576 ∧ y.pr.length ≤ 1048576) (ha : a.size ≤ 1048576) (E : EnvT W) :
    Calls Tryz.prog 7 #[.agg #[v1, v2], .string a] W fun e w' => e = .returned (.bool true) ∧ Below W.heap.size W w' := by
  obtain ⟨s, rfl⟩ : ∃ s : List UInt8, a = ⟨s.toArray⟩ := ⟨a.data.toList, by simp⟩
  rw [sz] at ha
  obtain ⟨p1, c1, rfl, _⟩ := h1.out
  obtain ⟨p2, c2, rfl⟩ := RI_form h2
  have hn : ∀ x ∈ t.items, x.nm.length ≤ 140737488355328 := fun x h => by have := (hx x h).1; omega
  have hp : ∀ x ∈ t.items, x.pr.length ≤ 140737488355328 := fun x h => by have := (hx x h).2; omega
  have hp8 : ∀ x ∈ t.items, x.pr.length * 8 ≤ 140737488355328 := fun x h => by have := (hx x h).2; omega
  obtain ⟨w0, hw0⟩ : ∃ w0, w0 = W.alloc (rtrObj (.slice p1 t.items.length c1) (.slice p2 t.slack.length c2)) := ⟨_, rfl⟩
  have b0 : Below W.heap.size W w0 := by rw [hw0]; exact (Below.refl _ _).alloc (Nat.le_refl _) _
  have CC : w0.heap[W.heap.size]? = some (rtrObj (.slice p1 t.items.length c1) (.slice p2 t.slack.length c2)) := by rw [hw0]; exact new_blk _
  have HW := Lib.hid hw0
  have B0 := Lib.hid b0
  have EE := Lib.hid (fun w (h : Below w0.heap.size w0 w) => E.below (b0.trans (h.mono b0.size)))
  have g1 := h1.below b0
  have g2 := h2.below b0
  have TO : Hid (∀ w, Below w0.heap.size w0 w → Calls Tryz.prog 15 #[.agg #[.slice p1 t.items.length c1, .slice p2 t.slack.length c2]] w fun e w' => ∃ u1 u2, e = .returned (.agg #[u1, u2]) ∧ (Hid (RT w' u1 t.items ∧ RI w' u2 t.slack)) ∧ Hid (Below w.heap.size w w')) := Lib.hid (fun w h => (treeOf_c t _ _ w (g1.below h) (g2.below h) (by omega) (by omega) hp8).mono fun e w' ⟨u1, u2, he, k1, k2, kb⟩ => ⟨u1, u2, he, Lib.hid ⟨k1, k2⟩, Lib.hid kb⟩)
  have PR : Hid (∀ w u1 u2, Below w0.heap.size w0 w → (RT w u1 t.items ∧ RI w u2 t.slack) → Calls Tryz.prog 19 #[.agg #[u1, u2]] w fun e w' => e = .returned (.tuple #[str (printS t).1, errOf (printS t).2]) ∧ Below w.heap.size w w') := Lib.hid (fun w u1 u2 h k => print_c t _ _ w (EE.out w h).E k.1 k.2 (by omega) (by omega) hn hp)
  have PA : Hid (∀ w (q : List UInt8) (y : Tr) (n : Nat) (er : Int), q.length ≤ 140737488355328 → parseS q = (y, n, er) → Below w0.heap.size w0 w → Calls Tryz.prog 8 #[str q] w fun e w' => ∃ p k p' k', e = .returned (.tuple #[.agg #[.slice p y.items.length k, .slice p' y.slack.length k'], .int .i64 (n : Nat), errOf er]) ∧ Hid (RT w' (.slice p y.items.length k) y.items ∧ RI w' (.slice p' y.slack.length k') y.slack) ∧ Hid (Below w.heap.size w w')) := Lib.hid (fun w q y n er hq he h => (parse_c q w (EE.out w h).E hq).mono fun e w' ⟨u1, u2, hev, k1, k2, kb⟩ => by
    rw [he] at hev k1 k2
    simp only at hev k1 k2
    obtain ⟨p, k, rfl, _⟩ := k1.out
    obtain ⟨p', k', rfl⟩ := RI_form k2
    exact ⟨p, k, p', k', hev, Lib.hid ⟨k1, k2⟩, Lib.hid kb⟩)
  have SA : Hid (∀ w u1 u2, Below w0.heap.size w0 w → (RT w u1 t.items ∧ RI w u2 t.slack) → Calls Tryz.prog 10 #[.agg #[u1, u2], .agg #[.slice p1 t.items.length c1, .slice p2 t.slack.length c2]] w fun e w' => e = .returned (.bool true) ∧ Below w.heap.size w w') := Lib.hid (fun w u1 u2 h k => same_t t _ _ _ _ w k.1 k.2 (g1.below h) (g2.below h) (by omega) (by omega) hp)
  have PG : Hid (∀ (Y : Tr) w u1 u2, validS Y = 0 → Below w0.heap.size w0 w → (RT w u1 Y.items ∧ RI w u2 Y.slack) → Calls Tryz.prog 19 #[.agg #[u1, u2]] w fun e w' => e = .returned (.tuple #[str (textP Y), .nilIface]) ∧ Below w.heap.size w w') := Lib.hid (fun Y w u1 u2 hv h k => by
    obtain ⟨k1, k2, k3, _, _, _⟩ := valid_ok hv
    have := print_c Y u1 u2 w (EE.out w h).E k.1 k.2 (by omega) (by omega) (fun x hx => by
      obtain ⟨i, hi, rfl⟩ := List.getElem_of_mem hx
      have := (valid_item hv hi).nm
      rw [List.getD, List.getElem?_eq_getElem hi] at this
      exact Nat.le_trans this (by decide)) (fun x hx => by have := (k1 x hx).2.2; omega)
    rw [printS_ok hv] at this
    exact this)
  have SU : Hid (∀ w, Below w0.heap.size w0 w → Calls Tryz.prog 12 #[] w fun e w' => e = .returned (.bool true) ∧ Below w.heap.size w w') := Lib.hid (fun w h => sure25_c w (EE.out w h).E)
  have CL : Hid (∀ w, Below w0.heap.size w0 w → w.heap[W.heap.size]? = some (rtrObj (.slice p1 t.items.length c1) (.slice p2 t.slack.length c2))) := Lib.hid (fun w h => blk_below CC h)
  have BI := Lib.hid (Below.refl w0.heap.size w0)
  have P0 : Hid (validS t = 0 → printS t = (textP t, 0) ∧ (textP t).length ≤ 140737488355328 ∧ parseS (textP t) = (t, 0, 0)) := Lib.hid (fun h => ⟨printS_ok h, by have := textP_len h; omega, text_back h⟩)
  have P1 : Hid (validS t ≠ 0 → printS t = ([], validS t)) := Lib.hid (fun h => printS_no h)
  have PV := Lib.hid (parse_valid s)
  have HSL : Hid (s.length ≤ 140737488355328) := Lib.hid (by omega)
  obtain ⟨Y, ln, er, hPS⟩ : ∃ Y ln er, parseS s = (Y, ln, er) := ⟨_, _, _, rfl⟩
  have HPS := Lib.hid hPS
  have VY : Hid (er = 0 → validS Y = 0 ∧ ln = 0) := Lib.hid (fun h => by have := PV.out.1 (by rw [hPS]; exact h); rw [hPS] at this; exact this)
  have NY : Hid (er ≠ 0 → Y = ⟨[], []⟩) := Lib.hid (fun h => by have := PV.out.2 (by rw [hPS]; exact h); rw [hPS] at this; exact this)
  have n0 : ∀ w, (binOp BinOp.eql 27 .nilIface .nilIface).run Tryz.prog w = .ok (.bool true) w := fun w => by kernel_rfl
  have n1 : ∀ n w, (binOp BinOp.eql 27 (errN n) .nilIface).run Tryz.prog w = .ok (.bool false) w := fun n w => by kernel_rfl
  have y0 := blk_cell (j := 0) (v := .slice p1 t.items.length c1) CC rfl
  have y1 := blk_cell (j := 1) (v := .slice p2 t.slack.length c2) CC rfl
  have hT0 : W.heap.size < w0.heap.size := blk_lt CC
  clear h1 h2 hl hs hx E hn hp hp8 b0 CC hw0 g1 g2 hPS PV ha
  go_enter Tryz.func7, Tryz.ntmps7
  go_wp2_with fail
  rw [← HW.out]
  refine (TO.out _ BI.out).mono ?_
  rintro e w1 ⟨u1, u2, rfl, k1, b1⟩
  have B1 := Lib.hid (BI.out.trans (b1.out.mono BI.out.size))
  go_wp2_with fail
  refine (PR.out _ _ _ B1.out k1.out).mono ?_
  rintro e w2 ⟨rfl, b2⟩
  have B2 := Lib.hid (B1.out.trans (b2.mono B1.out.size))
  obtain ⟨bb, hbb⟩ : ∃ bb, bb = decide ((printS t).2 = 0) := ⟨_, rfl⟩
  have nb : ∀ w, (binOp BinOp.eql 27 (errOf (printS t).2) .nilIface).run Tryz.prog w = .ok (.bool bb) w := fun w => by
    rw [hbb]
    by_cases h : (printS t).2 = 0
    · rw [h, errOf_zero]; exact n0 w
    · rw [errOf_ne h, decide_eq_false h]; exact n1 _ w
  have ng : ∀ w, (eqGuard BinOp.eql 27 (.tmp 25) (.const .nilIface) (errOf (printS t).2) .nilIface).run Tryz.prog w = .ok () w := fun w => by
    unfold errOf
    split
    · kernel_rfl
    · kernel_rfl
  have BT : Hid (bb = true → (printS t).1 = textP t ∧ (textP t).length ≤ 140737488355328 ∧ parseS (textP t) = (t, 0, 0)) := Lib.hid (fun h => by
    rw [hbb] at h
    have h2 : (printS t).2 = 0 := of_decide_eq_true h
    by_cases hV : validS t = 0
    · obtain ⟨a1, a2, a3⟩ := P0.out hV
      exact ⟨by rw [a1], a2, a3⟩
    · have := P1.out hV
      rw [this] at h2
      exact absurd h2 hV)
  generalize (printS t).1 = ps at *
  generalize (printS t).2 = pe at *
  clear b2 y0 y1 hbb P0 P1
  go_upto_if 26 with fail
  go_cut [4] (fun s4 w => ∃ wx : World, wx = w ∧ s4 = .bool false ∧ Hid (Below w0.heap.size w0 w))
  case first =>
    cases bb with
    | false =>
      go_wp2_with fail
      go_meet
      exact ⟨_, rfl, rfl, B2⟩
    | true =>
      obtain ⟨e1, e2, e3⟩ := BT.out rfl
      subst e1
      have PA2 := Lib.hid (PA.out w2 _ _ _ _ e2 e3 B2.out)
      clear e2 e3 nb ng
      go_wp2_with fail
      refine PA2.out.mono ?_
      rintro e w3 ⟨q1, d1, q2, d2, rfl, k3, b3⟩
      have B3 := Lib.hid (B2.out.trans (b3.out.mono B2.out.size))
      obtain ⟨w4, hw4⟩ : ∃ w4, w4 = w3.alloc (trObj (.slice q1 t.items.length d1) (.slice q2 t.slack.length d2)) := ⟨_, rfl⟩
      have b34 : Below w3.heap.size w3 w4 := by rw [hw4]; exact (Below.refl _ _).alloc (Nat.le_refl _) _
      have CM4 := Lib.hid (show w4.heap[w3.heap.size]? = some (trObj (.slice q1 t.items.length d1) (.slice q2 t.slack.length d2)) by rw [hw4]; exact new_blk _)
      have B4 := Lib.hid (B3.out.trans (b34.mono B3.out.size))
      have SA4 := Lib.hid (SA.out w4 _ _ B4.out ⟨k3.out.1.below b34, k3.out.2.below b34⟩)
      have HW4 := Lib.hid hw4
      obtain ⟨M, hM⟩ : ∃ M, M = w3.heap.size := ⟨_, rfl⟩
      rw [← hM] at CM4
      have HM := Lib.hid hM
      have m0 := blk_cell (j := 0) (v := .slice q1 t.items.length d1) CM4.out rfl
      have m1 := blk_cell (j := 1) (v := .slice q2 t.slack.length d2) CM4.out rfl
      have t0 := blk_cell (j := 0) (v := .slice p1 t.items.length c1) (CL.out w4 B4.out) rfl
      have t1 := blk_cell (j := 1) (v := .slice p2 t.slack.length c2) (CL.out w4 B4.out) rfl
      have hM4 : M < w4.heap.size := blk_lt CM4.out
      have hT4 : W.heap.size < w4.heap.size := blk_lt (CL.out w4 B4.out)
      clear hw4 b34 k3 hM
      rw [errOf_zero]
      go_upto_region 4 with fail
      rw [← HW4.out]
      simp only [← HM.out]
      go_wp2_with (go_at_call 10; refine SA4.out.mono ?_; rintro e w5 ⟨rfl, b5⟩)
      have B5 := Lib.hid (B4.out.trans (b5.mono B4.out.size))
      clear b5
      go_wp2_with fail
      go_meet
      exact ⟨_, rfl, rfl, B5⟩
  case rest =>
    obtain ⟨w6, rfl, rfl, b6⟩ := hcut
    have PA6 := Lib.hid (PA.out w6 _ _ _ _ HSL.out HPS.out b6.out)
    clear nb ng BT
    go_wp2_with fail
    refine PA6.out.mono ?_
    rintro e w7 ⟨q1, d1, q2, d2, rfl, k7, b7⟩
    have B7 := Lib.hid (b6.out.trans (b7.out.mono b6.out.size))
    obtain ⟨w8, hw8⟩ : ∃ w8, w8 = w7.alloc (trObj (.slice q1 Y.items.length d1) (.slice q2 Y.slack.length d2)) := ⟨_, rfl⟩
    have b78 : Below w7.heap.size w7 w8 := by rw [hw8]; exact (Below.refl _ _).alloc (Nat.le_refl _) _
    have CM8 := Lib.hid (show w8.heap[w7.heap.size]? = some (trObj (.slice q1 Y.items.length d1) (.slice q2 Y.slack.length d2)) by rw [hw8]; exact new_blk _)
    have B8 := Lib.hid (B7.out.trans (b78.mono B7.out.size))
    have K8 := Lib.hid (show RT w8 (.slice q1 Y.items.length d1) Y.items ∧ RI w8 (.slice q2 Y.slack.length d2) Y.slack from ⟨k7.out.1.below b78, k7.out.2.below b78⟩)
    have HW8 := Lib.hid hw8
    obtain ⟨M, hM⟩ : ∃ M, M = w7.heap.size := ⟨_, rfl⟩
    rw [← hM] at CM8
    have HM := Lib.hid hM
    have m0 := blk_cell (j := 0) (v := .slice q1 Y.items.length d1) CM8.out rfl
    have m1 := blk_cell (j := 1) (v := .slice q2 Y.slack.length d2) CM8.out rfl
    have hM8 : M < w8.heap.size := blk_lt CM8.out
    have SU8 := Lib.hid (SU.out w8 B8.out)
    clear hw8 b78 k7 hM
    by_cases her : er = 0
    · obtain ⟨hvy, hln⟩ := VY.out her
      subst her
      have q0 : (((ln : Nat) : Int) == 0) = true := by rw [hln]; rfl
      have q0' : (ln == 0) = true := by rw [hln]; rfl
      have OKY := valid_ok hvy
      have h63 := OKY.2.1
      have h16 := OKY.2.2.1
      have HPY : Hid (∀ i, i < Y.items.length → (Y.items.getD i default).pr.length ≤ 140737488355328) := Lib.hid (fun i hi => by have := (valid_item hvy hi).pr; omega)
      have TB : Hid (parseS (textP Y) = (Y, 0, 0)) := Lib.hid (text_back hvy)
      have TL : Hid ((textP Y).length ≤ 140737488355328) := Lib.hid (by have := textP_len hvy; omega)
      have PG8 := Lib.hid (PG.out Y w8 _ _ hvy B8.out K8.out)
      rw [errOf_zero]
      clear hvy hln OKY VY NY
      go_upto_region 7 with fail
      rw [← HW8.out]
      simp only [← HM.out]
      go_wp2_with fail
      refine PG8.out.mono ?_
      rintro e w9 ⟨rfl, b9⟩
      have B9 := Lib.hid (B8.out.trans (b9.mono B8.out.size))
      have CM9 := Lib.hid (blk_below CM8.out b9)
      have K9 := Lib.hid (show RT w9 (.slice q1 Y.items.length d1) Y.items ∧ RI w9 (.slice q2 Y.slack.length d2) Y.slack from ⟨K8.out.1.below b9, K8.out.2.below b9⟩)
      have PA9 := Lib.hid (PA.out w9 _ _ _ _ TL.out TB.out B9.out)
      clear b9 m0 m1
      generalize textP Y = q at *
      go_wp2_with fail
      refine PA9.out.mono ?_
      rintro e w10 ⟨q3, d3, q4, d4, rfl, k10, b10⟩
      have B10 := Lib.hid (B9.out.trans (b10.out.mono B9.out.size))
      obtain ⟨w11, hw11⟩ : ∃ w11, w11 = w10.alloc (trObj (.slice q3 Y.items.length d3) (.slice q4 Y.slack.length d4)) := ⟨_, rfl⟩
      have b1011 : Below w10.heap.size w10 w11 := by rw [hw11]; exact (Below.refl _ _).alloc (Nat.le_refl _) _
      have CZ11 := Lib.hid (show w11.heap[w10.heap.size]? = some (trObj (.slice q3 Y.items.length d3) (.slice q4 Y.slack.length d4)) by rw [hw11]; exact new_blk _)
      have B11 := Lib.hid (B10.out.trans (b1011.mono B10.out.size))
      have CM11 := Lib.hid (blk_below (blk_below CM9.out b10.out) b1011)
      have K11 := Lib.hid (show RT w11 (.slice q1 Y.items.length d1) Y.items ∧ RI w11 (.slice q2 Y.slack.length d2) Y.slack from ⟨(K9.out.1.below b10.out).below b1011, (K9.out.2.below b10.out).below b1011⟩)
      have KZ11 := Lib.hid (show RT w11 (.slice q3 Y.items.length d3) Y.items ∧ RI w11 (.slice q4 Y.slack.length d4) Y.slack from ⟨k10.out.1.below b1011, k10.out.2.below b1011⟩)
      have HW11 := Lib.hid hw11
      obtain ⟨Z, hZ⟩ : ∃ Z, Z = w10.heap.size := ⟨_, rfl⟩
      rw [← hZ] at CZ11
      have HZ := Lib.hid hZ
      have NU := Lib.hid (numbers_t Y.slack _ _ w11 KZ11.out.2 K11.out.2 (by omega))
      have m0 := blk_cell (j := 0) (v := .slice q1 Y.items.length d1) CM11.out rfl
      have m1 := blk_cell (j := 1) (v := .slice q2 Y.slack.length d2) CM11.out rfl
      have z0 := blk_cell (j := 0) (v := .slice q3 Y.items.length d3) CZ11.out rfl
      have z1 := blk_cell (j := 1) (v := .slice q4 Y.slack.length d4) CZ11.out rfl
      have hM11 : M < w11.heap.size := blk_lt CM11.out
      have hZ11 : Z < w11.heap.size := blk_lt CZ11.out
      have hli : (Y.items.length : Int) ≤ 63 := by omega
      have hne1 : ((Y.items.length : Int) != (Y.items.length : Int)) = false := by simp
      have hne2 : (Y.items.length != Y.items.length) = false := by simp
      obtain ⟨_, _, hv1, _, _, hi1⟩ := K11.out.1.out
      injection hv1 with hv1 hl1 hc1
      clear hl1 hc1
      rw [← hv1] at hi1
      obtain ⟨_, _, hv3, _, _, hi3⟩ := KZ11.out.1.out
      injection hv3 with hv3 hl3 hc3
      clear hl3 hc3
      rw [← hv3] at hi3
      have HI1 := Lib.hid hi1
      have HI3 := Lib.hid hi3
      clear hw11 b1011 k10 hZ hi1 hi3 hv1 hv3
      rw [errOf_zero]
      go_upto_region 13 with fail
      rw [← HW11.out]
      simp only [← HZ.out]
      go_wp2_with (go_at_call 13; refine NU.out.mono ?_; rintro e w12 ⟨rfl, b12⟩)
      have B12 := Lib.hid b12
      clear b12
      go_loopw [18] (fun iv wr => ∃ m : Nat, iv = .int .i64 m ∧ m ≤ Y.items.length ∧ Hid (Below w11.heap.size w11 wr)) (fun iv _ => Y.items.length - (intOf iv).toNat)
      case atStart => exact ⟨0, by go_num, Nat.zero_le _, B12⟩
      case round =>
        obtain ⟨m, rfl, hm, hbm⟩ := hrel
        have hmi : (m : Int) ≤ 63 := by omega
        have CMr := Lib.hid (blk_below CM11.out hbm.out)
        have CZr := Lib.hid (blk_below CZ11.out hbm.out)
        have r0 := blk_cell (j := 0) (v := .slice q1 Y.items.length d1) CMr.out rfl
        have BWr := Lib.hid (B11.out.trans (hbm.out.mono B11.out.size))
        by_cases hml : m < Y.items.length
        · have hml' : (m : Int) < (Y.items.length : Int) := by omega
          have hm0 : (0 : Int) ≤ (m : Int) := by omega
          have hm1 : m + 1 ≤ Y.items.length := hml
          obtain ⟨b, o, rfl, hb, hx⟩ := HI1.out (by omega)
          obtain ⟨b', o', rfl, hb', hy⟩ := HI3.out (by omega)
          have hx := (hx m hml).below hb hbm.out
          have hy := (hy m hml).below hb' hbm.out
          have hpr := HPY.out m hml
          generalize Y.items.getD m default = xx at *
          obtain ⟨x0, x1, x2, x3, u, x4, hu⟩ := hx
          obtain ⟨y0, y1, y2, y3, v, y4, hv⟩ := hy
          obtain ⟨au, cu, rfl⟩ := RI_form hu
          obtain ⟨av, cv, rfl⟩ := RI_form hv
          have e1 : (xx.nm != xx.nm) = false := by simp
          have e2 : (xx.par != xx.par) = false := by simp
          have e3 := fun w => rsv_neq xx.q xx.p w
          have k0 : ∀ d os, (grow (redrawn wr d) os).cell? ⟨M, 0, none⟩ = some (.slice (some ⟨b, o, none⟩) Y.items.length d1) := fun d os => cell_regrown (two_a CMr.out) d os
          have k1 : ∀ d os, (grow (redrawn wr d) os).cell? ⟨Z, 0, none⟩ = some (.slice (some ⟨b', o', none⟩) Y.items.length d3) := fun d os => cell_regrown (two_a CZr.out) d os
          have kx0 : ∀ d os, (grow (redrawn wr d) os).cell? ⟨b, o + m * 5, none⟩ = some (str xx.nm) := fun d os => cell_regrown x0 d os
          have kx1 : ∀ d os, (grow (redrawn wr d) os).cell? ⟨b, o + m * 5 + 1, none⟩ = some (.int .i64 xx.par) := fun d os => cell_regrown x1 d os
          have kx2 : ∀ d os, (grow (redrawn wr d) os).cell? ⟨b, o + m * 5 + 2, none⟩ = some (.int .i64 xx.q) := fun d os => cell_regrown x2 d os
          have kx3 : ∀ d os, (grow (redrawn wr d) os).cell? ⟨b, o + m * 5 + 3, none⟩ = some (.int .i64 xx.p) := fun d os => cell_regrown x3 d os
          have kx4 : ∀ d os, (grow (redrawn wr d) os).cell? ⟨b, o + m * 5 + 4, none⟩ = some (.slice au xx.pr.length cu) := fun d os => cell_regrown x4 d os
          have ky0 : ∀ d os, (grow (redrawn wr d) os).cell? ⟨b', o' + m * 5, none⟩ = some (str xx.nm) := fun d os => cell_regrown y0 d os
          have ky1 : ∀ d os, (grow (redrawn wr d) os).cell? ⟨b', o' + m * 5 + 1, none⟩ = some (.int .i64 xx.par) := fun d os => cell_regrown y1 d os
          have ky2 : ∀ d os, (grow (redrawn wr d) os).cell? ⟨b', o' + m * 5 + 2, none⟩ = some (.int .i64 xx.q) := fun d os => cell_regrown y2 d os
          have ky3 : ∀ d os, (grow (redrawn wr d) os).cell? ⟨b', o' + m * 5 + 3, none⟩ = some (.int .i64 xx.p) := fun d os => cell_regrown y3 d os
          have ky4 : ∀ d os, (grow (redrawn wr d) os).cell? ⟨b', o' + m * 5 + 4, none⟩ = some (.slice av xx.pr.length cv) := fun d os => cell_regrown y4 d os
          have D0 := Lib.hid (fun d os => Calls.regrown_of (numbers_t xx.pr _ _ (grow (redrawn wr d) os) (hv.below (below_regrown wr d os)) (hu.below (below_regrown wr d os)) hpr))
          clear hml hu hv x0 x1 x2 x3 x4 y0 y1 y2 y3 y4
          go_upto_region 18 with fail
          clear r0
          refine wp_region_quiet_below (by kernel_rfl) (by kernel_rfl) ?_
          repeat (first | go_big_quiet_step (first | with_reducible exact D0.out _ _) | quiet_step (first | with_reducible exact D0.out _ _))
          refine wpQuiet_nil ?_
          intro _ hw'
          obtain ⟨⟨dq, osq⟩, rfl⟩ := hw'
          have BN := Lib.hid (hbm.out.trans ((below_regrown wr dq osq).mono hbm.out.size))
          go_wp2_with fail
          go_roundw
          case rel => exact ⟨m + 1, by go_num, hm1, BN⟩
          case measure => show Y.items.length - ((m : Int) + 1).toNat < Y.items.length - ((m : Int)).toNat; omega
        · obtain rfl : m = Y.items.length := by omega
          have hge3 : ¬ (Y.items.length : Int) < (Y.items.length : Int) := by omega
          clear hml
          go_wp2_with (go_at_call 12; refine (SU.out _ BWr.out).mono ?_; rintro e w13 ⟨rfl, b13⟩)
          go_ret
          exact ⟨rfl, B0.out.trans ((BWr.out.trans (b13.mono BWr.out.size)).mono B0.out.size)⟩
    · have hy := NY.out her
      subst hy
      rw [errOf_ne her]
      simp only [List.length_nil] at HW8 m0 m1
      clear VY NY her K8 CM8
      go_upto_region 7 with fail
      rw [← HW8.out]
      simp only [← HM.out]
      go_wp2_with (go_at_call 12; refine SU8.out.mono ?_; rintro e w9 ⟨rfl, b9⟩)
      go_ret
      exact ⟨rfl, B0.out.trans ((B8.out.trans (b9.mono B8.out.size)).mono B0.out.size)⟩
theorem configBack_walk (t : Tr) (v1 v2 : Value) {W : World} (h1 : RT W v1 t.items) (h2 : RI W v2 t.slack) (hl : t.items.length ≤ 1048576) (hs : t.slack.length ≤ 1048576) (hx : ∀ y ∈ t.items, y.nm.length ≤ 1048576 ∧ y.pr.length ≤ 1048576) (a : ByteArray) (ha : a.size ≤ 1048576) (E : EnvT W) :
    Calls Tryz.prog 7 #[.agg #[v1, v2], .string a] W fun e w' => e = .returned (.bool true) ∧ Below W.heap.size W w' := configBack_all t v1 v2 a W h1 h2 hl hs hx ha E
end Go.Proofs.YtophilmjfdhhaaaGreatDoor
