/- The walk of LexBack, where what is read is of small bulk. -/
import Derived.Test.YtdcnlgjngfmbcaaDoorWLexBlanks
import Derived.Test.YtdcnlgjngfmbcaaDoorBb
import Derived.Test.YtdcnlgjngfmbcaaDoorBc
namespace Go.Proofs.YtdcnlgjngfmbcaaDoor
open Go Go.RowKit Go.Shelf
set_option linter.unusedVariables false
set_option linter.unusedSimpArgs false
set_option maxRecDepth 100000
set_option maxHeartbeats 1600000

theorem joinS_err (w : List (List UInt8)) (h : (joinS w).2 ≠ 0) : (joinS w).1 = [] := by
  unfold joinS at h ⊢
  split
  · rfl
  · split
    · rfl
    · rename_i h1 h2
      rw [if_neg h1, if_neg h2] at h
      exact absurd rfl h
theorem joinS_len (w : List (List UInt8)) : (joinS w).1.length ≤ 1048576 := by
  unfold joinS
  split
  · simp
  · split
    · simp
    · simpa using Nat.le_of_not_lt ‹_›
theorem txt_len : ∀ L, (txtGo L).length ≤ L.length * 1048577
  | [] => by simp [txtGo]
  | w :: r => by
    rw [txtGo]
    have := joinS_len w
    have := txt_len r
    simp only [List.length_append, List.length_cons]
    omega
theorem txt_take (L : List (List (List UInt8))) (k : Nat) (hk : k < L.length) : txtGo (L.take (k + 1)) = txtGo (L.take k) ++ (joinS (L.getD k [])).1 ++ [10] := by
  rw [List.take_succ_eq_append_getElem hk, txtGo_snoc, List.getD, List.getElem?_eq_getElem hk, List.append_assoc]; rfl
theorem want_take (L : List (List (List UInt8))) (k : Nat) (hk : k < L.length) : wantGo 1 (L.take (k + 1)) = wantGo 1 (L.take k) ++ (if (joinS (L.getD k [])).1 = [] then [] else [(k + 1, L.getD k [])]) := by
  rw [List.take_succ_eq_append_getElem hk, wantGo_snoc, List.getD, List.getElem?_eq_getElem hk, List.length_take, show 1 + min k L.length = k + 1 by omega]; rfl
theorem wantGo_words : ∀ (L : List (List (List UInt8))) (no : Nat), ∀ x ∈ wantGo no L, x.2 ∈ L
  | [], _, x, h => by cases h
  | w :: r, no, x, h => by
    rw [wantGo] at h
    split at h
    · exact List.mem_cons_of_mem _ (wantGo_words r _ x h)
    · rcases List.mem_cons.1 h with rfl | h
      · exact List.mem_cons_self
      · exact List.mem_cons_of_mem _ (wantGo_words r _ x h)
theorem neY (n : Int) (w : World) : (binOp BinOp.neq 24 (errN n) .nilIface).run Tryd.prog w = .ok (.bool true) w := by kernel_rfl
theorem errOfY {n : Int} (h : n ≠ 0) : errOf n = errN n := if_neg h
theorem Tryd.infoStrs : (Tryd.prog.info? 34).map (fun i => (i.zero, i.size, i.bytes)) = some (some (.slice none 0 0), 1, 24) := by kernel_rfl
theorem Tryd.infoInt : (Tryd.prog.info? 3).map (fun i => (i.zero, i.size, i.bytes)) = some (some (.int .i64 0), 1, 8) := by kernel_rfl
abbrev nosOf (o : List LnS) : List Value := o.map fun x => .int .i64 (x.1 : Nat)
theorem rs_snoc {W : World} {vs : List Value} {W0 : List LnS} (hl : vs.length = W0.length) (h : ∀ j, j < W0.length → RS W (vs.getD j undef) (W0.getD j default).2) {u : Value} {x : LnS} (hu : RS W u x.2) : ∀ j, j < (W0 ++ [x]).length → RS W ((vs ++ [u]).getD j undef) ((W0 ++ [x]).getD j default).2 := by
  intro j hj
  rw [List.length_append, List.length_singleton] at hj
  rcases Nat.lt_or_ge j W0.length with h' | h'
  · have e1 : (vs ++ [u]).getD j undef = vs.getD j undef := by simp [List.getD, List.getElem?_append_left (show j < vs.length by omega)]
    have e2 : (W0 ++ [x]).getD j default = W0.getD j default := by simp [List.getD, List.getElem?_append_left h']
    rw [e1, e2]
    exact h j h'
  · obtain rfl : j = W0.length := by omega
    have e1 : (vs ++ [u]).getD W0.length undef = u := by rw [← hl]; simp [List.getD]
    have e2 : (W0 ++ [x]).getD W0.length default = x := by simp [List.getD]
    rw [e1, e2]
    exact hu
theorem nosOf_get (o : List LnS) (k : Nat) (h : k < o.length) : (nosOf o).getD k undef = .int .i64 ((o.getD k default).1 : Nat) := by
  rw [List.getD, List.getElem?_map, List.getD, List.getElem?_eq_getElem h]; rfl
theorem own_cells {w : World} {B : Nat} {e : TypeId} {p : Option Addr} {n c : Nat} {xs : List Value} (h : w.ownsRow B e 1 (.slice p n c) n xs) : ∀ i, i < n → ∃ b off, p = some ⟨b, off, none⟩ ∧ b < w.heap.size ∧ w.cell? ⟨b, off + i, none⟩ = some (xs.getD i undef) := by
  intro i hi
  obtain ⟨hr, hl⟩ := RG_own h
  obtain ⟨p', c', e', hr'⟩ := RG.out hr
  injection e' with e1 e2 e3
  obtain ⟨b, off, hp, _, hb, hc⟩ := hr' (by omega)
  exact ⟨b, off, by rw [e1, hp], hb, hc i (by omega)⟩
theorem back_big (L : List (List (List UInt8))) (v : Value) (h0 : 200 < L.length) (h1 : L.length ≤ 1048576) (W : World) (hv : RW W v L) (E : Env W) :
    Calls Tryd.prog 5 #[v] W fun e w' => e = .returned (.bool true) ∧ Below W.heap.size W w' := by
  obtain ⟨p, c, rfl, _⟩ := hv
  have WC := Lib.hid (works_c W E)
  have hb : (200 : Int) < (L.length : Int) := by omega
  have hb2 : decide (200 < L.length) = true := decide_eq_true h0
  clear E h0
  go_enter Tryd.func5, Tryd.ntmps5
  go_wp2_with fail
  refine WC.out.mono ?_
  rintro e w1 ⟨rfl, b1⟩
  go_wp2_with fail
  go_ret
  exact ⟨rfl, b1⟩
theorem back_small (L : List (List (List UInt8))) (v : Value) (h0 : L.length ≤ 200) (h2 : ∀ i, i < L.length → sumB (L.getD i []) ≤ 1048576) (W : World) (hv : RW W v L) (E : Env W) :
    Calls Tryd.prog 5 #[v] W fun e w' => e = .returned (.bool true) ∧ Below W.heap.size W w' := by
  obtain ⟨i0, hi, hz0, hz1, hz2⟩ := info_of1 Tryd.infou8
  obtain ⟨i1, hj, hy0, hy1, hy2⟩ := info_of1 Tryd.infoStrs
  obtain ⟨i2, hk', hx0, hx1, hx2⟩ := info_of1 Tryd.infoInt
  obtain ⟨p, c, rfl, hr⟩ := hv
  have HR := Lib.hid hr
  have BACK := Lib.hid (back_law L h0)
  have TT := Lib.hid (txt_take L)
  have WT := Lib.hid (want_take L)
  have JE := Lib.hid joinS_err
  have JL := Lib.hid joinS_len
  have TL := Lib.hid (fun k => txt_len (L.take k))
  have WL := Lib.hid (fun k => wantGo_len (L.take k) 1)
  have WW := Lib.hid (wantGo_words L 1)
  have SB := Lib.hid h2
  have TC := Lib.hid twin_c
  have JC := Lib.hid join_any
  have CL := Lib.hid lines_any
  have EE := Lib.hid E
  have WC := Lib.hid works_c
  have n0 := ne0
  have hL : (L.length : Int) ≤ 200 := by omega
  have hL1 : decide (200 < L.length) = false := decide_eq_false (by omega)
  have hL2 : ¬ (200 : Int) < (L.length : Int) := by omega
  have HL := Lib.hid h0
  clear E hr h2 h0
  go_enter Tryd.func5, Tryd.ntmps5
  go_wp2_with fail
  clear hL1 hL2
  go_loopw [3, 4, 5, 6] (fun mo mw mn i wr => ∃ (k : Nat) (vs : List Value), i = .int .i64 k ∧ k ≤ L.length ∧ wr.ownsRow W.heap.size 5 1 mo (txtGo (L.take k)).length (bcs (txtGo (L.take k))) ∧ wr.ownsRow W.heap.size 34 1 mw (wantGo 1 (L.take k)).length vs ∧ wr.ownsRow W.heap.size 3 1 mn (wantGo 1 (L.take k)).length (nosOf (wantGo 1 (L.take k))) ∧ Hid (∀ j, j < (wantGo 1 (L.take k)).length → RS W (vs.getD j undef) ((wantGo 1 (L.take k)).getD j default).2) ∧ Below W.heap.size W wr) (fun _ _ _ i _ => L.length - (intOf i).toNat)
  case atStart => exact ⟨0, [], by go_num, Nat.zero_le _, World.ownsRow_nil _ _ _ _, World.ownsRow_nil _ _ _ _, World.ownsRow_nil _ _ _ _, Lib.hid (fun j hj => by simp [wantGo] at hj), Below.refl _ _⟩
  case round =>
    obtain ⟨k, vs, rfl, hk, howo, howw, hown, hvs, hbe⟩ := hrel
    have hkb : (k : Int) ≤ 200 := by omega
    obtain ⟨po, co, rfl⟩ := own_form1 howo
    obtain ⟨pw, cw, rfl⟩ := own_form1 howw
    obtain ⟨pn, cn, rfl⟩ := own_form1 hown
    by_cases hlt : k < L.length
    · have hlt' : (k : Int) < (L.length : Int) := by omega
      obtain ⟨b, o, u, rfl, hblt, g0, rs0⟩ := HR.out k hlt
      have g := (hbe.cell (p := ⟨b, o + k, none⟩) hblt).trans g0
      have GG : Hid (∀ wx, Below W.heap.size W wx → wx.cell? ⟨b, o + k, none⟩ = some u) := Lib.hid (fun wx h => (h.cell (p := ⟨b, o + k, none⟩) hblt).trans g0)
      have TK := Lib.hid (TT.out k hlt)
      have WK := Lib.hid (WT.out k hlt)
      have SK := SB.out k hlt
      have TLk := TL.out k
      have WLk := WL.out k
      have JEk := Lib.hid (JE.out (L.getD k []))
      have JLk := JL.out (L.getD k [])
      have hkt : (L.take k).length = k := by rw [List.length_take]; omega
      rw [hkt] at TLk WLk
      have rs1 := rs0.below hbe
      have sb := sumB_bounds (L.getD k [])
      have T1 := Lib.hid (TC.out (L.getD k []) u wr rs1 (by have := sb.1; omega))
      have J1 := Lib.hid (fun v w (h : RS w v (L.getD k [])) => JC.out (L.getD k []) v w h (by have := sb.1; omega) (fun q hq => by have := sb.2 q hq; omega) (by
        by_cases hx : L.getD k [] = []
        · rw [hx]; simp [Lib.join_nil]
        · have := join_sum (L.getD k []) hx; omega))
      generalize hWd : L.getD k [] = wd at *
      generalize hT1 : txtGo (L.take (k + 1)) = TX at *
      generalize hW1 : wantGo 1 (L.take (k + 1)) = WX at *
      generalize txtGo (L.take k) = T0 at *
      generalize wantGo 1 (L.take k) = W0 at *
      have HVL : Hid (vs.length = W0.length) := Lib.hid (by have := howw.1; omega)
      have HT1 := Lib.hid hT1
      have HW1 := Lib.hid hW1
      have t0 : T0.length ≤ 209715400 := by
        have : k * 1048577 ≤ 200 * 1048577 := Nat.mul_le_mul_right _ (by omega)
        omega
      have RSU := Lib.hid rs0
      obtain ⟨pu, cu, rfl, _⟩ := RS.out rs0
      clear hT1 hW1 hWd rs1 rs0 hkt TLk SK sb hlt
      go_wp2_with fail
      refine T1.out.mono ?_
      rintro e w1 ⟨vt, rfl, rt, b1⟩
      have RT := Lib.hid rt
      have B1 := Lib.hid (hbe.trans (b1.mono hbe.size))
      have OWO1 := Lib.hid (own_below1 howo b1)
      have OWW1 := Lib.hid (own_below1 howw b1)
      have OWN1 := Lib.hid (own_below1 hown b1)
      clear rt b1 hbe howo howw hown g g0
      go_wp2_with fail
      refine (J1.out _ w1 RT.out).mono ?_
      rintro e w2 ⟨rfl, b2⟩
      have B2 := Lib.hid (B1.out.trans (b2.mono B1.out.size))
      have OWO2 := Lib.hid (own_below1 OWO1.out b2)
      have OWW2 := Lib.hid (own_below1 OWW1.out b2)
      have OWN2 := Lib.hid (own_below1 OWN1.out b2)
      have g2 := GG.out w2 B2.out
      have HS2 := Lib.hid B2.out.size
      clear b2 B1 OWO1 OWW1 OWN1 T1 J1 RT
      generalize joinS wd = J at *
      obtain ⟨x, en⟩ := J
      simp only at JLk
      have HB := Lib.hid (show W0.length + 1 ≤ maxLen ∧ (W0.length + 1) * 24 ≤ 140737488355328 ∧ (W0.length + 1) * 8 ≤ 140737488355328 ∧ T0.length + (⟨x.toArray⟩ : ByteArray).size ≤ maxLen ∧ T0.length + (⟨x.toArray⟩ : ByteArray).size ≤ 140737488355328 ∧ T0.length + (⟨x.toArray⟩ : ByteArray).size + 1 ≤ maxLen ∧ (T0.length + (⟨x.toArray⟩ : ByteArray).size + 1) * 1 ≤ 140737488355328 from by
        rw [sz]; unfold maxLen; omega)
      have hkb1 : (k : Int) + 1 ≤ 200 := by omega
      by_cases hx : x = []
      · have WQ : Hid (WX = W0) := Lib.hid (by rw [WK.out]; simp only; rw [if_pos hx, List.append_nil])
        have TQ : Hid (TX = T0 ++ [] ++ [10]) := Lib.hid (by rw [TK.out]; simp only; rw [hx])
        subst hx
        clear WK TK JEk JLk
        by_cases he : en = 0
        · subst he
          rw [errOf0]
          go_wp2_with (first | (at_builtin; refine Lib.wpList_append_own_string _ rfl _ _ 46 9 rfl _ 5 i0 Tryd.underlying46 Tryd.underlying9 hi hz0 hz1 hz2 _ _ _ rfl OWO2.out ⟨([] : List UInt8).toArray⟩ rfl HB.out.2.2.2.1 HB.out.2.2.2.2.1 HS2.out ?_; intro m5 w5 hown5 hg5 _; have hbe5 := below_own B2.out HS2.out OWO2.out hg5; have ow5 := own_grown OWW2.out OWO2.out (by decide) hg5; have on5 := own_grown OWN2.out OWO2.out (by decide) hg5) | (at_builtin; refine appendN2 (W := W) rfl _ _ 46 rfl W.heap.size 5 i0 _ 1 1 Tryd.underlying46 hi hz0 hz1 hz2 rfl (by decide) _ _ _ rfl hown5 _ [.int .u8 10] _ rfl rfl rfl (by intro u hu; simp at hu; subst hu; rfl) HB.out.2.2.2.2.2.1 HB.out.2.2.2.2.2.2 hbe5.size hbe5 ?_; intro m6 w6 hown6 hbe6 hgr6))
          have OO : Hid (w6.ownsRow W.heap.size 5 1 m6 TX.length (bcs TX)) := Lib.hid (own_cast hown6 (by rw [TQ.out, sz]; simp; try omega) (by rw [TQ.out, bcs_app, bcs_app, strCells_b]; rfl))
          have OW := Lib.hid (own_grew ow5 hown5 (by decide) hgr6)
          have ON := Lib.hid (own_grew on5 hown5 (by decide) hgr6)
          have BE := Lib.hid hbe6
          clear hown5 hg5 hbe5 ow5 on5 hown6 hbe6 hgr6
          go_wp2_with fail
          go_roundw
          case rel => exact ⟨k + 1, vs, by go_num, by omega, by rw [HT1.out]; exact OO.out, by rw [HW1.out, WQ.out]; exact OW.out, by rw [HW1.out, WQ.out]; exact ON.out, by rw [HW1.out, WQ.out]; exact hvs, BE.out⟩
          case measure => show L.length - ((k : Int) + 1).toNat < L.length - ((k : Int)).toNat; omega
        · have ny := neY en
          rw [errOfY he]
          clear he
          go_wp2_with (first | (at_builtin; refine Lib.wpList_append_own_string _ rfl _ _ 46 9 rfl _ 5 i0 Tryd.underlying46 Tryd.underlying9 hi hz0 hz1 hz2 _ _ _ rfl OWO2.out ⟨([] : List UInt8).toArray⟩ rfl HB.out.2.2.2.1 HB.out.2.2.2.2.1 HS2.out ?_; intro m5 w5 hown5 hg5 _; have hbe5 := below_own B2.out HS2.out OWO2.out hg5; have ow5 := own_grown OWW2.out OWO2.out (by decide) hg5; have on5 := own_grown OWN2.out OWO2.out (by decide) hg5) | (at_builtin; refine appendN2 (W := W) rfl _ _ 46 rfl W.heap.size 5 i0 _ 1 1 Tryd.underlying46 hi hz0 hz1 hz2 rfl (by decide) _ _ _ rfl hown5 _ [.int .u8 10] _ rfl rfl rfl (by intro u hu; simp at hu; subst hu; rfl) HB.out.2.2.2.2.2.1 HB.out.2.2.2.2.2.2 hbe5.size hbe5 ?_; intro m6 w6 hown6 hbe6 hgr6))
          have OO : Hid (w6.ownsRow W.heap.size 5 1 m6 TX.length (bcs TX)) := Lib.hid (own_cast hown6 (by rw [TQ.out, sz]; simp; try omega) (by rw [TQ.out, bcs_app, bcs_app, strCells_b]; rfl))
          have OW := Lib.hid (own_grew ow5 hown5 (by decide) hgr6)
          have ON := Lib.hid (own_grew on5 hown5 (by decide) hgr6)
          have BE := Lib.hid hbe6
          clear hown5 hg5 hbe5 ow5 on5 hown6 hbe6 hgr6
          go_wp2_with fail
          go_roundw
          case rel => exact ⟨k + 1, vs, by go_num, by omega, by rw [HT1.out]; exact OO.out, by rw [HW1.out, WQ.out]; exact OW.out, by rw [HW1.out, WQ.out]; exact ON.out, by rw [HW1.out, WQ.out]; exact hvs, BE.out⟩
          case measure => show L.length - ((k : Int) + 1).toNat < L.length - ((k : Int)).toNat; omega
      · have he : en = 0 := Classical.byContradiction fun h => hx (JEk.out h)
        subst he
        rw [errOf0]
        have hxe : (⟨x.toArray⟩ : ByteArray).toList.isEmpty = false := by
          cases x with
          | nil => exact absurd rfl hx
          | cons a r => rw [ByteArray.toList_eq]; rfl
        have WQ : Hid (WX = W0 ++ [(k + 1, wd)]) := Lib.hid (by rw [WK.out]; simp only; rw [if_neg hx])
        have TQ : Hid (TX = T0 ++ x ++ [10]) := TK
        have hxf : x.isEmpty = false := by cases x with | nil => exact absurd rfl hx | cons a r => rfl
        have hxg : (x != []) = true := by simpa using hx
        have hxh : ¬ (⟨x.toArray⟩ : ByteArray).toList = [] := by rw [ByteArray.toList_eq]; simpa using hx
        clear WK TK JEk
        have VX := Lib.hid (rs_snoc (x := (k + 1, wd)) HVL.out hvs.out RSU.out)
        have LX : Hid ((W0 ++ [(k + 1, wd)]).length = W0.length + 1) := Lib.hid (by simp)
        have NX : Hid (nosOf W0 ++ [Value.int .i64 ((k : Int) + 1)] = nosOf (W0 ++ [(k + 1, wd)])) := Lib.hid (by simp)
        go_wp2_with (first | (at_builtin; refine appendN2 (W := W) rfl _ _ 45 rfl W.heap.size 34 i1 _ 1 24 Tryd.underlying45 hj hy0 hy1 hy2 rfl (by decide) _ _ _ rfl OWW2.out _ [.slice pu wd.length cu] _ rfl rfl rfl (by intro u hu; simp at hu; subst hu; rfl) HB.out.1 HB.out.2.1 HS2.out B2.out ?_; intro m3 w3 hown3 hbe3 hgr3; have oo3 := own_grew OWO2.out OWW2.out (by decide) hgr3; have on3 := own_grew OWN2.out OWW2.out (by decide) hgr3) | (at_builtin; refine appendN2 (W := W) rfl _ _ 47 rfl W.heap.size 3 i2 _ 1 8 Tryd.underlying47 hk' hx0 hx1 hx2 rfl (by decide) _ _ _ rfl on3 _ [.int .i64 ((k : Int) + 1)] _ rfl rfl rfl (by intro u hu; simp at hu; subst hu; rfl) HB.out.1 HB.out.2.2.1 hbe3.size hbe3 ?_; intro m4 w4 hown4 hbe4 hgr4; have oo4 := own_grew oo3 on3 (by decide) hgr4; have ow4 := own_grew hown3 on3 (by decide) hgr4) | (at_builtin; refine Lib.wpList_append_own_string _ rfl _ _ 46 9 rfl _ 5 i0 Tryd.underlying46 Tryd.underlying9 hi hz0 hz1 hz2 _ _ _ rfl oo4 ⟨x.toArray⟩ rfl HB.out.2.2.2.1 HB.out.2.2.2.2.1 hbe4.size ?_; intro m5 w5 hown5 hg5 _; have hbe5 := below_own hbe4 hbe4.size oo4 hg5; have ow5 := own_grown ow4 oo4 (by decide) hg5; have on5 := own_grown hown4 oo4 (by decide) hg5) | (at_builtin; refine appendN2 (W := W) rfl _ _ 46 rfl W.heap.size 5 i0 _ 1 1 Tryd.underlying46 hi hz0 hz1 hz2 rfl (by decide) _ _ _ rfl hown5 _ [.int .u8 10] _ rfl rfl rfl (by intro u hu; simp at hu; subst hu; rfl) HB.out.2.2.2.2.2.1 HB.out.2.2.2.2.2.2 hbe5.size hbe5 ?_; intro m6 w6 hown6 hbe6 hgr6))
        have OO : Hid (w6.ownsRow W.heap.size 5 1 m6 TX.length (bcs TX)) := Lib.hid (own_cast hown6 (by rw [TQ.out, sz]; simp; try omega) (by rw [TQ.out, bcs_app, bcs_app, strCells_b]; rfl))
        have OW := Lib.hid (own_grew ow5 hown5 (by decide) hgr6)
        have ON := Lib.hid (own_grew on5 hown5 (by decide) hgr6)
        have BE := Lib.hid hbe6
        clear hown5 hg5 hbe5 ow5 on5 hown6 hbe6 hgr6 hown3 hbe3 hgr3 oo3 on3 hown4 hbe4 hgr4 oo4 ow4
        go_wp2_with fail
        go_roundw
        case rel => exact ⟨k + 1, vs ++ [.slice pu wd.length cu], by go_num, by omega, by rw [HT1.out]; exact OO.out, by rw [HW1.out, WQ.out, LX.out]; exact OW.out, by rw [HW1.out, WQ.out, LX.out, ← NX.out]; exact ON.out, by rw [HW1.out, WQ.out]; exact VX.out, BE.out⟩
        case measure => show L.length - ((k : Int) + 1).toNat < L.length - ((k : Int)).toNat; omega
    · have hlt' : ¬ (k : Int) < (L.length : Int) := by omega
      obtain rfl : k = L.length := by omega
      have ek : L.take L.length = L := List.take_length
      rw [ek] at howo howw hown hvs
      rw [ek]
      have HWL : Hid (∀ j, j < (wantGo 1 L).length → ((wantGo 1 L).getD j default).2.length ≤ 281474976710656) := Lib.hid (fun j hj => by
        have hm : (wantGo 1 L).getD j default ∈ wantGo 1 L := by
          rw [List.getD, List.getElem?_eq_getElem hj]; exact List.getElem_mem hj
        obtain ⟨q, hq, e⟩ := List.getElem_of_mem (WW.out _ hm)
        have h1 := SB.out q hq
        have h2 := (sumB_bounds (L.getD q [])).1
        rw [List.getD, List.getElem?_eq_getElem hq, Option.getD_some, e] at h1 h2
        omega)
      have W2L : (wantGo 1 L).length ≤ 200 := by have := wantGo_len L 1; have := HL.out; omega
      have T2L : (txtGo L).length ≤ 209715400 := by
        have h1 := txt_len L
        have : L.length * 1048577 ≤ 200 * 1048577 := Nat.mul_le_mul_right _ HL.out
        omega
      have BK := BACK.out
      clear BACK TT WT JE JL TL WL WW SB TC JC HR ek hlt hk
      generalize txtGo L = T at *
      generalize wantGo 1 L = W1 at *
      by_cases hbig : 1048576 < T.length
      · have hb1 : (1048576 : Int) < (T.length : Int) := by omega
        have hb2 : decide (1048576 < T.length) = true := decide_eq_true hbig
        have BX := Lib.hid hbe
        clear howo howw hown hbe hbig BK
        go_wp2_with fail
        refine (WC.out _ (EE.out.below BX.out)).mono ?_
        rintro e w4 ⟨rfl, b4⟩
        have B4 := Lib.hid (BX.out.trans (b4.mono BX.out.size))
        clear b4
        go_wp2_with fail
        go_ret
        exact ⟨rfl, B4.out⟩
      · have hb1 : ¬ (1048576 : Int) < (T.length : Int) := by omega
        have hb2 : decide (1048576 < T.length) = false := decide_eq_false hbig
        have CT := Lib.hid (show Calls Tryd.prog 9 #[str T] wr fun e w' => ∃ v, e = .returned (.tuple #[v, .int .i64 0, .nilIface]) ∧ RL w' v W1 ∧ Below wr.heap.size wr w' from by
          have h := CL.out T wr (EE.out.below hbe) (by omega)
          rw [BK (by omega)] at h
          exact h)
        have hcv := conv_bytes howo
        have BX := Lib.hid hbe
        have OWW := Lib.hid howw
        have OWN := Lib.hid hown
        clear howo howw hown hbe hbig BK
        go_wp2_with fail
        refine CT.out.mono ?_
        rintro e w2 ⟨v2, rfl, rl2, b2⟩
        have G3 := Lib.hid (own_cells (own_below1 OWW.out b2))
        have G4 := Lib.hid (own_cells (own_below1 OWN.out b2))
        have B2 := Lib.hid (BX.out.trans (b2.mono BX.out.size))
        obtain ⟨p2, c2, rfl, g2⟩ := rl2
        have G2 := Lib.hid g2
        have q3 : ((W1.length : Int) != (W1.length : Int)) = false := by simp
        have hWi : (W1.length : Int) ≤ 200 := by omega
        clear g2 b2 BX OWW OWN hcv hb1 hb2
        go_wp2_with fail
        clear q3
        go_loopw [12] (fun i wr => ∃ k nq : Nat, k ≤ W1.length ∧ i = .int .i64 k ∧ wr = w2.drewN nq) (fun i _ => W1.length - (intOf i).toNat)
        case atStart => exact ⟨0, 0, Nat.zero_le _, by go_num, rfl⟩
        case round =>
          obtain ⟨k, nq, hk, rfl, rfl⟩ := hrel
          have hkb : (k : Int) ≤ 200 := by omega
          by_cases hlt : k < W1.length
          · obtain ⟨b, o, u1, rfl, _, a1, a2, a3⟩ := G2.out k hlt
            obtain ⟨b', o', rfl, _, d1⟩ := G4.out k hlt
            obtain ⟨b'', o'', rfl, _, f1⟩ := G3.out k hlt
            rw [nosOf_get W1 k hlt] at d1
            have d2 := (hvs.out k hlt).below B2.out
            have hkn : (k : Int) < (W1.length : Int) := by omega
            generalize vs.getD k undef = u2 at *
            have TX1 := Lib.hid (fun a => (texts_s _ u1 u2 (w2.drewN (nq + a)) (a3.below (below_dr _ _)) (d2.below (below_dr _ _)) (HWL.out k hlt)).mono (fun e w'' (h : e = .returned (.bool true) ∧ ∃ m, w'' = (w2.drewN (nq + a)).drewN m) => (⟨h.1, by
              obtain ⟨m, hm⟩ := h.2
              exact ⟨a + m, by rw [hm, World.drewN_drewN, Nat.add_assoc]⟩⟩ : e = .returned (.bool true) ∧ ∃ n, w'' = w2.drewN (nq + n))))
            obtain ⟨x1, y1, rfl, _⟩ := RS.out a3
            obtain ⟨x2, y2, rfl, _⟩ := RS.out d2
            generalize (W1.getD k default).2 = ws at *
            generalize (W1.getD k default).1 = no at *
            have e1 : ((no : Int) != (no : Int)) = false := by simp
            clear a3 d2 hlt
            go_wp2_with fail
            go_quiet ((go_at_call 19; exact TX1.out _))
            go_wp2_with fail
            go_roundw
            case rel => exact ⟨k + 1, _, by omega, by go_num, rfl⟩
            case measure => show W1.length - ((k : Int) + 1).toNat < W1.length - ((k : Int)).toNat; omega
          · obtain rfl : k = W1.length := by omega
            have B3 : Hid (Below W.heap.size W (w2.drewN nq)) := Lib.hid (B2.out.trans ((below_dr w2 nq).mono B2.out.size))
            clear hlt
            go_wp2_with fail
            refine (WC.out _ (EE.out.below B3.out)).mono ?_
            rintro e w4 ⟨rfl, b4⟩
            have B4 := Lib.hid (B3.out.trans (b4.mono B3.out.size))
            clear b4
            go_wp2_with fail
            go_ret
            exact ⟨rfl, B4.out⟩
theorem lexBack_walk {W : World} (L : List (List (List UInt8))) (v : Value) (hv : RW W v L) (h1 : L.length ≤ 1048576) (h2 : ∀ i, i < L.length → sumB (L.getD i []) ≤ 1048576) (E : Env W) :
    Calls Tryd.prog 5 #[v] W fun e w' => e = .returned (.bool true) ∧ Below W.heap.size W w' := by
  by_cases h : 200 < L.length
  · exact back_big L v h h1 W hv E
  · exact back_small L v (by omega) h2 W hv E
end Go.Proofs.YtdcnlgjngfmbcaaDoor
