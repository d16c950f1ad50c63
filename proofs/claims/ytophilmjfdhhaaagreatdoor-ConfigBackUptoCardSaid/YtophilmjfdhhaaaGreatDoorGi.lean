/- config.Tree.formed at every tree. -/
import Derived.Test.YtophilmjfdhhaaaGreatDoorGh
namespace Go.Proofs.YtophilmjfdhhaaaGreatDoor
open Go Go.RowKit Go.Shelf Go.Sort
set_option linter.unusedVariables false
set_option linter.unusedSimpArgs false
set_option maxRecDepth 100000
set_option maxHeartbeats 4000000

/-- Up from a place to the first one that is at most p. -/
def upTo (l : List It) (p : Int) : Nat → Int → Int
  | 0, i => i
  | f + 1, i => if p < i then upTo l p f (parOf l i) else i
/-- May an item stand at a place, behind those ahead of it? -/
def okAt (l : List It) (i : Nat) : Bool :=
  decide (-1 ≤ (l.getD i default).par) && decide ((l.getD i default).par < i) && nameS (l.getD i default).nm && decide (upTo l (l.getD i default).par i ((i : Int) - 1) = (l.getD i default).par)
def formB (l : List It) : Bool := (List.range l.length).all (okAt l)
theorem formB_no {l : List It} {i : Nat} (hi : i < l.length) (h : okAt l i = false) : formB l = false := by
  unfold formB
  rw [Bool.eq_false_iff]
  intro ha
  have := List.all_eq_true.1 ha i (List.mem_range.2 hi)
  rw [h] at this; cases this
theorem formB_yes {l : List It} (h : ∀ i, i < l.length → okAt l i = true) : formB l = true := by
  unfold formB
  exact List.all_eq_true.2 fun i hi => h i (List.mem_range.1 hi)
theorem formB_at {l : List It} (h : formB l = true) {i : Nat} (hi : i < l.length) : okAt l i = true := by
  unfold formB at h
  exact List.all_eq_true.1 h i (List.mem_range.2 hi)
theorem okAt_par {l : List It} {i : Nat} (h : okAt l i = true) : -1 ≤ (l.getD i default).par ∧ (l.getD i default).par < i := by
  unfold okAt at h
  simp only [Bool.and_eq_true, decide_eq_true_eq] at h
  exact ⟨h.1.1.1, h.1.1.2⟩
theorem formB_wl {l : List It} (h : formB l = true) : Wl l := fun j hj => okAt_par (formB_at h hj)
theorem formed_c (l : List It) (v1 v2 : Value) (W : World) (h : RT W v1 l) (hl : l.length ≤ 1000000000000) (hn : ∀ x ∈ l, x.nm.length ≤ 140737488355328) :
    Calls Tryz.prog 44 #[.agg #[v1, v2]] W fun e w' => e = .returned (errOf (if formB l = true then 0 else 4)) ∧ Below W.heap.size W w' := by
  obtain ⟨w0, hw0⟩ : ∃ w0, w0 = W.alloc (trObj v1 v2) := ⟨_, rfl⟩
  have b0 : Below W.heap.size W w0 := by rw [hw0]; exact (Below.refl _ _).alloc (Nat.le_refl _) _
  have CC : w0.heap[W.heap.size]? = some (trObj v1 v2) := by rw [hw0]; exact new_blk _
  have hr := h.below b0
  obtain ⟨p, c, rfl, hlc, hcm, hit⟩ := hr.out
  have HIT := Lib.hid hit
  have HC := Lib.hid CC
  have HW : Hid (w0 = W.alloc (trObj (.slice p l.length c) v2)) := Lib.hid hw0
  have B0 := Lib.hid b0
  have NO := Lib.hid (fun i hi h => formB_no (l := l) (i := i) hi h)
  have YES := Lib.hid (fun h => formB_yes (l := l) h)
  have HN : Hid (∀ i, i < l.length → (l.getD i default).nm.length ≤ 140737488355328) := Lib.hid (fun i hi => by rw [List.getD, List.getElem?_eq_getElem hi]; exact hn _ (List.getElem_mem hi))
  have hli : (l.length : Int) ≤ 1000000000000 := by omega
  have hT0 : W.heap.size < w0.heap.size := blk_lt CC
  have HBAD : Hid (formB l = false → errOf (if formB l = true then 0 else 4) = errN 4) := Lib.hid (fun h => by rw [h]; rfl)
  have HGOOD : Hid (formB l = true → errOf (if formB l = true then 0 else 4) = .nilIface) := Lib.hid (fun h => by rw [h]; rfl)
  generalize errOf (if formB l = true then 0 else 4) = R at *
  generalize formB l = FB at *
  clear h hw0 b0 CC hr hit hn
  go_enter Tryz.func44, Tryz.ntmps44
  have c0i := blk_cell (j := 0) (v := .slice p l.length c) HC.out rfl
  go_wp2_with fail
  rw [← HW.out]
  go_loopw [9] (fun iv wr => ∃ k : Nat, iv = .int .i64 k ∧ k ≤ l.length ∧ Hid (∀ j, j < k → okAt l j = true) ∧ Hid (Below w0.heap.size w0 wr)) (fun iv _ => l.length - (intOf iv).toNat)
  case atStart => exact ⟨0, by go_num, Nat.zero_le _, Lib.hid (fun j hj => absurd hj (Nat.not_lt_zero _)), Lib.hid (Below.refl _ _)⟩
  case round =>
    obtain ⟨k, rfl, hk, hpass, hbe⟩ := hrel
    have hki : (k : Int) ≤ 1000000000000 := by omega
    have BW := Lib.hid (B0.out.trans (hbe.out.mono B0.out.size))
    by_cases hlt : k < l.length
    · have hlt' : (k : Int) < (l.length : Int) := by omega
      have hk1 : k + 1 ≤ l.length := hlt
      obtain ⟨b, o, rfl, hb, hx⟩ := HIT.out (by omega)
      have hxk := (hx k hlt).below hb hbe.out
      obtain ⟨x0, x1, x2, x3, z, x4, hz⟩ := hxk
      obtain ⟨az, cz, rfl⟩ := RI_form hz
      have NOk := Lib.hid (fun h => NO.out k hlt h)
      have OKD : Hid (okAt l k = (decide (-1 ≤ (l.getD k default).par) && decide ((l.getD k default).par < k) && nameS (l.getD k default).nm && decide (upTo l (l.getD k default).par k ((k : Int) - 1) = (l.getD k default).par))) := Lib.hid rfl
      have NM := Lib.hid (fun w => named_any ⟨(l.getD k default).nm.toArray⟩ w (by rw [sz]; have := HN.out k hlt; omega))
      simp only at NM
      have HX : Hid (∀ i : Nat, i < k → ItAt w0 b (o + i * 5) (l.getD i default)) := Lib.hid (fun i hi => hx i (by omega))
      have lt0 : W.heap.size < wr.heap.size := Nat.lt_of_lt_of_le hT0 hbe.out.size
      have hbw : b < wr.heap.size := Nat.lt_of_lt_of_le hb hbe.out.size
      have NXT : Hid (okAt l k = true → ∀ j, j < k + 1 → okAt l j = true) := Lib.hid (fun h j hj => by
        rcases Nat.lt_or_ge j k with h' | h'
        · exact hpass.out j h'
        · obtain rfl : j = k := by omega
          exact h)
      generalize (l.getD k default).nm = nm at *
      generalize (l.getD k default).par = px at *
      generalize (l.getD k default).q = qx at *
      generalize (l.getD k default).p = pp at *
      generalize (l.getD k default).pr = prx at *
      have t0 : wr.cell? ⟨W.heap.size, 0, none⟩ = some (.slice (some ⟨b, o, none⟩) l.length c) := (hbe.out.cell (p := ⟨W.heap.size, 0, none⟩) hT0).trans c0i
      have BX := Lib.hid (fun (o : Obj) => BW.out.alloc BW.out.size o)
      clear hlt hx
      by_cases hp1 : px < -1
      · have HR : Hid (FB = false) := Lib.hid (NOk.out (by rw [OKD.out, decide_eq_false (show ¬ -1 ≤ px by omega)]; rfl))
        have q1 : decide (px < -1) = true := decide_eq_true hp1
        clear NOk OKD NXT
        go_wp2_with fail
        go_ret
        exact ⟨by rw [HBAD.out HR.out]; rfl, BX.out _⟩
      · have hp1' : -1 ≤ px := by omega
        have q1 : decide (px < -1) = false := decide_eq_false hp1
        by_cases hp2 : (k : Int) ≤ px
        · have HR : Hid (FB = false) := Lib.hid (NOk.out (by rw [OKD.out, decide_eq_false (show ¬ px < (k : Int) by omega)]; simp))
          have q2 : decide ((k : Int) ≤ px) = true := decide_eq_true hp2
          clear NOk OKD NXT
          go_wp2_with fail
          go_ret
          exact ⟨by rw [HBAD.out HR.out]; rfl, BX.out _⟩
        · have hp2' : px < (k : Int) := by omega
          have q2 : decide ((k : Int) ≤ px) = false := decide_eq_false hp2
          generalize hnm : nameS nm = nb at *
          clear hnm
          cases nb with
          | false =>
            have HR : Hid (FB = false) := Lib.hid (NOk.out (by rw [OKD.out]; simp))
            clear NOk OKD NXT
            go_wp2_with (go_at_call 73; refine (NM.out _).mono ?_; rintro e w2 ⟨rfl, hb2⟩)
            go_ret
            exact ⟨by rw [HBAD.out HR.out]; rfl, (BX.out _).trans (hb2.mono (BX.out _).size)⟩
          | true =>
            have OKD2 : Hid (okAt l k = decide (upTo l px k ((k : Int) - 1) = px)) := Lib.hid (by rw [OKD.out, decide_eq_true hp1', decide_eq_true hp2']; rfl)
            clear OKD
            rcases Nat.eq_zero_or_pos k with hk0 | hkp
            · have hpx : px = -1 := by omega
              have NX := Lib.hid (NXT.out (by rw [OKD2.out, hpx, hk0]; rfl))
              have g1 : ¬ 0 ≤ px := by omega
              have g2 : decide (0 ≤ px) = false := decide_eq_false g1
              have g3 : ¬ 0 ≤ (k : Int) - 1 := by omega
              have g4 : ¬ 1 ≤ (k : Int) := by omega
              have g5 : decide (0 ≤ (k : Int) - 1) = false := decide_eq_false g3
              clear NOk OKD2 NXT hk0 hpx
              go_wp2_with (go_at_call 73; refine (NM.out _).mono ?_; rintro e w2 ⟨rfl, hb2⟩; have XH := Lib.hid (blk_below (new_blk (w := wr) (.cells #[str nm, .int .i64 px, .int .i64 qx, .int .i64 pp, .slice az prx.length cz] 45)) hb2); have xx1 := blk_cell (j := 1) (v := .int .i64 px) XH.out rfl; have B02 := Lib.hid ((hbe.out.alloc hbe.out.size (.cells #[str nm, .int .i64 px, .int .i64 qx, .int .i64 pp, .slice az prx.length cz] 45)).trans (hb2.mono (hbe.out.alloc hbe.out.size (.cells #[str nm, .int .i64 px, .int .i64 qx, .int .i64 pp, .slice az prx.length cz] 45)).size)); have t02 : w2.cell? ⟨W.heap.size, 0, none⟩ = some (.slice (some ⟨b, o, none⟩) l.length c) := (B02.out.cell (p := ⟨W.heap.size, 0, none⟩) hT0).trans c0i; have BW2 := Lib.hid (B0.out.trans (B02.out.mono B0.out.size)))
              go_roundw
              case rel => exact ⟨k + 1, by go_num, hk1, NX, B02⟩
              case measure => show l.length - ((k : Int) + 1).toNat < l.length - ((k : Int)).toNat; omega
            · obtain ⟨T, hT⟩ : ∃ T, T = upTo l px k ((k : Int) - 1) := ⟨_, rfl⟩
              have HTT := Lib.hid hT
              rw [← hT] at OKD2
              have PAR := Lib.hid (fun (i : Nat) (hi : i < k) => okAt_par (hpass.out i hi))
              have STP : Hid (∀ (f : Nat) (i : Int), px < i → upTo l px (f + 1) i = upTo l px f (parOf l i)) := Lib.hid (fun f i h => if_pos h)
              have END : Hid (∀ (f : Nat) (i : Int), ¬ px < i → upTo l px f i = i) := Lib.hid (fun f i h => by cases f with | zero => rfl | succ f => exact if_neg h)
              have g3 : 0 ≤ (k : Int) - 1 := by omega
              have g4 : 1 ≤ (k : Int) := by omega
              have g5 : decide (0 ≤ (k : Int) - 1) = true := decide_eq_true g3
              clear hT
              rcases (by omega : 0 ≤ px ∨ ¬ 0 ≤ px) with hpx | hpx
              all_goals
                first
                  | (have g2 : decide (0 ≤ px) = true := decide_eq_true hpx)
                  | (have g2 : decide (0 ≤ px) = false := decide_eq_false hpx)
                go_wp2_with (go_at_call 73; refine (NM.out _).mono ?_; rintro e w2 ⟨rfl, hb2⟩; have XH := Lib.hid (blk_below (new_blk (w := wr) (.cells #[str nm, .int .i64 px, .int .i64 qx, .int .i64 pp, .slice az prx.length cz] 45)) hb2); have xx1 := blk_cell (j := 1) (v := .int .i64 px) XH.out rfl; have B02 := Lib.hid ((hbe.out.alloc hbe.out.size (.cells #[str nm, .int .i64 px, .int .i64 qx, .int .i64 pp, .slice az prx.length cz] 45)).trans (hb2.mono (hbe.out.alloc hbe.out.size (.cells #[str nm, .int .i64 px, .int .i64 qx, .int .i64 pp, .slice az prx.length cz] 45)).size)); have t02 : w2.cell? ⟨W.heap.size, 0, none⟩ = some (.slice (some ⟨b, o, none⟩) l.length c) := (B02.out.cell (p := ⟨W.heap.size, 0, none⟩) hT0).trans c0i; have BW2 := Lib.hid (B0.out.trans (B02.out.mono B0.out.size)))
                obtain ⟨wn, rfl⟩ : ∃ wn : World, wn = wr := ⟨_, rfl⟩
                go_loopw [5] (fun ov wv => ∃ (i : Int) (f : Nat), ov = .int .i64 i ∧ -1 ≤ i ∧ i < k ∧ w2 = wv ∧ (i + 1).toNat ≤ f ∧ Hid (upTo l px f i = T)) (fun ov _ => (intOf ov + 1).toNat)
                case atStart => exact ⟨(k : Int) - 1, k, rfl, by omega, by omega, rfl, by omega, Lib.hid HTT.out.symm⟩
                case round =>
                  obtain ⟨i, f, rfl, hi0, hi1, rfl, hf, hut⟩ := hrel
                  by_cases hgt : px < i
                  · have hi2 : 0 ≤ i := by omega
                    have g6 : decide (px < i) = true := decide_eq_true hgt
                    obtain ⟨f, rfl⟩ : ∃ m, f = m + 1 := ⟨f - 1, by omega⟩
                    have NX := Lib.hid ((STP.out f i hgt).symm.trans hut.out)
                    have pb : -1 ≤ parOf l i ∧ parOf l i < i := by have := PAR.out i.toNat (by omega); unfold parOf; omega
                    have xi : w2.cell? ⟨b, o + i.toNat * 5 + 1, none⟩ = some (.int .i64 (parOf l i)) := (B02.out.cell (p := ⟨b, o + i.toNat * 5 + 1, none⟩) hb).trans (HX.out i.toNat (by omega)).c1
                    generalize parOf l i = j at *
                    clear hgt hut
                    go_wp2_with fail
                    go_roundw
                    case rel => exact ⟨j, f, rfl, pb.1, by omega, trivial, by omega, NX⟩
                    case measure => show (j + 1).toNat < (i + 1).toNat; omega
                  · have g6 : decide (px < i) = false := decide_eq_false hgt
                    have HT2 := Lib.hid ((END.out f i (by omega)).symm.trans hut.out)
                    by_cases heq : i = px
                    · have NX := Lib.hid (NXT.out (by rw [OKD2.out, ← HT2.out, heq]; simp))
                      have g7 : (i != px) = false := by simp [heq]
                      clear hgt hut heq NXT NOk
                      go_wp2_with fail
                      go_roundw
                      case rel => exact ⟨k + 1, by go_num, hk1, NX, B02⟩
                      case measure => show l.length - ((k : Int) + 1).toNat < l.length - ((k : Int)).toNat; omega
                    · have HR : Hid (FB = false) := Lib.hid (NOk.out (by rw [OKD2.out, ← HT2.out]; exact decide_eq_false heq))
                      have g7 : (i != px) = true := by rw [bne_iff_ne]; exact heq
                      clear hgt hut heq NXT NOk
                      go_wp2_with fail
                      go_ret
                      exact ⟨by rw [HBAD.out HR.out]; rfl, BW2.out⟩
    · obtain rfl : k = l.length := by omega
      have hlt' : ¬ (l.length : Int) < (l.length : Int) := by omega
      have HR := Lib.hid (YES.out hpass.out)
      clear hlt
      go_wp2_with fail
      go_ret
      exact ⟨by rw [HGOOD.out HR.out]; rfl, BW.out⟩
end Go.Proofs.YtophilmjfdhhaaaGreatDoor
