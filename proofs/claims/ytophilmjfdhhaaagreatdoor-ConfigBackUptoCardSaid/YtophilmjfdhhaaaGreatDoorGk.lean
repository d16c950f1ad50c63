/- config.Valid at every tree: the walk. -/
import Derived.Test.YtophilmjfdhhaaaGreatDoorGj
namespace Go.Proofs.YtophilmjfdhhaaaGreatDoor
open Go Go.RowKit Go.Shelf Go.Sort
set_option linter.unusedVariables false
set_option linter.unusedSimpArgs false
set_option maxRecDepth 100000
set_option maxHeartbeats 8000000

theorem valid25_c (t : Tr) (v1 v2 : Value) (W : World) (h1 : RT W v1 t.items) (h2 : RI W v2 t.slack) (hl : t.items.length ≤ 1000000000) (hs : t.slack.length ≤ 140737488355328) (hn : ∀ x ∈ t.items, x.nm.length ≤ 140737488355328) (hp : ∀ x ∈ t.items, x.pr.length ≤ 140737488355328) :
    Calls Tryz.prog 21 #[.agg #[v1, v2]] W fun e w' => e = .returned (errOf (validS t)) ∧ Below W.heap.size W w' := by
  have hmf : ∀ (fn : Fn) (first cap : Array Value) (w : World), (Instr.makeFunc fn first cap).run Tryz.prog w = .ok (.func fn first cap) w := fun _ _ _ _ => rfl
  obtain ⟨p1, c1, rfl, _⟩ := h1.out
  obtain ⟨p2, c2, rfl⟩ := RI_form h2
  obtain ⟨w0, hw0⟩ : ∃ w0, w0 = W.alloc (trObj (.slice p1 t.items.length c1) (.slice p2 t.slack.length c2)) := ⟨_, rfl⟩
  have b0 : Below W.heap.size W w0 := by rw [hw0]; exact (Below.refl _ _).alloc (Nat.le_refl _) _
  have CC : w0.heap[W.heap.size]? = some (trObj (.slice p1 t.items.length c1) (.slice p2 t.slack.length c2)) := by rw [hw0]; exact new_blk _
  have FC := Lib.hid (formed_c t.items _ (.slice p2 t.slack.length c2) w0 (h1.below b0) (by omega) hn)
  have HW := Lib.hid hw0
  have B0 := Lib.hid b0
  have HC := Lib.hid CC
  have CK := Lib.hid (fun w (hb : Below W.heap.size W w) (hf : formB t.items = true) i (hi : i < t.items.length) => chk_c t.items _ (.slice p2 t.slack.length c2) i w (h1.below hb) (formB_wl hf) hi hl hp)
  have SL := Lib.hid (fun k hk w (hb : Below W.heap.size W w) => checkSlack_c t (.slice p1 t.items.length c1) _ k hk w (h2.below hb) hs ⟨_, _, _, rfl⟩)
  have hli : (t.items.length : Int) ≤ 1000000000 := by omega
  have VN : Hid (formB t.items = false → errOf (validS t) = errN 4) := Lib.hid (fun h => by unfold validS; rw [if_neg (by rw [h]; decide)]; rfl)
  have VC := Lib.hid (fun (hf : formB t.items = true) k hk hp x hx hn => validS_col (t := t) hf (k := k) hk hp (x := x) hx hn)
  have VS := Lib.hid (fun (hf : formB t.items = true) k hk hp hc x hx hn => validS_sl (t := t) hf (k := k) hk hp hc (x := x) hx hn)
  have VO := Lib.hid (fun (hf : formB t.items = true) hp => validS_ok (t := t) hf hp)
  have PS := Lib.hid (fun k h hc hs => passK_snoc (t := t) (k := k) h hc hs)
  have PI := Lib.hid (fun h => pass_itR (t := t) h)
  have c0 := blk_cell (j := 0) (v := .slice p1 t.items.length c1) HC.out rfl
  have c1' := blk_cell (j := 1) (v := .slice p2 t.slack.length c2) HC.out rfl
  have hT0 : W.heap.size < w0.heap.size := blk_lt CC
  generalize validS t = R at *
  clear h1 h2 hw0 b0 CC hs hn hp hl
  go_enter Tryz.func21, Tryz.ntmps21
  go_wp2_with fail
  rw [← HW.out]
  refine FC.out.mono ?_
  rintro e w1 ⟨rfl, hb1⟩
  have B1 := Lib.hid (B0.out.trans (hb1.mono B0.out.size))
  have CB1 := Lib.hid (blk_below HC.out hb1)
  clear hb1 FC
  generalize hfb : formB t.items = fb at *
  cases fb with
  | false =>
    have HR := Lib.hid (VN.out rfl)
    clear hfb
    rw [show errOf (if false = true then 0 else 4) = errN 4 from rfl]
    go_wp2_with fail
    go_ret
    exact ⟨by rw [HR.out]; rfl, B1.out⟩
  | true =>
    rw [show errOf (if true = true then 0 else 4) = .nilIface from rfl]
    have CK2 := Lib.hid (fun w hb i hi => CK.out w hb rfl i hi)
    have VC2 := Lib.hid (VC.out rfl)
    have VS2 := Lib.hid (VS.out rfl)
    have VO2 := Lib.hid (VO.out rfl)
    clear CK VC VS VO VN
    have d0 := blk_cell (j := 0) (v := .slice p1 t.items.length c1) CB1.out rfl
    have d1 := blk_cell (j := 1) (v := .slice p2 t.slack.length c2) CB1.out rfl
    have hF0 : Hid ((w1.alloc (.cells (mCells (.slice p1 t.items.length c1) (.slice p2 t.slack.length c2)) 93)).heap[w1.heap.size]? = some (.cells (mCells (.slice p1 t.items.length c1) (.slice p2 t.slack.length c2)) 93)) := Lib.hid (new_blk _)
    have CBF : Hid ((w1.alloc (.cells (mCells (.slice p1 t.items.length c1) (.slice p2 t.slack.length c2)) 93)).heap[W.heap.size]? = some (trObj (.slice p1 t.items.length c1) (.slice p2 t.slack.length c2))) := Lib.hid (blk_alloc CB1.out _)
    have BF : Hid (Below W.heap.size W (w1.alloc (.cells (mCells (.slice p1 t.items.length c1) (.slice p2 t.slack.length c2)) 93))) := Lib.hid (B1.out.alloc B1.out.size _)
    obtain ⟨F, hF⟩ : ∃ F, F = w1.heap.size := ⟨_, rfl⟩
    have HF := Lib.hid hF
    rw [← hF] at hF0
    clear hF hfb
    go_wp2_with fail
    simp only [← HF.out]
    go_loopw [26] (fun kv wr => ∃ k : Nat, kv = .int .i64 k ∧ k ≤ 5 ∧ Hid (Below W.heap.size W wr) ∧ Hid (wr.heap[W.heap.size]? = some (trObj (.slice p1 t.items.length c1) (.slice p2 t.slack.length c2))) ∧ Hid (wr.heap[F]? = some (.cells (mCells (.slice p1 t.items.length c1) (.slice p2 t.slack.length c2)) 93)) ∧ Hid (passK t k)) (fun kv _ => 5 - (intOf kv).toNat)
    case atStart => exact ⟨0, by go_num, by decide, BF, CBF, hF0, Lib.hid (fun j hj => absurd hj (Nat.not_lt_zero _))⟩
    case round =>
      obtain ⟨k, rfl, hk, hbe, hcb, hcf, hpass⟩ := hrel
      have g0 := blk_cell (j := 0) (v := .slice p1 t.items.length c1) hcb.out rfl
      have g1 := blk_cell (j := 1) (v := .slice p2 t.slack.length c2) hcb.out rfl
      clear c0 c1' d0 d1
      obtain ⟨wo, rfl⟩ : ∃ wo : World, wo = wr := ⟨_, rfl⟩
      rcases (by omega : k = 0 ∨ k = 1 ∨ k = 2 ∨ k = 3 ∨ k = 4 ∨ k = 5) with rfl | rfl | rfl | rfl | rfl | rfl
      · have cK : wo.cell? ⟨F, 0, none⟩ = some (mV 45 (.slice p1 t.items.length c1) (.slice p2 t.slack.length c2)) := blk_cell hcf.out rfl
        simp only [show ((0 : Nat) : Int) = (0 : Int) from rfl]
        go_wp2_with fail
        go_loopw [34] (fun iv wi => ∃ i : Nat, iv = .int .i64 i ∧ i ≤ t.items.length ∧ Hid (Below wo.heap.size wo wi) ∧ Hid (∀ j, j < i → chkK t.items j 0 = 0)) (fun iv _ => t.items.length - (intOf iv).toNat)
        case atStart => exact ⟨0, by go_num, Nat.zero_le _, Lib.hid (Below.refl _ _), Lib.hid (fun j hj => absurd hj (Nat.not_lt_zero _))⟩
        case round =>
          obtain ⟨i, rfl, hi, hbi, hcol⟩ := hrel
          have hib : (i : Int) ≤ 1000000000 := by omega
          have BI := Lib.hid (hbe.out.trans (hbi.out.mono hbe.out.size))
          have CBI := Lib.hid (blk_below hcb.out hbi.out)
          have CFI := Lib.hid (blk_below hcf.out hbi.out)
          have LTI : W.heap.size < wr.heap.size := blk_lt CBI.out
          have i0 := blk_cell (j := 0) (v := .slice p1 t.items.length c1) CBI.out rfl
          have i1 := blk_cell (j := 1) (v := .slice p2 t.slack.length c2) CBI.out rfl
          by_cases hlt : i < t.items.length
          · have hlt' : (i : Int) < (t.items.length : Int) := by omega
            have hi1 : i + 1 ≤ t.items.length := hlt
            have K := (CK2.out wr BI.out i hlt).k0
            have EC := Lib.hid (fun hn => VC2.out 0 (by decide) hpass.out _ (colK_hit hlt hcol.out hn) hn)
            have N1 : Hid (chkK t.items i 0 = 0 → ∀ j, j < i + 1 → chkK t.items j 0 = 0) := Lib.hid (fun h j hj => by
              rcases Nat.lt_or_ge j i with h' | h'
              · exact hcol.out j h'
              · obtain rfl : j = i := by omega
                exact h)
            generalize chkK t.items i 0 = x at *
            clear hlt
            by_cases hx : x = 0
            · rw [hx, errOf_zero] at K
              have NX := Lib.hid (N1.out hx)
              have KH := Lib.hid K
              clear hx K EC N1
              go_wp2_with (go_at_call 45; refine KH.out.mono ?_; rintro e w2 ⟨rfl, hb2⟩)
              go_roundw
              case rel => exact ⟨i + 1, by go_num, hi1, Lib.hid (hbi.out.trans (hb2.mono hbi.out.size)), NX⟩
              case measure => show t.items.length - ((i : Int) + 1).toNat < t.items.length - ((i : Int)).toNat; omega
            · rw [errOf_ne hx] at K
              have HR := Lib.hid (EC.out hx)
              have HX := Lib.hid (errOf_ne hx)
              have KH := Lib.hid K
              clear hx K EC N1
              go_wp2_with (go_at_call 45; refine KH.out.mono ?_; rintro e w2 ⟨rfl, hb2⟩)
              go_ret
              exact ⟨by rw [HR.out, HX.out]; rfl, BI.out.trans (hb2.mono BI.out.size)⟩
          · obtain rfl : i = t.items.length := by omega
            have hlt' : ¬ (t.items.length : Int) < (t.items.length : Int) := by omega
            have S := SL.out 0 (by decide) wr BI.out
            have ES := Lib.hid (fun hn => VS2.out 0 (by decide) hpass.out hcol.out _ rfl hn)
            have NP := Lib.hid (fun hz => PS.out 0 hpass.out hcol.out hz)
            generalize slK t 0 = x at *
            clear hlt
            by_cases hx : x = 0
            · rw [hx, errOf_zero] at S
              have NX := Lib.hid (NP.out hx)
              have SH := Lib.hid S
              clear hx S ES NP
              go_wp2_with (go_at_call 50; refine SH.out.mono ?_; rintro e w2 ⟨rfl, hb2⟩)
              go_roundw
              case rel => exact ⟨1, by go_num, by decide, Lib.hid (BI.out.trans (hb2.mono BI.out.size)), Lib.hid (blk_below CBI.out hb2), Lib.hid (blk_below CFI.out hb2), NX⟩
              case measure => show 5 - _ < 5 - _; decide
            · rw [errOf_ne hx] at S
              have HR := Lib.hid (ES.out hx)
              have HX := Lib.hid (errOf_ne hx)
              have SH := Lib.hid S
              clear hx S ES NP
              go_wp2_with (go_at_call 50; refine SH.out.mono ?_; rintro e w2 ⟨rfl, hb2⟩)
              go_ret
              exact ⟨by rw [HR.out, HX.out]; rfl, BI.out.trans (hb2.mono BI.out.size)⟩
      · have cK : wo.cell? ⟨F, 1, none⟩ = some (mV 46 (.slice p1 t.items.length c1) (.slice p2 t.slack.length c2)) := blk_cell hcf.out rfl
        simp only [show ((1 : Nat) : Int) = (1 : Int) from rfl]
        go_wp2_with fail
        go_loopw [34] (fun iv wi => ∃ i : Nat, iv = .int .i64 i ∧ i ≤ t.items.length ∧ Hid (Below wo.heap.size wo wi) ∧ Hid (∀ j, j < i → chkK t.items j 1 = 0)) (fun iv _ => t.items.length - (intOf iv).toNat)
        case atStart => exact ⟨0, by go_num, Nat.zero_le _, Lib.hid (Below.refl _ _), Lib.hid (fun j hj => absurd hj (Nat.not_lt_zero _))⟩
        case round =>
          obtain ⟨i, rfl, hi, hbi, hcol⟩ := hrel
          have hib : (i : Int) ≤ 1000000000 := by omega
          have BI := Lib.hid (hbe.out.trans (hbi.out.mono hbe.out.size))
          have CBI := Lib.hid (blk_below hcb.out hbi.out)
          have CFI := Lib.hid (blk_below hcf.out hbi.out)
          have LTI : W.heap.size < wr.heap.size := blk_lt CBI.out
          have i0 := blk_cell (j := 0) (v := .slice p1 t.items.length c1) CBI.out rfl
          have i1 := blk_cell (j := 1) (v := .slice p2 t.slack.length c2) CBI.out rfl
          by_cases hlt : i < t.items.length
          · have hlt' : (i : Int) < (t.items.length : Int) := by omega
            have hi1 : i + 1 ≤ t.items.length := hlt
            have K := (CK2.out wr BI.out i hlt).k1
            have EC := Lib.hid (fun hn => VC2.out 1 (by decide) hpass.out _ (colK_hit hlt hcol.out hn) hn)
            have N1 : Hid (chkK t.items i 1 = 0 → ∀ j, j < i + 1 → chkK t.items j 1 = 0) := Lib.hid (fun h j hj => by
              rcases Nat.lt_or_ge j i with h' | h'
              · exact hcol.out j h'
              · obtain rfl : j = i := by omega
                exact h)
            generalize chkK t.items i 1 = x at *
            clear hlt
            by_cases hx : x = 0
            · rw [hx, errOf_zero] at K
              have NX := Lib.hid (N1.out hx)
              have KH := Lib.hid K
              clear hx K EC N1
              go_wp2_with (go_at_call 46; refine KH.out.mono ?_; rintro e w2 ⟨rfl, hb2⟩)
              go_roundw
              case rel => exact ⟨i + 1, by go_num, hi1, Lib.hid (hbi.out.trans (hb2.mono hbi.out.size)), NX⟩
              case measure => show t.items.length - ((i : Int) + 1).toNat < t.items.length - ((i : Int)).toNat; omega
            · rw [errOf_ne hx] at K
              have HR := Lib.hid (EC.out hx)
              have HX := Lib.hid (errOf_ne hx)
              have KH := Lib.hid K
              clear hx K EC N1
              go_wp2_with (go_at_call 46; refine KH.out.mono ?_; rintro e w2 ⟨rfl, hb2⟩)
              go_ret
              exact ⟨by rw [HR.out, HX.out]; rfl, BI.out.trans (hb2.mono BI.out.size)⟩
          · obtain rfl : i = t.items.length := by omega
            have hlt' : ¬ (t.items.length : Int) < (t.items.length : Int) := by omega
            have S := SL.out 1 (by decide) wr BI.out
            have ES := Lib.hid (fun hn => VS2.out 1 (by decide) hpass.out hcol.out _ rfl hn)
            have NP := Lib.hid (fun hz => PS.out 1 hpass.out hcol.out hz)
            generalize slK t 1 = x at *
            clear hlt
            by_cases hx : x = 0
            · rw [hx, errOf_zero] at S
              have NX := Lib.hid (NP.out hx)
              have SH := Lib.hid S
              clear hx S ES NP
              go_wp2_with (go_at_call 50; refine SH.out.mono ?_; rintro e w2 ⟨rfl, hb2⟩)
              go_roundw
              case rel => exact ⟨2, by go_num, by decide, Lib.hid (BI.out.trans (hb2.mono BI.out.size)), Lib.hid (blk_below CBI.out hb2), Lib.hid (blk_below CFI.out hb2), NX⟩
              case measure => show 5 - _ < 5 - _; decide
            · rw [errOf_ne hx] at S
              have HR := Lib.hid (ES.out hx)
              have HX := Lib.hid (errOf_ne hx)
              have SH := Lib.hid S
              clear hx S ES NP
              go_wp2_with (go_at_call 50; refine SH.out.mono ?_; rintro e w2 ⟨rfl, hb2⟩)
              go_ret
              exact ⟨by rw [HR.out, HX.out]; rfl, BI.out.trans (hb2.mono BI.out.size)⟩
      · have cK : wo.cell? ⟨F, 2, none⟩ = some (mV 47 (.slice p1 t.items.length c1) (.slice p2 t.slack.length c2)) := blk_cell hcf.out rfl
        simp only [show ((2 : Nat) : Int) = (2 : Int) from rfl]
        go_wp2_with fail
        go_loopw [34] (fun iv wi => ∃ i : Nat, iv = .int .i64 i ∧ i ≤ t.items.length ∧ Hid (Below wo.heap.size wo wi) ∧ Hid (∀ j, j < i → chkK t.items j 2 = 0)) (fun iv _ => t.items.length - (intOf iv).toNat)
        case atStart => exact ⟨0, by go_num, Nat.zero_le _, Lib.hid (Below.refl _ _), Lib.hid (fun j hj => absurd hj (Nat.not_lt_zero _))⟩
        case round =>
          obtain ⟨i, rfl, hi, hbi, hcol⟩ := hrel
          have hib : (i : Int) ≤ 1000000000 := by omega
          have BI := Lib.hid (hbe.out.trans (hbi.out.mono hbe.out.size))
          have CBI := Lib.hid (blk_below hcb.out hbi.out)
          have CFI := Lib.hid (blk_below hcf.out hbi.out)
          have LTI : W.heap.size < wr.heap.size := blk_lt CBI.out
          have i0 := blk_cell (j := 0) (v := .slice p1 t.items.length c1) CBI.out rfl
          have i1 := blk_cell (j := 1) (v := .slice p2 t.slack.length c2) CBI.out rfl
          by_cases hlt : i < t.items.length
          · have hlt' : (i : Int) < (t.items.length : Int) := by omega
            have hi1 : i + 1 ≤ t.items.length := hlt
            have K := (CK2.out wr BI.out i hlt).k2
            have EC := Lib.hid (fun hn => VC2.out 2 (by decide) hpass.out _ (colK_hit hlt hcol.out hn) hn)
            have N1 : Hid (chkK t.items i 2 = 0 → ∀ j, j < i + 1 → chkK t.items j 2 = 0) := Lib.hid (fun h j hj => by
              rcases Nat.lt_or_ge j i with h' | h'
              · exact hcol.out j h'
              · obtain rfl : j = i := by omega
                exact h)
            generalize chkK t.items i 2 = x at *
            clear hlt
            by_cases hx : x = 0
            · rw [hx, errOf_zero] at K
              have NX := Lib.hid (N1.out hx)
              have KH := Lib.hid K
              clear hx K EC N1
              go_wp2_with (go_at_call 47; refine KH.out.mono ?_; rintro e w2 ⟨rfl, hb2⟩)
              go_roundw
              case rel => exact ⟨i + 1, by go_num, hi1, Lib.hid (hbi.out.trans (hb2.mono hbi.out.size)), NX⟩
              case measure => show t.items.length - ((i : Int) + 1).toNat < t.items.length - ((i : Int)).toNat; omega
            · rw [errOf_ne hx] at K
              have HR := Lib.hid (EC.out hx)
              have HX := Lib.hid (errOf_ne hx)
              have KH := Lib.hid K
              clear hx K EC N1
              go_wp2_with (go_at_call 47; refine KH.out.mono ?_; rintro e w2 ⟨rfl, hb2⟩)
              go_ret
              exact ⟨by rw [HR.out, HX.out]; rfl, BI.out.trans (hb2.mono BI.out.size)⟩
          · obtain rfl : i = t.items.length := by omega
            have hlt' : ¬ (t.items.length : Int) < (t.items.length : Int) := by omega
            have S := SL.out 2 (by decide) wr BI.out
            have ES := Lib.hid (fun hn => VS2.out 2 (by decide) hpass.out hcol.out _ rfl hn)
            have NP := Lib.hid (fun hz => PS.out 2 hpass.out hcol.out hz)
            generalize slK t 2 = x at *
            clear hlt
            by_cases hx : x = 0
            · rw [hx, errOf_zero] at S
              have NX := Lib.hid (NP.out hx)
              have SH := Lib.hid S
              clear hx S ES NP
              go_wp2_with (go_at_call 50; refine SH.out.mono ?_; rintro e w2 ⟨rfl, hb2⟩)
              go_roundw
              case rel => exact ⟨3, by go_num, by decide, Lib.hid (BI.out.trans (hb2.mono BI.out.size)), Lib.hid (blk_below CBI.out hb2), Lib.hid (blk_below CFI.out hb2), NX⟩
              case measure => show 5 - _ < 5 - _; decide
            · rw [errOf_ne hx] at S
              have HR := Lib.hid (ES.out hx)
              have HX := Lib.hid (errOf_ne hx)
              have SH := Lib.hid S
              clear hx S ES NP
              go_wp2_with (go_at_call 50; refine SH.out.mono ?_; rintro e w2 ⟨rfl, hb2⟩)
              go_ret
              exact ⟨by rw [HR.out, HX.out]; rfl, BI.out.trans (hb2.mono BI.out.size)⟩
      · have cK : wo.cell? ⟨F, 3, none⟩ = some (mV 48 (.slice p1 t.items.length c1) (.slice p2 t.slack.length c2)) := blk_cell hcf.out rfl
        simp only [show ((3 : Nat) : Int) = (3 : Int) from rfl]
        go_wp2_with fail
        go_loopw [34] (fun iv wi => ∃ i : Nat, iv = .int .i64 i ∧ i ≤ t.items.length ∧ Hid (Below wo.heap.size wo wi) ∧ Hid (∀ j, j < i → chkK t.items j 3 = 0)) (fun iv _ => t.items.length - (intOf iv).toNat)
        case atStart => exact ⟨0, by go_num, Nat.zero_le _, Lib.hid (Below.refl _ _), Lib.hid (fun j hj => absurd hj (Nat.not_lt_zero _))⟩
        case round =>
          obtain ⟨i, rfl, hi, hbi, hcol⟩ := hrel
          have hib : (i : Int) ≤ 1000000000 := by omega
          have BI := Lib.hid (hbe.out.trans (hbi.out.mono hbe.out.size))
          have CBI := Lib.hid (blk_below hcb.out hbi.out)
          have CFI := Lib.hid (blk_below hcf.out hbi.out)
          have LTI : W.heap.size < wr.heap.size := blk_lt CBI.out
          have i0 := blk_cell (j := 0) (v := .slice p1 t.items.length c1) CBI.out rfl
          have i1 := blk_cell (j := 1) (v := .slice p2 t.slack.length c2) CBI.out rfl
          by_cases hlt : i < t.items.length
          · have hlt' : (i : Int) < (t.items.length : Int) := by omega
            have hi1 : i + 1 ≤ t.items.length := hlt
            have K := (CK2.out wr BI.out i hlt).k3
            have EC := Lib.hid (fun hn => VC2.out 3 (by decide) hpass.out _ (colK_hit hlt hcol.out hn) hn)
            have N1 : Hid (chkK t.items i 3 = 0 → ∀ j, j < i + 1 → chkK t.items j 3 = 0) := Lib.hid (fun h j hj => by
              rcases Nat.lt_or_ge j i with h' | h'
              · exact hcol.out j h'
              · obtain rfl : j = i := by omega
                exact h)
            generalize chkK t.items i 3 = x at *
            clear hlt
            by_cases hx : x = 0
            · rw [hx, errOf_zero] at K
              have NX := Lib.hid (N1.out hx)
              have KH := Lib.hid K
              clear hx K EC N1
              go_wp2_with (go_at_call 48; refine KH.out.mono ?_; rintro e w2 ⟨rfl, hb2⟩)
              go_roundw
              case rel => exact ⟨i + 1, by go_num, hi1, Lib.hid (hbi.out.trans (hb2.mono hbi.out.size)), NX⟩
              case measure => show t.items.length - ((i : Int) + 1).toNat < t.items.length - ((i : Int)).toNat; omega
            · rw [errOf_ne hx] at K
              have HR := Lib.hid (EC.out hx)
              have HX := Lib.hid (errOf_ne hx)
              have KH := Lib.hid K
              clear hx K EC N1
              go_wp2_with (go_at_call 48; refine KH.out.mono ?_; rintro e w2 ⟨rfl, hb2⟩)
              go_ret
              exact ⟨by rw [HR.out, HX.out]; rfl, BI.out.trans (hb2.mono BI.out.size)⟩
          · obtain rfl : i = t.items.length := by omega
            have hlt' : ¬ (t.items.length : Int) < (t.items.length : Int) := by omega
            have S := SL.out 3 (by decide) wr BI.out
            have ES := Lib.hid (fun hn => VS2.out 3 (by decide) hpass.out hcol.out _ rfl hn)
            have NP := Lib.hid (fun hz => PS.out 3 hpass.out hcol.out hz)
            generalize slK t 3 = x at *
            clear hlt
            by_cases hx : x = 0
            · rw [hx, errOf_zero] at S
              have NX := Lib.hid (NP.out hx)
              have SH := Lib.hid S
              clear hx S ES NP
              go_wp2_with (go_at_call 50; refine SH.out.mono ?_; rintro e w2 ⟨rfl, hb2⟩)
              go_roundw
              case rel => exact ⟨4, by go_num, by decide, Lib.hid (BI.out.trans (hb2.mono BI.out.size)), Lib.hid (blk_below CBI.out hb2), Lib.hid (blk_below CFI.out hb2), NX⟩
              case measure => show 5 - _ < 5 - _; decide
            · rw [errOf_ne hx] at S
              have HR := Lib.hid (ES.out hx)
              have HX := Lib.hid (errOf_ne hx)
              have SH := Lib.hid S
              clear hx S ES NP
              go_wp2_with (go_at_call 50; refine SH.out.mono ?_; rintro e w2 ⟨rfl, hb2⟩)
              go_ret
              exact ⟨by rw [HR.out, HX.out]; rfl, BI.out.trans (hb2.mono BI.out.size)⟩
      · have cK : wo.cell? ⟨F, 4, none⟩ = some (mV 49 (.slice p1 t.items.length c1) (.slice p2 t.slack.length c2)) := blk_cell hcf.out rfl
        simp only [show ((4 : Nat) : Int) = (4 : Int) from rfl]
        go_wp2_with fail
        go_loopw [34] (fun iv wi => ∃ i : Nat, iv = .int .i64 i ∧ i ≤ t.items.length ∧ Hid (Below wo.heap.size wo wi) ∧ Hid (∀ j, j < i → chkK t.items j 4 = 0)) (fun iv _ => t.items.length - (intOf iv).toNat)
        case atStart => exact ⟨0, by go_num, Nat.zero_le _, Lib.hid (Below.refl _ _), Lib.hid (fun j hj => absurd hj (Nat.not_lt_zero _))⟩
        case round =>
          obtain ⟨i, rfl, hi, hbi, hcol⟩ := hrel
          have hib : (i : Int) ≤ 1000000000 := by omega
          have BI := Lib.hid (hbe.out.trans (hbi.out.mono hbe.out.size))
          have CBI := Lib.hid (blk_below hcb.out hbi.out)
          have CFI := Lib.hid (blk_below hcf.out hbi.out)
          have LTI : W.heap.size < wr.heap.size := blk_lt CBI.out
          have i0 := blk_cell (j := 0) (v := .slice p1 t.items.length c1) CBI.out rfl
          have i1 := blk_cell (j := 1) (v := .slice p2 t.slack.length c2) CBI.out rfl
          by_cases hlt : i < t.items.length
          · have hlt' : (i : Int) < (t.items.length : Int) := by omega
            have hi1 : i + 1 ≤ t.items.length := hlt
            have K := ((CK2.out wr BI.out i hlt).k4 (fun x hx => PI.out hpass.out x (List.mem_of_mem_take hx)))
            have EC := Lib.hid (fun hn => VC2.out 4 (by decide) hpass.out _ (colK_hit hlt hcol.out hn) hn)
            have N1 : Hid (chkK t.items i 4 = 0 → ∀ j, j < i + 1 → chkK t.items j 4 = 0) := Lib.hid (fun h j hj => by
              rcases Nat.lt_or_ge j i with h' | h'
              · exact hcol.out j h'
              · obtain rfl : j = i := by omega
                exact h)
            generalize chkK t.items i 4 = x at *
            clear hlt
            by_cases hx : x = 0
            · rw [hx, errOf_zero] at K
              have NX := Lib.hid (N1.out hx)
              have KH := Lib.hid K
              clear hx K EC N1
              go_wp2_with (go_at_call 49; refine KH.out.mono ?_; rintro e w2 ⟨rfl, hb2⟩)
              go_roundw
              case rel => exact ⟨i + 1, by go_num, hi1, Lib.hid (hbi.out.trans (hb2.mono hbi.out.size)), NX⟩
              case measure => show t.items.length - ((i : Int) + 1).toNat < t.items.length - ((i : Int)).toNat; omega
            · rw [errOf_ne hx] at K
              have HR := Lib.hid (EC.out hx)
              have HX := Lib.hid (errOf_ne hx)
              have KH := Lib.hid K
              clear hx K EC N1
              go_wp2_with (go_at_call 49; refine KH.out.mono ?_; rintro e w2 ⟨rfl, hb2⟩)
              go_ret
              exact ⟨by rw [HR.out, HX.out]; rfl, BI.out.trans (hb2.mono BI.out.size)⟩
          · obtain rfl : i = t.items.length := by omega
            have hlt' : ¬ (t.items.length : Int) < (t.items.length : Int) := by omega
            have S := SL.out 4 (by decide) wr BI.out
            have ES := Lib.hid (fun hn => VS2.out 4 (by decide) hpass.out hcol.out _ rfl hn)
            have NP := Lib.hid (fun hz => PS.out 4 hpass.out hcol.out hz)
            generalize slK t 4 = x at *
            clear hlt
            by_cases hx : x = 0
            · rw [hx, errOf_zero] at S
              have NX := Lib.hid (NP.out hx)
              have SH := Lib.hid S
              clear hx S ES NP
              go_wp2_with (go_at_call 50; refine SH.out.mono ?_; rintro e w2 ⟨rfl, hb2⟩)
              go_roundw
              case rel => exact ⟨5, by go_num, by decide, Lib.hid (BI.out.trans (hb2.mono BI.out.size)), Lib.hid (blk_below CBI.out hb2), Lib.hid (blk_below CFI.out hb2), NX⟩
              case measure => show 5 - _ < 5 - _; decide
            · rw [errOf_ne hx] at S
              have HR := Lib.hid (ES.out hx)
              have HX := Lib.hid (errOf_ne hx)
              have SH := Lib.hid S
              clear hx S ES NP
              go_wp2_with (go_at_call 50; refine SH.out.mono ?_; rintro e w2 ⟨rfl, hb2⟩)
              go_ret
              exact ⟨by rw [HR.out, HX.out]; rfl, BI.out.trans (hb2.mono BI.out.size)⟩
      · have HR := Lib.hid (VO2.out hpass.out)
        go_wp2_with fail
        go_ret
        exact ⟨by rw [HR.out]; rfl, hbe.out⟩
end Go.Proofs.YtophilmjfdhhaaaGreatDoor
