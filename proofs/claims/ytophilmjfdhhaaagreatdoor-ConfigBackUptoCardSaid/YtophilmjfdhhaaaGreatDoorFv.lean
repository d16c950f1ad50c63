/- config.parser.line. -/
import Derived.Test.YtophilmjfdhhaaaGreatDoorFu
namespace Go.Proofs.YtophilmjfdhhaaaGreatDoor
open Go Go.RowKit Go.Shelf Go.Sort
set_option linter.unusedVariables false
set_option linter.unusedSimpArgs false
set_option maxRecDepth 100000
set_option maxHeartbeats 4000000

theorem LineP.bad {t : Tr} {s : List UInt8} {B P : Nat} {f : Bool} {W w' : World} {n : Int} (h : lineS t f s = (t, n)) (hn : n ≠ 0) (hb : Below B W w') : LineP t s B P f W (.returned (errN n)) w' := by
  refine ⟨by rw [h]; show _ = Ending.returned (errOf n); rw [errOf_ne hn], hb, fun h0 => ?_⟩
  rw [h] at h0
  exact absurd h0 hn
theorem line_c (t : Tr) (s : List UInt8) (B P : Nat) (f : Bool) (W : World) (EB : ∀ w, Below B W w → Env w) (hp : PS W B P t f) (hw : Wl t.items) (hs : s.length ≤ 1048576) (hl : t.items.length ≤ 1000000) (hit5 : ∀ x ∈ t.items, itR x = true) (hpr : ∀ x ∈ t.items, x.pr.length ≤ 16777216) :
    Calls Tryz.prog 25 #[.pointer (some ⟨P, 0, none⟩), str s] W (LineP t s B P f W) := by
  have HP := Lib.hid hp
  have HBW : Hid (B ≤ W.heap.size) := Lib.hid (by have := hp.base; have := hp.lt; omega)
  have HPW : Hid (P < W.heap.size) := Lib.hid hp.lt
  have EE := Lib.hid EB
  have TL := Lib.hid (fun w => trimL_c ⟨s.toArray⟩ w)
  have hll := lead_len s
  have SP := Lib.hid (fun w (h : Below W.heap.size W w) => ssplit_at (lead s) 32 w (EE.out w (h.mono HBW.out)) (by omega))
  have hwb0 := splitC_mem 32 (lead s) []
  have hwp := splitC_pos 32 (lead s) []
  have hwl := splitC_many 32 (lead s) []
  have HS : Hid (lineS t f s = if (splitC 32 [] (lead s)).getD 0 [] = wSlack then
    match numsS ((splitC 32 [] (lead s)).drop 1) with
    | none => (t, 250)
    | some l => if f = false ∨ (lead s).length < s.length then (t, 250) else if prOk l = false then (t, 2) else if 16 < l.length then (t, 30) else (⟨t.items, l⟩, 0)
    else nodeS t (splitC 32 [] (lead s)) (s.length - (lead s).length)) := Lib.hid rfl
  simp only at TL
  generalize splitC 32 [] (lead s) = ws at *
  generalize lead s = L at *
  have hwb : ∀ x ∈ ws, x.length ≤ 16777216 := fun x hx => by have := hwb0 x hx; simp at this; omega
  have NC := Lib.hid (fun v w (h : PS w B P t false) (hr : RS w v ws) (e : Env w) => node_c t ws (s.length - L.length) v B P false w e h hw hr (by omega) hwb (by omega) hl hit5 hpr)
  have hsi : (s.length : Int) ≤ 1048576 := by omega
  have hLi : (L.length : Int) ≤ (s.length : Int) := by omega
  have hwpi : (0 : Int) < (ws.length : Int) := by omega
  have hw1i : (1 : Int) ≤ (ws.length : Int) := by omega
  clear hwb0 hp EB hw hit5 hpr
  go_enter Tryz.func25, Tryz.ntmps25
  go_wp2_with fail
  refine (TL.out _).mono ?_
  rintro e w1 ⟨rfl, hb1⟩
  go_wp2_with fail
  refine (SP.out _ hb1).mono ?_
  rintro e w2 ⟨rfl, hr2, hb2, hz2⟩
  have B2 := Lib.hid (hb1.trans (hb2.mono hb1.size))
  go_wp2_with fail
  refine (TL.out _).mono ?_
  rintro e w3 ⟨rfl, hb3⟩
  have B3 := Lib.hid (B2.out.trans (hb3.mono B2.out.size))
  have PS3 := HP.out.below B3.out
  have hr3 := hr2.below hb3
  have hbP : w1.heap.size ≠ P := by have := hb1.size; have := HPW.out; omega
  have hb3s : w1.heap.size < w3.heap.size := Nat.lt_of_lt_of_le hz2 hb3.size
  obtain ⟨b, hb⟩ : ∃ b, b = w1.heap.size := ⟨_, rfl⟩
  simp only [← hb] at *
  have c3 : w3.cell? ⟨b, 0, none⟩ = some (str (ws.getD 0 [])) := by
    obtain ⟨p', c', hv', hc'⟩ := hr3.out
    obtain ⟨b2, o2, hp2, _, hg2⟩ := hc' 0 hwp
    injection hv' with hv1
    rw [hv1.symm] at hp2
    injection hp2 with hp2
    injection hp2 with e1 e2
    subst e1; subst e2
    exact hg2
  have f3 : w3.cell? ⟨P, 2, none⟩ = some (.bool f) := by obtain ⟨_, _, _, h1, _⟩ := PS3.out; exact blk_cell h1 rfl
  have z3 : w3.frozen? ⟨P, 2, none⟩ = false := by obtain ⟨_, _, _, h1, _⟩ := PS3.out; exact blk_frozen h1 2
  have PS4 := Lib.hid (PS3.flag false)
  have B4 : Hid (Below B W (w3.setCell ⟨P, 2, none⟩ (.bool false))) := Lib.hid ((B3.out.mono HBW.out).setCell (p := ⟨P, 2, none⟩) HP.out.base _)
  have R4 : Hid (RS (w3.setCell ⟨P, 2, none⟩ (.bool false)) (.slice (some ⟨b, 0, none⟩) ws.length ws.length) ws) := Lib.hid (RG.of_block hr3 (by simp) (fun k hk _ => blk_set_other (by simp [Value.ownBlock] at hk; omega) _ _))
  have c4 : (w3.setCell ⟨P, 2, none⟩ (.bool false)).cell? ⟨b, 0, none⟩ = some (str (ws.getD 0 [])) := (World.cell?_of_block (w := w3) (w' := w3.setCell ⟨P, 2, none⟩ (.bool false)) (a := ⟨b, 0, none⟩) (blk_set_other hbP _ _)).trans c3
  have z4 : Hid (w3.heap.size ≤ (w3.setCell ⟨P, 2, none⟩ (.bool false)).heap.size) := Lib.hid (by simp)
  obtain ⟨w4, hw4⟩ : ∃ w4, w4 = w3.setCell ⟨P, 2, none⟩ (.bool false) := ⟨_, rfl⟩
  have HW4 := Lib.hid hw4
  rw [← hw4] at PS4 B4 R4 c4 z4
  have HB4S : Hid (W.heap.size ≤ w4.heap.size) := Lib.hid (Nat.le_trans B3.out.size z4.out)
  clear hb1 hb2 hb3 hr2 hr3 PS3 hw4 hb SP TL
  by_cases hx : ws.getD 0 [] = wSlack
  · have HS := Lib.hid (HS.out.trans (if_pos hx))
    rw [hx] at c4 c3
    have c4 : w4.cell? ⟨b, 0, none⟩ = some (str [115, 108, 97, 99, 107]) := c4
    have c5 : (w3.setCell ⟨P, 2, none⟩ (.bool false)).cell? ⟨b, 0, none⟩ = some (str [115, 108, 97, 99, 107]) := by rw [← HW4.out]; exact c4
    have c3 : w3.cell? ⟨b, 0, none⟩ = some (str [115, 108, 97, 99, 107]) := c3
    obtain ⟨i1, hi1', _, hz1, _⟩ := info_of1F Tryz.infoStrF
    obtain ⟨vd, hvd, rgd⟩ := from_c (P := Tryz.prog) (T := 40) (E := 9) Tryz.underlying40 hi1' hz1 R4.out 1 (by rw [List.length_map]; exact hwp) (by rw [List.length_map]; exact hwp)
    have hsl : ∀ w1, (Instr.slice 40 (.slice (some ⟨b, 0, none⟩) ws.length ws.length) (some (.int .i64 1)) none none).run Tryz.prog w1 = .ok vd w1 := hvd
    have rsd : RS w4 vd (ws.drop 1) := by rw [← List.map_drop] at rgd; exact rgd
    have ND := Lib.hid (numbers_c (ws.drop 1) vd w4 (EE.out _ B4.out) rsd (by simp; omega) (fun y hy => hwb y (List.mem_of_mem_drop hy)))
    have NSB := Lib.hid (fun o h => numsS_bounds (l := ws.drop 1) (o := o) h)
    have hdl : (ws.drop 1).length ≤ 16777216 := by simp; omega
    clear rsd rgd hvd hz1 hi1' hx NC c4
    generalize numsS (ws.drop 1) = NS at *
    go_wp2_with fail
    rw [← HW4.out]
    refine ND.out.mono ?_
    rintro e w6 ⟨⟨u6, ⟨p6, k6, c6, rfl⟩, rfl, hu6⟩, hb6⟩
    have B6 := Lib.hid (B4.out.trans (hb6.mono (Nat.le_trans HBW.out HB4S.out)))
    have PS6 := Lib.hid (PS4.out.below hb6)
    have HU6 := Lib.hid hu6
    have HB6 := Lib.hid hb6
    clear c5 c3 f3 z3 hbP hsl hu6 hb6 z4 hb3s
    cases NS with
    | none =>
      have HR := Lib.hid HS.out
      clear HS
      go_wp2_with fail
      go_ret
      exact LineP.bad HR.out (by decide) B6.out
    | some l =>
      have HS : Hid (lineS t f s = if f = false ∨ L.length < s.length then (t, 250) else if prOk l = false then (t, 2) else if 16 < l.length then (t, 30) else (⟨t.items, l⟩, 0)) := HS
      cases f with
      | false =>
        have HR := Lib.hid (HS.out.trans (if_pos (.inl rfl)))
        clear HS
        go_wp2_with fail
        go_ret
        exact LineP.bad HR.out (by decide) B6.out
      | true =>
        by_cases hn : L.length < s.length
        · have HR := Lib.hid (HS.out.trans (if_pos (.inr hn)))
          have hn' : (0 : Int) < (s.length : Int) - (L.length : Int) := by omega
          have hn2 : (L.length : Int) < (s.length : Int) := by omega
          clear HS hn
          go_wp2_with fail
          go_ret
          exact LineP.bad HR.out (by decide) B6.out
        · have HT := Lib.hid (HS.out.trans (if_neg (by simp; omega)))
          have hn' : ¬ (0 : Int) < (s.length : Int) - (L.length : Int) := by omega
          have hn2 : ¬ (L.length : Int) < (s.length : Int) := by omega
          have hn3 : (s.length : Int) - (L.length : Int) = 0 := by omega
          have hn4 : (L.length : Int) = (s.length : Int) := by omega
          have RI6 := RI_own (HU6.out l rfl)
          obtain ⟨a6, c6', he6⟩ := RI_form RI6
          injection he6 with e1 e2 e3
          subst e1; subst e2; subst e3
          have hll : l.length ≤ 16777216 := by have := (NSB.out l rfl).1; omega
          have PR := Lib.hid (prios_c l _ w6 RI6 (by omega))
          have R6 := Lib.hid RI6
          have HN3 := Lib.hid hn3
          clear HS hn RI6 hn3 hn4 NSB
          cases hp : prOk l with
          | false =>
            rw [hp] at PR
            have HR := Lib.hid (HT.out.trans (if_pos hp))
            clear hp HT
            go_wp2_with (go_at_call 58; refine PR.out.mono ?_; rintro e w7 ⟨rfl, rfl⟩)
            go_ret
            exact LineP.bad HR.out (by decide) B6.out
          | true =>
            rw [hp] at PR
            have HT := Lib.hid (HT.out.trans (if_neg (by rw [hp]; decide)))
            clear hp
            by_cases h16 : 16 < l.length
            · have HR := Lib.hid (HT.out.trans (if_pos h16))
              have h16' : (16 : Int) < (l.length : Int) := by omega
              have h16d : decide (16 < l.length) = true := decide_eq_true h16
              clear h16 HT
              go_wp2_with (go_at_call 58; refine PR.out.mono ?_; rintro e w7 ⟨rfl, rfl⟩)
              go_ret
              exact LineP.bad HR.out (by decide) B6.out
            · have HR := Lib.hid (HT.out.trans (if_neg h16))
              have h16' : ¬ (16 : Int) < (l.length : Int) := by omega
              have h16d : decide (16 < l.length) = false := decide_eq_false h16
              obtain ⟨v1, v2, cs, Q1, Q2, _⟩ := PS6.out.out
              have q1 : w6.cell? ⟨P, 1, none⟩ = some v2 := blk_cell Q1 rfl
              have qz : w6.frozen? ⟨P, 1, none⟩ = false := blk_frozen Q1 1
              have HQ1 := Lib.hid Q1
              have BP : Hid (B ≤ P) := Lib.hid HP.out.base
              clear h16 HT Q1 Q2
              go_wp2_with (go_at_call 58; refine PR.out.mono ?_; rintro e w7 ⟨rfl, rfl⟩)
              go_ret
              refine ⟨by rw [HR.out]; rfl, B6.out.setCell (p := ⟨P, 1, none⟩) BP.out _, fun _ => ?_⟩
              rw [HR.out]
              refine PS6.out.setSlack R6.out (fun k hk => ⟨(RI_own_block (HU6.out l rfl)).2 k hk, fun v1' cs' hc h1 => ?_⟩)
              have hge := (RI_own_block (HU6.out l rfl)).1 k hk
              obtain ⟨v3, v4, cs4, q1, q2, _⟩ := PS4.out.out
              have hq := (blk_below q1 HB6.out).symm.trans hc
              injection hq with hq
              injection hq with hq
              subst hq
              injection h1 with h1
              subst h1
              rintro (h | h)
              · have := (RI_own_block q2).2 k h; omega
              · have := PS4.out.lt; omega
  · have HS2 := Lib.hid (HS.out.trans (if_neg hx))
    clear HS
    have k1 : ¬ ws.getD 0 [] = [115, 108, 97, 99, 107] := hx
    generalize ws.getD 0 [] = x0 at *
    have k2 : (x0 != [115, 108, 97, 99, 107]) = true := by simpa using k1
    have k3 : (x0 == [115, 108, 97, 99, 107]) = false := by simpa using k1
    have c5 : (w3.setCell ⟨P, 2, none⟩ (.bool false)).cell? ⟨b, 0, none⟩ = some (str x0) := by rw [← HW4.out]; exact c4
    have NN := Lib.hid (NC.out _ w4 PS4.out R4.out (EE.out _ B4.out))
    have hn : (s.length : Int) - (L.length : Int) = ((s.length - L.length : Nat) : Int) := by omega
    have HN := Lib.hid hn
    clear hx c4 NC hn
    go_wp2_with fail
    rw [← HW4.out, HN.out]
    refine NN.out.mono ?_
    rintro e w6 ⟨rfl, hb6, hps⟩
    go_wp2_with fail
    go_ret
    refine ⟨by rw [HS2.out]; rfl, B4.out.trans hb6, fun h => ?_⟩
    rw [HS2.out] at h ⊢
    exact hps h
end Go.Proofs.YtophilmjfdhhaaaGreatDoor
