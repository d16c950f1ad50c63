/- titheref24.Lines at every text. -/
import Derived.Test.YtdcnlgjngfmbcaaDoorLm
import Derived.Outline
import Derived.Deep.DeepCutAuto
namespace Go.Proofs.YtdcnlgjngfmbcaaDoor
open Go Go.RowKit Go.Shelf
set_option linter.unusedVariables false
set_option maxRecDepth 100000
set_option maxHeartbeats 1600000

/-- The stretch of a text. -/
def seg (l : List UInt8) (f i : Nat) : List UInt8 := (l.drop f).take (i - f)
theorem seg_self (l : List UInt8) (f : Nat) : seg l f f = [] := by simp [seg]
theorem seg_succ (l : List UInt8) (f i : Nat) (hf : f ≤ i) (hi : i < l.length) : seg l f (i + 1) = seg l f i ++ [l.getD i 0] := by
  unfold seg
  rw [show i + 1 - f = (i - f) + 1 by omega, List.take_succ_eq_append_getElem (by simp; omega)]
  congr 2
  rw [List.getElem_drop, List.getD, List.getElem?_eq_getElem hi]
  simp only [Option.getD_some]
  congr 1
  omega
theorem seg_len (l : List UInt8) (f i : Nat) (hi : i ≤ l.length) : (seg l f i).length = i - f := by unfold seg; simp; omega
theorem trimCR_seg_yes (l : List UInt8) (f i : Nat) (hf : f ≤ i) (hi : i < l.length) (h : l.getD i 0 = 13) : trimCR (seg l f (i + 1)) = seg l f i := by
  rw [seg_succ l f i hf hi]
  unfold trimCR
  rw [if_pos (by rw [List.getLast?_append, h]; rfl), List.dropLast_concat]
theorem trimCR_seg_no (l : List UInt8) (f i : Nat) (hf : f ≤ i) (hi : i < l.length) (h : l.getD i 0 ≠ 13) : trimCR (seg l f (i + 1)) = seg l f (i + 1) := by
  rw [seg_succ l f i hf hi]
  unfold trimCR
  rw [if_neg (by rw [List.getLast?_append]; simpa using h)]
theorem drop_nl (l : List UInt8) (i : Nat) (hi : i < l.length) (f : Nat) (hf : f ≤ i) : splitC 10 (seg l f i) (l.drop i) = if l.getD i 0 == 10 then seg l f i :: splitC 10 [] (l.drop (i + 1)) else splitC 10 (seg l f (i + 1)) (l.drop (i + 1)) := by
  have hd : l.drop i = l.getD i 0 :: l.drop (i + 1) := by
    rw [List.drop_eq_getElem_cons hi, List.getD, List.getElem?_eq_getElem hi]; rfl
  rw [hd, splitC, seg_succ l f i hf hi]

/-- What the loop of the reference's Lines holds. -/
def RInv (l : List UInt8) (R : List LnS × Nat × Int) (i f no : Nat) (o : List LnS) : Prop :=
  f ≤ i ∧ no ≤ i ∧ ((i ≤ l.length ∧ R = linesGo (splitC 10 (seg l f i) (l.drop i)) (no + 1) o) ∨ (i = l.length + 1 ∧ R = (o, 0, 0)))
theorem RInv.go {l : List UInt8} {R : List LnS × Nat × Int} {i f no : Nat} {o : List LnS} (h : RInv l R i f no o) (hi : i < l.length) (hb : l.getD i 0 ≠ 10) : RInv l R (i + 1) f no o := by
  obtain ⟨h1, h2, h3⟩ := h
  rcases h3 with ⟨_, h3⟩ | ⟨h3, _⟩
  · rw [drop_nl l i hi f h1, if_neg (by simpa using hb)] at h3
    exact ⟨by omega, by omega, .inl ⟨by omega, h3⟩⟩
  · omega
/-- A line ends at i. -/
theorem RInv.line {l : List UInt8} {R : List LnS × Nat × Int} {i f no : Nat} {o : List LnS} (h : RInv l R i f no o) (hi : i = l.length ∨ (i < l.length ∧ l.getD i 0 = 10)) (q : List UInt8) (hq : trimCR (seg l f i) = q) :
    (okLine q = false → R = ([], no + 1, 240)) ∧ (okLine q = true → wds q = [] → RInv l R (i + 1) (i + 1) (no + 1) o) ∧ (okLine q = true → wds q ≠ [] → o.length = 4096 → R = ([], no + 1, 3)) ∧
    (okLine q = true → wds q ≠ [] → o.length ≠ 4096 → RInv l R (i + 1) (i + 1) (no + 1) (o ++ [(no + 1, wds q)])) := by
  subst hq
  obtain ⟨h1, h2, h3⟩ := h
  rcases h3 with ⟨hil, h3⟩ | ⟨h3, _⟩
  · rcases hi with rfl | ⟨hi, hb⟩
    · have e : splitC 10 (seg l f l.length) (l.drop l.length) = [seg l f l.length] := by rw [List.drop_eq_nil_of_le (Nat.le_refl _)]; rfl
      rw [e] at h3
      have fin : ∀ o', R = linesGo [] (no + 1 + 1) o' → RInv l R (l.length + 1) (l.length + 1) (no + 1) o' := fun o' h => ⟨Nat.le_refl _, by omega, .inr ⟨rfl, h⟩⟩
      exact ⟨fun a => h3.trans (linesGo_bad a), fun a b => fin _ (h3.trans (linesGo_skip a b)), fun a b c => h3.trans (linesGo_long a b c), fun a b c => fin _ (h3.trans (linesGo_take a b c))⟩
    · rw [drop_nl l i hi f h1, if_pos (by simpa using hb)] at h3
      have fin : ∀ o', R = linesGo (splitC 10 [] (l.drop (i + 1))) (no + 1 + 1) o' → RInv l R (i + 1) (i + 1) (no + 1) o' := fun o' h => ⟨Nat.le_refl _, by omega, .inl ⟨by omega, by rw [seg_self]; exact h⟩⟩
      exact ⟨fun a => h3.trans (linesGo_bad a), fun a b => fin _ (h3.trans (linesGo_skip a b)), fun a b c => h3.trans (linesGo_long a b c), fun a b c => fin _ (h3.trans (linesGo_take a b c))⟩
  · rcases hi with rfl | ⟨hi, _⟩ <;> omega

theorem rlines_long (l : List UInt8) (W : World) (h : 1048576 < l.length) (hl : l.length ≤ 140737488355328) :
    Calls Tryd.prog 10 #[str l] W fun e w' => e = .returned (.tuple #[.slice none 0 0, .int .i64 0, .int .i64 3]) ∧ W = w' := by
  have h1 : (1048576 : Int) < ((⟨l.toArray⟩ : ByteArray).size : Int) := by rw [sz]; omega
  go_enter Tryd.func10, Tryd.ntmps10
  go_wp2_with fail
  go_ret3
  exact ⟨rfl, rfl⟩
theorem extract_seg (s : ByteArray) (f i : Nat) : s.extract f i = ⟨(seg s.data.toList f i).toArray⟩ := by
  rw [of_str (s.extract f i), extract_list]; rfl

/-- Where the line ends. -/
def EndAt (l : List UInt8) (f i : Nat) (no : Int) (wr : World) (s6 s9 : Value) (wx : World) : Prop :=
  s6 = .int .i64 no ∧ wx = wr ∧ ∃ e : Nat, s9 = .int .i64 e ∧ f ≤ e ∧ e ≤ i ∧ trimCR (seg l f i) = seg l f e
theorem rlines_short (s : ByteArray) (W : World) (h : s.size ≤ 1048576) :
    Calls Tryd.prog 10 #[.string s] W fun e w' => ∃ v, e = .returned (.tuple #[v, .int .i64 ((linesOf s.data.toList).2.1 : Nat), .int .i64 (linesOf s.data.toList).2.2]) ∧ RL w' v (linesOf s.data.toList).1 ∧ Below W.heap.size W w' := by
  obtain ⟨i0, hi, hz0, hz1, hz2⟩ := info_of1 Tryd.infoRLine
  have hln : s.size = s.data.toList.length := by rw [Array.length_toList]; rfl
  have h1 : ¬ (1048576 : Int) < (s.size : Int) := by omega
  have hR : RInv s.data.toList (linesOf s.data.toList) 0 0 0 [] := by
    refine ⟨Nat.le_refl _, Nat.le_refl _, .inl ⟨Nat.zero_le _, ?_⟩⟩
    unfold linesOf
    rw [if_neg (by omega)]
    simp [seg_self]
  generalize linesOf s.data.toList = R at *
  have HR := Lib.hid hR
  have HLN := Lib.hid hln
  have WB := Lib.hid (rwords_bad)
  have WO := Lib.hid (rwords_ok)
  have BA := Lib.hid (byte_at s)
  clear hR hln
  go_enter Tryd.func10, Tryd.ntmps10
  go_wp2_with fail
  go_loopw [5, 6, 7, 8] (fun a n f i wr => ∃ (i' f' no : Nat) (o : List LnS) (cs : List Value), n = .int .i64 no ∧ f = .int .i64 f' ∧ i = .int .i64 i' ∧ i' ≤ s.size + 1 ∧ f' ≤ i' ∧ no ≤ i' ∧ o.length ≤ 4096 ∧ wr.ownsRow W.heap.size 69 2 a o.length cs ∧ LC wr a.ownBlock cs o ∧ Below W.heap.size W wr ∧ Hid (RInv s.data.toList R i' f' no o)) (fun _ _ _ i _ => s.size + 1 - (intOf i).toNat)
  case atStart => exact ⟨0, 0, 0, [], [], by go_num, by go_num, by go_num, by omega, by omega, by omega, by simp, World.ownsRow_nil _ _ _ _, trivial, Below.refl _ _, HR⟩
  case round =>
    obtain ⟨i, f, no, o, cs, rfl, rfl, rfl, hile, hfi, hnoi, ho, hown, hlc, hbe, hr⟩ := hrel
    have hib : (i : Int) ≤ 1048577 := by omega
    have hnb : (no : Int) ≤ 1048577 := by omega
    by_cases hdone : i = s.size + 1
    · have HX : Hid (R = (o, 0, 0)) := Lib.hid (by
        rcases hr.out.2.2 with ⟨h, _⟩ | ⟨_, h⟩
        · have := HLN.out; omega
        · exact h)
      have OW := Lib.hid (RL_own hown hlc).1
      have hgt : ¬ (i : Int) ≤ (s.size : Int) := by omega
      clear hown hlc hdone
      go_wp2_with fail
      go_ret3
      exact ⟨_, by rw [HX.out]; rfl, by rw [HX.out]; exact OW.out, hbe⟩
    · have hil : i ≤ s.size := by omega
      have hile2 : (i : Int) ≤ (s.size : Int) := by omega
      by_cases hgo : i < s.size ∧ s.data.toList.getD i 0 ≠ 10
      · obtain ⟨hlt, hb⟩ := hgo
        have NX := Lib.hid (hr.out.go (by have := HLN.out; omega) hb)
        have hltn : (i : Int) < (s.size : Int) := by omega
        have hb10 : (((s[i]).toNat : Int) != 10) = true := by
          rw [BA.out i hlt] at hb
          rw [bne_iff_ne]
          intro e
          exact hb (UInt8.toNat_inj.1 (by have : (s[i]).toNat = 10 := by omega
                                          rw [this]; rfl))
        clear hb hdone
        go_wp2_with fail
        go_roundw
        case rel => exact ⟨i + 1, f, no, o, cs, by go_num, by go_num, by go_num, by omega, by omega, by omega, ho, hown, hlc, hbe, NX⟩
        case measure => simp [intOf]; omega
      · have hend : i = s.size ∨ (i < s.size ∧ s.data.toList.getD i 0 = 10) := by
          rcases Nat.lt_or_ge i s.size with h' | h'
          · refine .inr ⟨h', ?_⟩
            rcases Decidable.em (s.data.toList.getD i 0 = 10) with e | e
            · exact e
            · exact absurd ⟨h', e⟩ hgo
          · exact .inl (by omega)
        have STEP := Lib.hid (fun q hq => hr.out.line (by rw [← HLN.out]; exact hend) q hq)
        clear hgo hdone
        have hnb2 : (no : Int) + 1 ≤ 1048578 := by omega
        obtain ⟨i2, hi2⟩ : ∃ i2, i2 = i + 1 := ⟨_, rfl⟩
        rw [← hi2] at STEP
        have HI2 := Lib.hid hi2
        have hile3 : i2 ≤ s.size + 1 := by omega
        have hnoi2 : no + 1 ≤ i2 := by omega
        clear hi2
        have TRY := Lib.hid (fun (h1 : f < i) (h2 : s.data.toList.getD (i - 1) 0 = 13) => (by
          have := trimCR_seg_yes s.data.toList f (i - 1) (by omega) (by have := HLN.out; omega) h2
          rwa [show i - 1 + 1 = i by omega] at this : trimCR (seg s.data.toList f i) = seg s.data.toList f (i - 1)))
        have TRN := Lib.hid (fun (h1 : ¬ (f < i ∧ s.data.toList.getD (i - 1) 0 = 13)) => (by
          by_cases hf : f < i
          · have := trimCR_seg_no s.data.toList f (i - 1) (by omega) (by have := HLN.out; omega) (fun e => h1 ⟨hf, e⟩)
            rwa [show i - 1 + 1 = i by omega] at this
          · have : i = f := by omega
            subst this
            rw [seg_self]; rfl : trimCR (seg s.data.toList f i) = seg s.data.toList f i))
        have HIX := Lib.hid (fun (h : f < i) => (fun w => by
          have hl : i - 1 < s.size := by omega
          have e : ((i : Int) - 1) = ((i - 1 : Nat) : Int) := by omega
          rw [e, run_index_string _ _ _ _ _ Tryd.underlying9, BA.out (i - 1) hl]
          simp [hl] : ∀ w, (Instr.index 9 (.string s) (.int .i64 ((i : Int) - 1))).run Tryd.prog w = .ok (.int .u8 (s.data.toList.getD (i - 1) 0).toNat) w))
        have N13 : Hid (∀ x : UInt8, x ≠ 13 → (((x.toNat : Int)) == 13) = false) := Lib.hid (fun x e => by
          rw [beq_eq_false_iff_ne]
          intro e2
          exact e (UInt8.toNat_inj.1 (by have : x.toNat = 13 := by omega
                                         rw [this]; rfl)))
        generalize hx : s.data.toList.getD (i - 1) 0 = x at *
        clear hx
        by_cases hf : f < i
        · have hfn : (f : Int) < (i : Int) := by omega
          have hix := HIX.out hf
          by_cases hx13 : x = 13
          · have STQ := Lib.hid (STEP.out _ (TRY.out hf hx13))
            subst hx13
            clear TRY TRN STEP HIX N13 hf
            rcases hend with hie | ⟨hie, hb⟩
            · have hni : ¬ (i : Int) < (s.size : Int) := by omega
              clear hie
              go_wp2_with fail
              rw [extract_seg]
              have hql : (seg s.data.toList f (i - 1)).length ≤ 1048576 := by rw [seg_len _ _ _ (by have := HLN.out; omega)]; omega
              generalize seg s.data.toList f (i - 1) = q at *
              try clear hb10
              try clear hix
              try clear h13f
              try clear hni
              try clear hfn
              try clear hfi
              by_cases hok : okLine q = true
              · refine (WO.out ⟨q.toArray⟩ wr (by rw [sz]; omega) hok).mono ?_
                rintro e w2 ⟨v, rfl, rs, hb2, hvb⟩
                replace rs : RS w2 v (wds q) := rs
                obtain ⟨pv, cv, rfl, _⟩ := rs.out
                have BE2 := Lib.hid (hbe.trans (hb2.mono hbe.size))
                have own2 := own_below1 hown hb2
                have LC2 := Lib.hid (hlc.below hb2)
                have OB : Hid (∀ k, (Value.slice pv (wds q).length cv).ownBlock = some k → u5.ownBlock ≠ some k ∧ (wds q ≠ [] → k < w2.heap.size)) := Lib.hid (fun k hk => ⟨fun e => by have := own_lt1 hown k e; have := hvb k hk; omega, fun hl => RG.lt rs k hk (by simpa using hl)⟩)
                have RSV := Lib.hid rs
                have HOK := Lib.hid hok
                have HNO := Lib.hid hnoi
                clear rs hown hlc hbe hvb hb2 hok hnoi
                by_cases hw : wds q = []
                · have NX := Lib.hid (STQ.out.2.1 HOK.out hw)
                  have hwl : (wds q).length = 0 := by rw [hw]; rfl
                  rw [hwl]
                  clear hw hwl RSV OB
                  go_wp2_with fail
                  go_roundw
                  case rel => exact ⟨i2, i2, no + 1, o, cs, by go_num, by rw [HI2.out]; go_num, by rw [HI2.out]; go_num, hile3, by omega, hnoi2, ho, own2, LC2.out, BE2.out, NX⟩
                  case measure => show s.size + 1 - ((i : Int) + 1).toNat < s.size + 1 - ((i : Int)).toNat; omega
                · have hwl : 0 < (wds q).length := by cases h : wds q with | nil => exact absurd h hw | cons a t => simp
                  have hwl2 : (((wds q).length : Int) == 0) = false := by rw [beq_eq_false_iff_ne]; omega
                  obtain ⟨pa, ca, rfl⟩ := own_form1 own2
                  by_cases h4 : o.length = 4096
                  · have NX := Lib.hid (STQ.out.2.2.1 HOK.out hw h4)
                    have h4' : ((o.length : Int) == 4096) = true := by rw [h4]; rfl
                    clear h4 hw
                    go_wp2_with fail
                    go_ret3
                    exact ⟨_, by rw [NX.out]; rfl, by rw [NX.out]; exact RL_nil _, BE2.out⟩
                  · have NX := Lib.hid (STQ.out.2.2.2 HOK.out hw h4)
                    have h4' : ((o.length : Int) == 4096) = false := by rw [beq_eq_false_iff_ne]; omega
                    have HW := Lib.hid hw
                    have hlt4 : o.length < 4096 := by omega
                    clear h4 hw
                    have hb2s := BE2.out.size
                    have LS := Lib.hid (LC.snoc (no := no + 1) RSV.out (fun k hk => ⟨(OB.out k hk).1, (OB.out k hk).2 HW.out⟩) LC2.out)
                    have hnc : (((no + 1 : Nat)) : Int) = (no : Int) + 1 := by omega
                    rw [hnc] at LS
                    go_wp2_with (at_builtin; refine appendN2 (W := W) rfl _ _ 27 rfl W.heap.size 69 i0 _ 2 32 Tryd.underlying27 hi hz0 hz1 hz2 rfl (by decide) _ _ _ rfl own2 _ [.int .i64 ((no : Int) + 1), .slice pv (wds q).length cv] _ rfl rfl rfl (by intro u hu; simp at hu; rcases hu with rfl | rfl <;> rfl) (by unfold maxLen; omega) (by omega) hb2s BE2.out ?_; intro v' w3 hown3 hbe3 hgr)
                    go_roundw
                    case rel => exact ⟨i2, i2, no + 1, o ++ [(no + 1, wds q)], _, by go_num, by rw [HI2.out]; go_num, by rw [HI2.out]; go_num, hile3, by omega, hnoi2, by simp; omega, by rw [List.length_append]; exact hown3, LS.out.grew hgr, hbe3, NX⟩
                    case measure => show s.size + 1 - ((i : Int) + 1).toNat < s.size + 1 - ((i : Int)).toNat; omega
              · have hok' : okLine q = false := by simpa using hok
                have NX := Lib.hid (STQ.out.1 hok')
                refine (WB.out ⟨q.toArray⟩ wr (by rw [sz]; omega) hok').mono ?_
                rintro e w' ⟨rfl, rfl⟩
                have BE2 := Lib.hid hbe
                clear hok hok' hbe hown hlc
                go_wp2_with fail
                go_ret3
                exact ⟨_, by rw [NX.out]; rfl, by rw [NX.out]; exact RL_nil _, BE2.out⟩
            · have hni : (i : Int) < (s.size : Int) := by omega
              have hb10 : (((s[i]).toNat : Int) != 10) = false := by rw [BA.out i hie] at hb; rw [hb]; rfl
              clear hb
              go_wp2_with fail
              rw [extract_seg]
              have hql : (seg s.data.toList f (i - 1)).length ≤ 1048576 := by rw [seg_len _ _ _ (by have := HLN.out; omega)]; omega
              generalize seg s.data.toList f (i - 1) = q at *
              try clear hb10
              try clear hix
              try clear h13f
              try clear hni
              try clear hfn
              try clear hfi
              by_cases hok : okLine q = true
              · refine (WO.out ⟨q.toArray⟩ wr (by rw [sz]; omega) hok).mono ?_
                rintro e w2 ⟨v, rfl, rs, hb2, hvb⟩
                replace rs : RS w2 v (wds q) := rs
                obtain ⟨pv, cv, rfl, _⟩ := rs.out
                have BE2 := Lib.hid (hbe.trans (hb2.mono hbe.size))
                have own2 := own_below1 hown hb2
                have LC2 := Lib.hid (hlc.below hb2)
                have OB : Hid (∀ k, (Value.slice pv (wds q).length cv).ownBlock = some k → u5.ownBlock ≠ some k ∧ (wds q ≠ [] → k < w2.heap.size)) := Lib.hid (fun k hk => ⟨fun e => by have := own_lt1 hown k e; have := hvb k hk; omega, fun hl => RG.lt rs k hk (by simpa using hl)⟩)
                have RSV := Lib.hid rs
                have HOK := Lib.hid hok
                have HNO := Lib.hid hnoi
                clear rs hown hlc hbe hvb hb2 hok hnoi
                by_cases hw : wds q = []
                · have NX := Lib.hid (STQ.out.2.1 HOK.out hw)
                  have hwl : (wds q).length = 0 := by rw [hw]; rfl
                  rw [hwl]
                  clear hw hwl RSV OB
                  go_wp2_with fail
                  go_roundw
                  case rel => exact ⟨i2, i2, no + 1, o, cs, by go_num, by rw [HI2.out]; go_num, by rw [HI2.out]; go_num, hile3, by omega, hnoi2, ho, own2, LC2.out, BE2.out, NX⟩
                  case measure => show s.size + 1 - ((i : Int) + 1).toNat < s.size + 1 - ((i : Int)).toNat; omega
                · have hwl : 0 < (wds q).length := by cases h : wds q with | nil => exact absurd h hw | cons a t => simp
                  have hwl2 : (((wds q).length : Int) == 0) = false := by rw [beq_eq_false_iff_ne]; omega
                  obtain ⟨pa, ca, rfl⟩ := own_form1 own2
                  by_cases h4 : o.length = 4096
                  · have NX := Lib.hid (STQ.out.2.2.1 HOK.out hw h4)
                    have h4' : ((o.length : Int) == 4096) = true := by rw [h4]; rfl
                    clear h4 hw
                    go_wp2_with fail
                    go_ret3
                    exact ⟨_, by rw [NX.out]; rfl, by rw [NX.out]; exact RL_nil _, BE2.out⟩
                  · have NX := Lib.hid (STQ.out.2.2.2 HOK.out hw h4)
                    have h4' : ((o.length : Int) == 4096) = false := by rw [beq_eq_false_iff_ne]; omega
                    have HW := Lib.hid hw
                    have hlt4 : o.length < 4096 := by omega
                    clear h4 hw
                    have hb2s := BE2.out.size
                    have LS := Lib.hid (LC.snoc (no := no + 1) RSV.out (fun k hk => ⟨(OB.out k hk).1, (OB.out k hk).2 HW.out⟩) LC2.out)
                    have hnc : (((no + 1 : Nat)) : Int) = (no : Int) + 1 := by omega
                    rw [hnc] at LS
                    go_wp2_with (at_builtin; refine appendN2 (W := W) rfl _ _ 27 rfl W.heap.size 69 i0 _ 2 32 Tryd.underlying27 hi hz0 hz1 hz2 rfl (by decide) _ _ _ rfl own2 _ [.int .i64 ((no : Int) + 1), .slice pv (wds q).length cv] _ rfl rfl rfl (by intro u hu; simp at hu; rcases hu with rfl | rfl <;> rfl) (by unfold maxLen; omega) (by omega) hb2s BE2.out ?_; intro v' w3 hown3 hbe3 hgr)
                    go_roundw
                    case rel => exact ⟨i2, i2, no + 1, o ++ [(no + 1, wds q)], _, by go_num, by rw [HI2.out]; go_num, by rw [HI2.out]; go_num, hile3, by omega, hnoi2, by simp; omega, by rw [List.length_append]; exact hown3, LS.out.grew hgr, hbe3, NX⟩
                    case measure => show s.size + 1 - ((i : Int) + 1).toNat < s.size + 1 - ((i : Int)).toNat; omega
              · have hok' : okLine q = false := by simpa using hok
                have NX := Lib.hid (STQ.out.1 hok')
                refine (WB.out ⟨q.toArray⟩ wr (by rw [sz]; omega) hok').mono ?_
                rintro e w' ⟨rfl, rfl⟩
                have BE2 := Lib.hid hbe
                clear hok hok' hbe hown hlc
                go_wp2_with fail
                go_ret3
                exact ⟨_, by rw [NX.out]; rfl, by rw [NX.out]; exact RL_nil _, BE2.out⟩
          · have STQ := Lib.hid (STEP.out _ (TRN.out (fun h => hx13 h.2)))
            have h13f := N13.out x hx13
            clear TRY TRN STEP HIX N13 hf hx13
            rcases hend with hie | ⟨hie, hb⟩
            · have hni : ¬ (i : Int) < (s.size : Int) := by omega
              clear hie
              go_wp2_with fail
              rw [extract_seg]
              have hql : (seg s.data.toList f i).length ≤ 1048576 := by rw [seg_len _ _ _ (by have := HLN.out; omega)]; omega
              generalize seg s.data.toList f i = q at *
              try clear hb10
              try clear hix
              try clear h13f
              try clear hni
              try clear hfn
              try clear hfi
              by_cases hok : okLine q = true
              · refine (WO.out ⟨q.toArray⟩ wr (by rw [sz]; omega) hok).mono ?_
                rintro e w2 ⟨v, rfl, rs, hb2, hvb⟩
                replace rs : RS w2 v (wds q) := rs
                obtain ⟨pv, cv, rfl, _⟩ := rs.out
                have BE2 := Lib.hid (hbe.trans (hb2.mono hbe.size))
                have own2 := own_below1 hown hb2
                have LC2 := Lib.hid (hlc.below hb2)
                have OB : Hid (∀ k, (Value.slice pv (wds q).length cv).ownBlock = some k → u5.ownBlock ≠ some k ∧ (wds q ≠ [] → k < w2.heap.size)) := Lib.hid (fun k hk => ⟨fun e => by have := own_lt1 hown k e; have := hvb k hk; omega, fun hl => RG.lt rs k hk (by simpa using hl)⟩)
                have RSV := Lib.hid rs
                have HOK := Lib.hid hok
                have HNO := Lib.hid hnoi
                clear rs hown hlc hbe hvb hb2 hok hnoi
                by_cases hw : wds q = []
                · have NX := Lib.hid (STQ.out.2.1 HOK.out hw)
                  have hwl : (wds q).length = 0 := by rw [hw]; rfl
                  rw [hwl]
                  clear hw hwl RSV OB
                  go_wp2_with fail
                  go_roundw
                  case rel => exact ⟨i2, i2, no + 1, o, cs, by go_num, by rw [HI2.out]; go_num, by rw [HI2.out]; go_num, hile3, by omega, hnoi2, ho, own2, LC2.out, BE2.out, NX⟩
                  case measure => show s.size + 1 - ((i : Int) + 1).toNat < s.size + 1 - ((i : Int)).toNat; omega
                · have hwl : 0 < (wds q).length := by cases h : wds q with | nil => exact absurd h hw | cons a t => simp
                  have hwl2 : (((wds q).length : Int) == 0) = false := by rw [beq_eq_false_iff_ne]; omega
                  obtain ⟨pa, ca, rfl⟩ := own_form1 own2
                  by_cases h4 : o.length = 4096
                  · have NX := Lib.hid (STQ.out.2.2.1 HOK.out hw h4)
                    have h4' : ((o.length : Int) == 4096) = true := by rw [h4]; rfl
                    clear h4 hw
                    go_wp2_with fail
                    go_ret3
                    exact ⟨_, by rw [NX.out]; rfl, by rw [NX.out]; exact RL_nil _, BE2.out⟩
                  · have NX := Lib.hid (STQ.out.2.2.2 HOK.out hw h4)
                    have h4' : ((o.length : Int) == 4096) = false := by rw [beq_eq_false_iff_ne]; omega
                    have HW := Lib.hid hw
                    have hlt4 : o.length < 4096 := by omega
                    clear h4 hw
                    have hb2s := BE2.out.size
                    have LS := Lib.hid (LC.snoc (no := no + 1) RSV.out (fun k hk => ⟨(OB.out k hk).1, (OB.out k hk).2 HW.out⟩) LC2.out)
                    have hnc : (((no + 1 : Nat)) : Int) = (no : Int) + 1 := by omega
                    rw [hnc] at LS
                    go_wp2_with (at_builtin; refine appendN2 (W := W) rfl _ _ 27 rfl W.heap.size 69 i0 _ 2 32 Tryd.underlying27 hi hz0 hz1 hz2 rfl (by decide) _ _ _ rfl own2 _ [.int .i64 ((no : Int) + 1), .slice pv (wds q).length cv] _ rfl rfl rfl (by intro u hu; simp at hu; rcases hu with rfl | rfl <;> rfl) (by unfold maxLen; omega) (by omega) hb2s BE2.out ?_; intro v' w3 hown3 hbe3 hgr)
                    go_roundw
                    case rel => exact ⟨i2, i2, no + 1, o ++ [(no + 1, wds q)], _, by go_num, by rw [HI2.out]; go_num, by rw [HI2.out]; go_num, hile3, by omega, hnoi2, by simp; omega, by rw [List.length_append]; exact hown3, LS.out.grew hgr, hbe3, NX⟩
                    case measure => show s.size + 1 - ((i : Int) + 1).toNat < s.size + 1 - ((i : Int)).toNat; omega
              · have hok' : okLine q = false := by simpa using hok
                have NX := Lib.hid (STQ.out.1 hok')
                refine (WB.out ⟨q.toArray⟩ wr (by rw [sz]; omega) hok').mono ?_
                rintro e w' ⟨rfl, rfl⟩
                have BE2 := Lib.hid hbe
                clear hok hok' hbe hown hlc
                go_wp2_with fail
                go_ret3
                exact ⟨_, by rw [NX.out]; rfl, by rw [NX.out]; exact RL_nil _, BE2.out⟩
            · have hni : (i : Int) < (s.size : Int) := by omega
              have hb10 : (((s[i]).toNat : Int) != 10) = false := by rw [BA.out i hie] at hb; rw [hb]; rfl
              clear hb
              go_wp2_with fail
              rw [extract_seg]
              have hql : (seg s.data.toList f i).length ≤ 1048576 := by rw [seg_len _ _ _ (by have := HLN.out; omega)]; omega
              generalize seg s.data.toList f i = q at *
              try clear hb10
              try clear hix
              try clear h13f
              try clear hni
              try clear hfn
              try clear hfi
              by_cases hok : okLine q = true
              · refine (WO.out ⟨q.toArray⟩ wr (by rw [sz]; omega) hok).mono ?_
                rintro e w2 ⟨v, rfl, rs, hb2, hvb⟩
                replace rs : RS w2 v (wds q) := rs
                obtain ⟨pv, cv, rfl, _⟩ := rs.out
                have BE2 := Lib.hid (hbe.trans (hb2.mono hbe.size))
                have own2 := own_below1 hown hb2
                have LC2 := Lib.hid (hlc.below hb2)
                have OB : Hid (∀ k, (Value.slice pv (wds q).length cv).ownBlock = some k → u5.ownBlock ≠ some k ∧ (wds q ≠ [] → k < w2.heap.size)) := Lib.hid (fun k hk => ⟨fun e => by have := own_lt1 hown k e; have := hvb k hk; omega, fun hl => RG.lt rs k hk (by simpa using hl)⟩)
                have RSV := Lib.hid rs
                have HOK := Lib.hid hok
                have HNO := Lib.hid hnoi
                clear rs hown hlc hbe hvb hb2 hok hnoi
                by_cases hw : wds q = []
                · have NX := Lib.hid (STQ.out.2.1 HOK.out hw)
                  have hwl : (wds q).length = 0 := by rw [hw]; rfl
                  rw [hwl]
                  clear hw hwl RSV OB
                  go_wp2_with fail
                  go_roundw
                  case rel => exact ⟨i2, i2, no + 1, o, cs, by go_num, by rw [HI2.out]; go_num, by rw [HI2.out]; go_num, hile3, by omega, hnoi2, ho, own2, LC2.out, BE2.out, NX⟩
                  case measure => show s.size + 1 - ((i : Int) + 1).toNat < s.size + 1 - ((i : Int)).toNat; omega
                · have hwl : 0 < (wds q).length := by cases h : wds q with | nil => exact absurd h hw | cons a t => simp
                  have hwl2 : (((wds q).length : Int) == 0) = false := by rw [beq_eq_false_iff_ne]; omega
                  obtain ⟨pa, ca, rfl⟩ := own_form1 own2
                  by_cases h4 : o.length = 4096
                  · have NX := Lib.hid (STQ.out.2.2.1 HOK.out hw h4)
                    have h4' : ((o.length : Int) == 4096) = true := by rw [h4]; rfl
                    clear h4 hw
                    go_wp2_with fail
                    go_ret3
                    exact ⟨_, by rw [NX.out]; rfl, by rw [NX.out]; exact RL_nil _, BE2.out⟩
                  · have NX := Lib.hid (STQ.out.2.2.2 HOK.out hw h4)
                    have h4' : ((o.length : Int) == 4096) = false := by rw [beq_eq_false_iff_ne]; omega
                    have HW := Lib.hid hw
                    have hlt4 : o.length < 4096 := by omega
                    clear h4 hw
                    have hb2s := BE2.out.size
                    have LS := Lib.hid (LC.snoc (no := no + 1) RSV.out (fun k hk => ⟨(OB.out k hk).1, (OB.out k hk).2 HW.out⟩) LC2.out)
                    have hnc : (((no + 1 : Nat)) : Int) = (no : Int) + 1 := by omega
                    rw [hnc] at LS
                    go_wp2_with (at_builtin; refine appendN2 (W := W) rfl _ _ 27 rfl W.heap.size 69 i0 _ 2 32 Tryd.underlying27 hi hz0 hz1 hz2 rfl (by decide) _ _ _ rfl own2 _ [.int .i64 ((no : Int) + 1), .slice pv (wds q).length cv] _ rfl rfl rfl (by intro u hu; simp at hu; rcases hu with rfl | rfl <;> rfl) (by unfold maxLen; omega) (by omega) hb2s BE2.out ?_; intro v' w3 hown3 hbe3 hgr)
                    go_roundw
                    case rel => exact ⟨i2, i2, no + 1, o ++ [(no + 1, wds q)], _, by go_num, by rw [HI2.out]; go_num, by rw [HI2.out]; go_num, hile3, by omega, hnoi2, by simp; omega, by rw [List.length_append]; exact hown3, LS.out.grew hgr, hbe3, NX⟩
                    case measure => show s.size + 1 - ((i : Int) + 1).toNat < s.size + 1 - ((i : Int)).toNat; omega
              · have hok' : okLine q = false := by simpa using hok
                have NX := Lib.hid (STQ.out.1 hok')
                refine (WB.out ⟨q.toArray⟩ wr (by rw [sz]; omega) hok').mono ?_
                rintro e w' ⟨rfl, rfl⟩
                have BE2 := Lib.hid hbe
                clear hok hok' hbe hown hlc
                go_wp2_with fail
                go_ret3
                exact ⟨_, by rw [NX.out]; rfl, by rw [NX.out]; exact RL_nil _, BE2.out⟩
        · have hfn : ¬ (f : Int) < (i : Int) := by omega
          have STQ := Lib.hid (STEP.out _ (TRN.out (fun h => hf h.1)))
          clear TRY TRN STEP HIX N13 hf
          rcases hend with hie | ⟨hie, hb⟩
          · have hni : ¬ (i : Int) < (s.size : Int) := by omega
            clear hie
            go_wp2_with fail
            rw [extract_seg]
            have hql : (seg s.data.toList f i).length ≤ 1048576 := by rw [seg_len _ _ _ (by have := HLN.out; omega)]; omega
            generalize seg s.data.toList f i = q at *
            try clear hb10
            try clear hix
            try clear h13f
            try clear hni
            try clear hfn
            try clear hfi
            by_cases hok : okLine q = true
            · refine (WO.out ⟨q.toArray⟩ wr (by rw [sz]; omega) hok).mono ?_
              rintro e w2 ⟨v, rfl, rs, hb2, hvb⟩
              replace rs : RS w2 v (wds q) := rs
              obtain ⟨pv, cv, rfl, _⟩ := rs.out
              have BE2 := Lib.hid (hbe.trans (hb2.mono hbe.size))
              have own2 := own_below1 hown hb2
              have LC2 := Lib.hid (hlc.below hb2)
              have OB : Hid (∀ k, (Value.slice pv (wds q).length cv).ownBlock = some k → u5.ownBlock ≠ some k ∧ (wds q ≠ [] → k < w2.heap.size)) := Lib.hid (fun k hk => ⟨fun e => by have := own_lt1 hown k e; have := hvb k hk; omega, fun hl => RG.lt rs k hk (by simpa using hl)⟩)
              have RSV := Lib.hid rs
              have HOK := Lib.hid hok
              have HNO := Lib.hid hnoi
              clear rs hown hlc hbe hvb hb2 hok hnoi
              by_cases hw : wds q = []
              · have NX := Lib.hid (STQ.out.2.1 HOK.out hw)
                have hwl : (wds q).length = 0 := by rw [hw]; rfl
                rw [hwl]
                clear hw hwl RSV OB
                go_wp2_with fail
                go_roundw
                case rel => exact ⟨i2, i2, no + 1, o, cs, by go_num, by rw [HI2.out]; go_num, by rw [HI2.out]; go_num, hile3, by omega, hnoi2, ho, own2, LC2.out, BE2.out, NX⟩
                case measure => show s.size + 1 - ((i : Int) + 1).toNat < s.size + 1 - ((i : Int)).toNat; omega
              · have hwl : 0 < (wds q).length := by cases h : wds q with | nil => exact absurd h hw | cons a t => simp
                have hwl2 : (((wds q).length : Int) == 0) = false := by rw [beq_eq_false_iff_ne]; omega
                obtain ⟨pa, ca, rfl⟩ := own_form1 own2
                by_cases h4 : o.length = 4096
                · have NX := Lib.hid (STQ.out.2.2.1 HOK.out hw h4)
                  have h4' : ((o.length : Int) == 4096) = true := by rw [h4]; rfl
                  clear h4 hw
                  go_wp2_with fail
                  go_ret3
                  exact ⟨_, by rw [NX.out]; rfl, by rw [NX.out]; exact RL_nil _, BE2.out⟩
                · have NX := Lib.hid (STQ.out.2.2.2 HOK.out hw h4)
                  have h4' : ((o.length : Int) == 4096) = false := by rw [beq_eq_false_iff_ne]; omega
                  have HW := Lib.hid hw
                  have hlt4 : o.length < 4096 := by omega
                  clear h4 hw
                  have hb2s := BE2.out.size
                  have LS := Lib.hid (LC.snoc (no := no + 1) RSV.out (fun k hk => ⟨(OB.out k hk).1, (OB.out k hk).2 HW.out⟩) LC2.out)
                  have hnc : (((no + 1 : Nat)) : Int) = (no : Int) + 1 := by omega
                  rw [hnc] at LS
                  go_wp2_with (at_builtin; refine appendN2 (W := W) rfl _ _ 27 rfl W.heap.size 69 i0 _ 2 32 Tryd.underlying27 hi hz0 hz1 hz2 rfl (by decide) _ _ _ rfl own2 _ [.int .i64 ((no : Int) + 1), .slice pv (wds q).length cv] _ rfl rfl rfl (by intro u hu; simp at hu; rcases hu with rfl | rfl <;> rfl) (by unfold maxLen; omega) (by omega) hb2s BE2.out ?_; intro v' w3 hown3 hbe3 hgr)
                  go_roundw
                  case rel => exact ⟨i2, i2, no + 1, o ++ [(no + 1, wds q)], _, by go_num, by rw [HI2.out]; go_num, by rw [HI2.out]; go_num, hile3, by omega, hnoi2, by simp; omega, by rw [List.length_append]; exact hown3, LS.out.grew hgr, hbe3, NX⟩
                  case measure => show s.size + 1 - ((i : Int) + 1).toNat < s.size + 1 - ((i : Int)).toNat; omega
            · have hok' : okLine q = false := by simpa using hok
              have NX := Lib.hid (STQ.out.1 hok')
              refine (WB.out ⟨q.toArray⟩ wr (by rw [sz]; omega) hok').mono ?_
              rintro e w' ⟨rfl, rfl⟩
              have BE2 := Lib.hid hbe
              clear hok hok' hbe hown hlc
              go_wp2_with fail
              go_ret3
              exact ⟨_, by rw [NX.out]; rfl, by rw [NX.out]; exact RL_nil _, BE2.out⟩
          · have hni : (i : Int) < (s.size : Int) := by omega
            have hb10 : (((s[i]).toNat : Int) != 10) = false := by rw [BA.out i hie] at hb; rw [hb]; rfl
            clear hb
            go_wp2_with fail
            rw [extract_seg]
            have hql : (seg s.data.toList f i).length ≤ 1048576 := by rw [seg_len _ _ _ (by have := HLN.out; omega)]; omega
            generalize seg s.data.toList f i = q at *
            try clear hb10
            try clear hix
            try clear h13f
            try clear hni
            try clear hfn
            try clear hfi
            by_cases hok : okLine q = true
            · refine (WO.out ⟨q.toArray⟩ wr (by rw [sz]; omega) hok).mono ?_
              rintro e w2 ⟨v, rfl, rs, hb2, hvb⟩
              replace rs : RS w2 v (wds q) := rs
              obtain ⟨pv, cv, rfl, _⟩ := rs.out
              have BE2 := Lib.hid (hbe.trans (hb2.mono hbe.size))
              have own2 := own_below1 hown hb2
              have LC2 := Lib.hid (hlc.below hb2)
              have OB : Hid (∀ k, (Value.slice pv (wds q).length cv).ownBlock = some k → u5.ownBlock ≠ some k ∧ (wds q ≠ [] → k < w2.heap.size)) := Lib.hid (fun k hk => ⟨fun e => by have := own_lt1 hown k e; have := hvb k hk; omega, fun hl => RG.lt rs k hk (by simpa using hl)⟩)
              have RSV := Lib.hid rs
              have HOK := Lib.hid hok
              have HNO := Lib.hid hnoi
              clear rs hown hlc hbe hvb hb2 hok hnoi
              by_cases hw : wds q = []
              · have NX := Lib.hid (STQ.out.2.1 HOK.out hw)
                have hwl : (wds q).length = 0 := by rw [hw]; rfl
                rw [hwl]
                clear hw hwl RSV OB
                go_wp2_with fail
                go_roundw
                case rel => exact ⟨i2, i2, no + 1, o, cs, by go_num, by rw [HI2.out]; go_num, by rw [HI2.out]; go_num, hile3, by omega, hnoi2, ho, own2, LC2.out, BE2.out, NX⟩
                case measure => show s.size + 1 - ((i : Int) + 1).toNat < s.size + 1 - ((i : Int)).toNat; omega
              · have hwl : 0 < (wds q).length := by cases h : wds q with | nil => exact absurd h hw | cons a t => simp
                have hwl2 : (((wds q).length : Int) == 0) = false := by rw [beq_eq_false_iff_ne]; omega
                obtain ⟨pa, ca, rfl⟩ := own_form1 own2
                by_cases h4 : o.length = 4096
                · have NX := Lib.hid (STQ.out.2.2.1 HOK.out hw h4)
                  have h4' : ((o.length : Int) == 4096) = true := by rw [h4]; rfl
                  clear h4 hw
                  go_wp2_with fail
                  go_ret3
                  exact ⟨_, by rw [NX.out]; rfl, by rw [NX.out]; exact RL_nil _, BE2.out⟩
                · have NX := Lib.hid (STQ.out.2.2.2 HOK.out hw h4)
                  have h4' : ((o.length : Int) == 4096) = false := by rw [beq_eq_false_iff_ne]; omega
                  have HW := Lib.hid hw
                  have hlt4 : o.length < 4096 := by omega
                  clear h4 hw
                  have hb2s := BE2.out.size
                  have LS := Lib.hid (LC.snoc (no := no + 1) RSV.out (fun k hk => ⟨(OB.out k hk).1, (OB.out k hk).2 HW.out⟩) LC2.out)
                  have hnc : (((no + 1 : Nat)) : Int) = (no : Int) + 1 := by omega
                  rw [hnc] at LS
                  go_wp2_with (at_builtin; refine appendN2 (W := W) rfl _ _ 27 rfl W.heap.size 69 i0 _ 2 32 Tryd.underlying27 hi hz0 hz1 hz2 rfl (by decide) _ _ _ rfl own2 _ [.int .i64 ((no : Int) + 1), .slice pv (wds q).length cv] _ rfl rfl rfl (by intro u hu; simp at hu; rcases hu with rfl | rfl <;> rfl) (by unfold maxLen; omega) (by omega) hb2s BE2.out ?_; intro v' w3 hown3 hbe3 hgr)
                  go_roundw
                  case rel => exact ⟨i2, i2, no + 1, o ++ [(no + 1, wds q)], _, by go_num, by rw [HI2.out]; go_num, by rw [HI2.out]; go_num, hile3, by omega, hnoi2, by simp; omega, by rw [List.length_append]; exact hown3, LS.out.grew hgr, hbe3, NX⟩
                  case measure => show s.size + 1 - ((i : Int) + 1).toNat < s.size + 1 - ((i : Int)).toNat; omega
            · have hok' : okLine q = false := by simpa using hok
              have NX := Lib.hid (STQ.out.1 hok')
              refine (WB.out ⟨q.toArray⟩ wr (by rw [sz]; omega) hok').mono ?_
              rintro e w' ⟨rfl, rfl⟩
              have BE2 := Lib.hid hbe
              clear hok hok' hbe hown hlc
              go_wp2_with fail
              go_ret3
              exact ⟨_, by rw [NX.out]; rfl, by rw [NX.out]; exact RL_nil _, BE2.out⟩

/-- titheref24.Lines at every text. -/
theorem rlines_any (l : List UInt8) (W : World) (h : l.length ≤ 140737488355328) :
    Calls Tryd.prog 10 #[str l] W fun e w' => ∃ v, e = .returned (.tuple #[v, .int .i64 ((linesOf l).2.1 : Nat), .int .i64 (linesOf l).2.2]) ∧ RL w' v (linesOf l).1 ∧ Below W.heap.size W w' := by
  by_cases hl : 1048576 < l.length
  · refine (rlines_long l W hl h).mono ?_
    rintro e w' ⟨rfl, rfl⟩
    have : linesOf l = ([], 0, 3) := by unfold linesOf; rw [if_pos hl]
    rw [this]
    exact ⟨_, rfl, RL_nil _, Below.refl _ _⟩
  · exact rlines_short ⟨l.toArray⟩ W (by rw [sz]; omega)
end Go.Proofs.YtdcnlgjngfmbcaaDoor
