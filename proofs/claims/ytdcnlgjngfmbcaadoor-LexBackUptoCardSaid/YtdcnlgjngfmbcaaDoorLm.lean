/- lex.Lines at every text. -/
import Derived.Test.YtdcnlgjngfmbcaaDoorLl
namespace Go.Proofs.YtdcnlgjngfmbcaaDoor
open Go Go.RowKit Go.Shelf
set_option linter.unusedVariables false
set_option maxRecDepth 100000
set_option maxHeartbeats 1600000

def strLen : Value → Nat
  | .string s => s.size
  | _ => 0
/-- A piece is taken off a text that is not empty. -/
theorem linesGo_cut (t : List UInt8) (no : Nat) (o : List LnS) : linesGo (splitC 10 [] t) no o = match (cutAt 10 t).2 with | none => linesGo [(cutAt 10 t).1] no o | some r => linesGo ((cutAt 10 t).1 :: splitC 10 [] r) no o := by
  rw [splitC_cut]
  cases (cutAt 10 t).2 <;> simp
/-- What is left behind a piece: the same lines. -/
theorem linesGo_rest (t : List UInt8) (no : Nat) (o : List LnS) (R : List LnS × Nat × Int) (hR : R = linesGo (splitC 10 [] t) no o) :
    (okLine (trimCR (cutAt 10 t).1) = false → R = ([], no, 240)) ∧
    (okLine (trimCR (cutAt 10 t).1) = true → wds (trimCR (cutAt 10 t).1) = [] → R = linesGo (splitC 10 [] ((cutAt 10 t).2.getD [])) (no + 1) o) ∧
    (okLine (trimCR (cutAt 10 t).1) = true → wds (trimCR (cutAt 10 t).1) ≠ [] → o.length = 4096 → R = ([], no, 3)) ∧
    (okLine (trimCR (cutAt 10 t).1) = true → wds (trimCR (cutAt 10 t).1) ≠ [] → o.length ≠ 4096 → R = linesGo (splitC 10 [] ((cutAt 10 t).2.getD [])) (no + 1) (o ++ [(no, wds (trimCR (cutAt 10 t).1))])) := by
  rw [linesGo_cut] at hR
  cases h : (cutAt 10 t).2 with
  | none =>
    rw [h] at hR
    simp only [Option.getD_none] at hR ⊢
    have e : ∀ n o', linesGo (splitC 10 [] []) n o' = linesGo [] n o' := fun n o' => linesGo_nil n o'
    refine ⟨fun a => hR.trans (linesGo_bad a), fun a b => (hR.trans (linesGo_skip a b)).trans (e _ _).symm, fun a b c => hR.trans (linesGo_long a b c), fun a b c => (hR.trans (linesGo_take a b c)).trans (e _ _).symm⟩
  | some r =>
    rw [h] at hR
    simp only [Option.getD_some] at hR ⊢
    exact ⟨fun a => hR.trans (linesGo_bad a), fun a b => hR.trans (linesGo_skip a b), fun a b c => hR.trans (linesGo_long a b c), fun a b c => hR.trans (linesGo_take a b c)⟩
theorem cut_rest_len (t : List UInt8) (ht : t ≠ []) : ((cutAt 10 t).2.getD []).length < t.length := by
  have := (cutAt_len 10 t).2
  cases h : (cutAt 10 t).2 with
  | none => simp; cases t with | nil => exact absurd rfl ht | cons a r => simp
  | some r => simpa using this r h

theorem LC.below {w w' : World} {B : Option Nat} {cs : List Value} {o : List LnS} (h : LC w B cs o) (hb : Below w.heap.size w w') : LC w' B cs o :=
  h.move hb.size (fun k hk _ => hb.block k hk) (fun _ _ h => h)
theorem LC.grew {w w' : World} {v v' : Value} {cs : List Value} {o : List LnS} (h : LC w v.ownBlock cs o) (g : Grew w w' v v') : LC w' v'.ownBlock cs o :=
  h.move g.size g.block (fun k hk hn e => (g.own k e).elim hn (fun h => by omega))
theorem lines_short (l : List UInt8) (W : World) (E : Env W) (h : l.length ≤ 1048576) :
    Calls Tryd.prog 9 #[str l] W fun e w' => ∃ v, e = .returned (.tuple #[v, .int .i64 ((linesOf l).2.1 : Nat), errOf (linesOf l).2.2]) ∧ RL w' v (linesOf l).1 ∧ Below W.heap.size W w' := by
  obtain ⟨i0, hi, hz0, hz1, hz2⟩ := info_of1 Tryd.infoLine
  have h1 : ¬ (1048576 : Int) < ((⟨l.toArray⟩ : ByteArray).size : Int) := by rw [sz]; omega
  have hR : linesOf l = linesGo (splitC 10 [] l) 1 [] := by unfold linesOf; rw [if_neg (by omega)]
  generalize linesOf l = R at *
  have HR := Lib.hid hR
  have EE := Lib.hid E
  clear E hR
  go_enter Tryd.func9, Tryd.ntmps9
  go_wp2_with fail
  go_loopw [0, 5, 6] (fun s a i wr => ∃ (t : List UInt8) (o : List LnS) (no : Nat) (cs : List Value), s = str t ∧ i = .int .i64 no ∧ no + t.length ≤ 1048577 ∧ o.length ≤ 4096 ∧ wr.ownsRow W.heap.size 49 2 a o.length cs ∧ LC wr a.ownBlock cs o ∧ Below W.heap.size W wr ∧ Hid (R = linesGo (splitC 10 [] t) no o)) (fun s _ _ _ => strLen s)
  case atStart => exact ⟨l, [], 1, [], rfl, by go_num, by omega, by simp, World.ownsRow_nil _ _ _ _, trivial, Below.refl _ _, HR⟩
  case round =>
    obtain ⟨t, o, no, cs, rfl, rfl, hno, ho, hown, hlc, hbe, hr⟩ := hrel
    have hnob : (no : Int) ≤ 1048577 := by omega
    by_cases ht : t = []
    · subst ht
      have HX : Hid (R = (o, 0, 0)) := Lib.hid (hr.out.trans (linesGo_nil _ _))
      have OW := Lib.hid (RL_own hown hlc).1
      clear hown hlc
      go_wp2_with fail
      go_ret3
      exact ⟨_, by rw [HX.out]; rfl, by rw [HX.out]; exact OW.out, hbe⟩
    · obtain ⟨b, r, hbr⟩ : ∃ b r, t = b :: r := by cases t with | nil => exact absurd rfl ht | cons b r => exact ⟨b, r, rfl⟩
      have htl : t.length ≤ 1048577 := by omega
      have CT := Lib.hid (cut1_c t 10 wr (EE.out.below hbe) (by omega))
      have RS4 := Lib.hid (linesGo_rest t no o R hr.out)
      have CL := cut_rest_len t ht
      have CL2 := (cutAt_len 10 t).1
      have hts : Hid (strLen (str t) = t.length) := Lib.hid (sz t)
      generalize (cutAt 10 t).2.getD [] = rest at *
      generalize (cutAt 10 t).2.isSome = fnd at *
      generalize (cutAt 10 t).1 = p at *
      have TC := Lib.hid (fun W => trim_c p W (by omega))
      have TL := trimCR_len p
      have HRS : Hid (strLen (str rest) = rest.length) := Lib.hid (sz rest)
      generalize trimCR p = q at *
      clear ht hr
      have hne : (⟨(b :: r).toArray⟩ : ByteArray).toList.isEmpty = false := by
        rw [ByteArray.toList_eq]; rfl
      subst hbr
      have WB := Lib.hid (words_bad ⟨q.toArray⟩)
      have WO := Lib.hid (words_ok ⟨q.toArray⟩)
      simp only [sz] at WB WO
      go_wp2_with fail
      refine CT.out.mono ?_
      rintro e w1 ⟨rfl, hb1⟩
      go_wp2_with fail
      refine (TC.out _).mono ?_
      rintro e w' ⟨rfl, rfl⟩
      have be1 := hbe.trans (hb1.mono hbe.size)
      have own1 := own_below1 hown hb1
      have lc1 := hlc.below hb1
      clear hown hlc hbe hb1
      go_wp2_with fail
      by_cases hok : okLine q = true
      · refine (WO.out w1 (by omega) hok).mono ?_
        rintro e w2 ⟨v, rfl, rs, hb2, hvb⟩
        obtain ⟨pv, cv, rfl, _⟩ := rs.out
        have BE2 := Lib.hid (be1.trans (hb2.mono be1.size))
        have own2 := own_below1 own1 hb2
        have LC2 := Lib.hid (lc1.below hb2)
        have OB : Hid (∀ k, (Value.slice pv (wds q).length cv).ownBlock = some k → u5.ownBlock ≠ some k ∧ (wds q ≠ [] → k < w2.heap.size)) := Lib.hid (fun k hk => ⟨fun e => by have := own_lt1 own1 k e; have := hvb k hk; omega, fun hl => RG.lt rs k hk (by simpa using hl)⟩)
        have RSV := Lib.hid rs
        have HOK := Lib.hid hok
        clear rs own1 lc1 be1 hvb hb2 hok
        by_cases hw : wds q = []
        · have NX := Lib.hid (RS4.out.2.1 HOK.out hw)
          have hwl : (wds q).length = 0 := by rw [hw]; rfl
          rw [hwl]
          clear hw hwl RSV OB
          go_wp2_with fail
          go_roundw
          case rel => exact ⟨rest, o, no + 1, cs, rfl, by go_num, by simp at CL htl hno ⊢; omega, ho, own2, LC2.out, BE2.out, NX⟩
          case measure => rw [HRS.out]; have := hts.out; simp at this CL ⊢; omega
        · have hwl : 0 < (wds q).length := by cases h : wds q with | nil => exact absurd h hw | cons a t => simp
          have hwl2 : (0 : Int) < ((wds q).length : Int) := by omega
          obtain ⟨pa, ca, rfl⟩ := own_form1 own2
          by_cases h4 : o.length = 4096
          · have NX := Lib.hid (RS4.out.2.2.1 HOK.out hw h4)
            have h4' : ((o.length : Int) == 4096) = true := by rw [h4]; rfl
            clear h4 hw
            go_wp2_with fail
            go_ret3
            exact ⟨_, by rw [NX.out]; rfl, by rw [NX.out]; exact RL_nil _, BE2.out⟩
          · have NX := Lib.hid (RS4.out.2.2.2 HOK.out hw h4)
            have h4' : ((o.length : Int) == 4096) = false := by rw [beq_eq_false_iff_ne]; omega
            have HW := Lib.hid hw
            have hlt4 : o.length < 4096 := by omega
            clear h4 hw
            have hb2s := BE2.out.size
            have LS := Lib.hid (LC.snoc (no := no) RSV.out (fun k hk => ⟨(OB.out k hk).1, (OB.out k hk).2 HW.out⟩) LC2.out)
            go_wp2_with (at_builtin; refine appendN2 (W := W) rfl _ _ 22 rfl W.heap.size 49 i0 _ 2 32 Tryd.underlying22 hi hz0 hz1 hz2 rfl (by decide) _ _ _ rfl own2 _ [.int .i64 no, .slice pv (wds q).length cv] _ rfl rfl rfl (by intro u hu; simp at hu; rcases hu with rfl | rfl <;> rfl) (by unfold maxLen; omega) (by omega) hb2s BE2.out ?_; intro v' w3 hown3 hbe3 hgr)
            go_roundw
            case rel => exact ⟨rest, o ++ [(no, wds q)], no + 1, _, rfl, by go_num, by simp at CL htl hno ⊢; omega, by simp; omega, by rw [List.length_append]; exact hown3, LS.out.grew hgr, hbe3, NX⟩
            case measure => rw [HRS.out]; have := hts.out; simp at this CL ⊢; omega
      · have hok' : okLine q = false := by simpa using hok
        have NX := Lib.hid (RS4.out.1 hok')
        refine (WB.out w1 (by omega) hok').mono ?_
        rintro e w' ⟨rfl, rfl⟩
        have BE2 := Lib.hid be1
        clear hok hok' be1 own1 lc1
        go_wp2_with fail
        go_ret3
        exact ⟨_, by rw [NX.out]; rfl, by rw [NX.out]; exact RL_nil _, BE2.out⟩

/-- lex.Lines at every text. -/
theorem lines_any (l : List UInt8) (W : World) (E : Env W) (h : l.length ≤ 140737488355328) :
    Calls Tryd.prog 9 #[str l] W fun e w' => ∃ v, e = .returned (.tuple #[v, .int .i64 ((linesOf l).2.1 : Nat), errOf (linesOf l).2.2]) ∧ RL w' v (linesOf l).1 ∧ Below W.heap.size W w' := by
  by_cases hl : 1048576 < l.length
  · refine (lines_long l W hl h).mono ?_
    rintro e w' ⟨rfl, rfl⟩
    have : linesOf l = ([], 0, 3) := by unfold linesOf; rw [if_pos hl]
    rw [this]
    exact ⟨_, rfl, RL_nil _, Below.refl _ _⟩
  · exact lines_short l W E (by omega)
end Go.Proofs.YtdcnlgjngfmbcaaDoor
