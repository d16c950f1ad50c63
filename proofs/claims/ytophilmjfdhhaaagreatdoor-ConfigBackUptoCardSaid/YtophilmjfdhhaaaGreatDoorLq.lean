/- Plain lists of bytes: pieces at a byte; the lines of a text. No program in sight. -/
import Derived.Test.YtophilmjfdhhaaaGreatDoorLp
import Derived.Lib.IndexMore
import Derived.Lib.Strings
namespace Go.Proofs.YtophilmjfdhhaaaGreatDoor
open Go

/-- The piece ahead of the first such byte; what stands behind it, if there is one. -/
def cutAt (c : UInt8) : List UInt8 → List UInt8 × Option (List UInt8)
  | [] => ([], none)
  | b :: t => if b == c then ([], some t) else (b :: (cutAt c t).1, (cutAt c t).2)
/-- All pieces. -/
def splitC (c : UInt8) : List UInt8 → List UInt8 → List (List UInt8)
  | cur, [] => [cur]
  | cur, b :: t => if b == c then cur :: splitC c [] t else splitC c (cur ++ [b]) t
theorem splitC_cut (c : UInt8) (s : List UInt8) : ∀ cur, splitC c cur s = match (cutAt c s).2 with | none => [cur ++ (cutAt c s).1] | some r => (cur ++ (cutAt c s).1) :: splitC c [] r := by
  induction s with
  | nil => intro cur; simp [splitC, cutAt]
  | cons b t ih =>
    intro cur
    rw [show splitC c cur (b :: t) = if b == c then cur :: splitC c [] t else splitC c (cur ++ [b]) t from rfl, show cutAt c (b :: t) = if b == c then ([], some t) else (b :: (cutAt c t).1, (cutAt c t).2) from rfl]
    cases hb : b == c with
    | true => simp
    | false =>
      simp only [Bool.false_eq_true, if_false]
      rw [ih]
      simp only [List.append_assoc, List.cons_append, List.nil_append]
theorem cut_cutAt (c : UInt8) (s : List UInt8) : Lib.cut s [c] = ((cutAt c s).1, (cutAt c s).2.getD [], (cutAt c s).2.isSome) := by
  induction s with
  | nil => simp [Lib.cut, Lib.index, cutAt]
  | cons b t ih =>
    unfold cutAt
    have hp : List.isPrefixOf [c] (b :: t) = (c == b) := by simp [List.isPrefixOf]
    cases hb : b == c with
    | true =>
      have e : b = c := by simpa using hb
      subst e
      have hi : Lib.index (b :: t) [b] = 0 := by rw [Lib.index, hp]; simp
      simp [Lib.cut, hi]
    | false =>
      have hcb : (c == b) = false := by rw [beq_eq_false_iff_ne] at hb ⊢; exact fun e => hb e.symm
      have hi : Lib.index (b :: t) [c] = if Lib.index t [c] == -1 then -1 else Lib.index t [c] + 1 := by rw [Lib.index, hp, hcb]; simp
      have hge := Lib.index_ge t [c]
      simp only [Bool.false_eq_true, if_false]
      unfold Lib.cut at ih ⊢
      by_cases h : 0 ≤ Lib.index t [c]
      · rw [if_pos h] at ih
        have hi' : Lib.index (b :: t) [c] = Lib.index t [c] + 1 := by
          rw [hi, if_neg (by simp; omega)]
        rw [if_pos (by omega), hi']
        obtain ⟨j, hj⟩ : ∃ j : Nat, Lib.index t [c] = j := ⟨(Lib.index t [c]).toNat, by omega⟩
        rw [hj] at ih ⊢
        rw [show ((j : Int) + 1).toNat = j + 1 by omega]
        simp only [Int.toNat_natCast, List.length_cons, List.length_nil, Prod.mk.injEq] at ih ⊢
        refine ⟨by rw [List.take_succ_cons, ih.1], ?_, ih.2.2⟩
        rw [← ih.2.1, show j + 1 + (0 + 1) = (j + (0 + 1)) + 1 by omega, List.drop_succ_cons]
      · rw [if_neg h] at ih
        have hm : Lib.index t [c] = -1 := by omega
        rw [if_neg (by rw [hi, hm]; simp)]
        simp only [Prod.mk.injEq] at ih ⊢
        exact ⟨by rw [← ih.1], ih.2.1, ih.2.2⟩
theorem cutAt_len (c : UInt8) (s : List UInt8) : (cutAt c s).1.length ≤ s.length ∧ ∀ r, (cutAt c s).2 = some r → r.length < s.length := by
  induction s with
  | nil => simp [cutAt]
  | cons b t ih =>
    unfold cutAt
    split
    · simp
    · refine ⟨by simp; exact ih.1, fun r h => by have := ih.2 r h; simp; omega⟩

/-- A line without the return ahead of its end. -/
def trimCR (s : List UInt8) : List UInt8 := if s.getLast? = some 13 then s.dropLast else s
theorem trimCR_suffix (s : List UInt8) : Lib.trimSuffix s [13] = trimCR s := by
  unfold Lib.trimSuffix Lib.hasSuffix trimCR
  have e : List.isSuffixOf [13] s = decide (s.getLast? = some 13) := by
    rw [Bool.eq_iff_iff, List.isSuffixOf_iff_suffix, decide_eq_true_eq, List.singleton_suffix_iff_getLast?_eq_some]
  rw [e]
  by_cases h : s.getLast? = some 13
  · rw [if_pos (by simpa using h), if_pos h, List.dropLast_eq_take]
    simp
  · rw [if_neg (by simpa using h), if_neg h]
theorem trimCR_len (s : List UInt8) : (trimCR s).length ≤ s.length := by
  unfold trimCR; split <;> simp

/-- A line that has words: its number, the words. -/
abbrev LnS := Nat × List (List UInt8)
/-- The lines of pieces, the first of them numbered no, behind those in o: the lines, the bad line's number, the error's. -/
def linesGo : List (List UInt8) → Nat → List LnS → List LnS × Nat × Int
  | [], _, o => (o, 0, 0)
  | s :: r, no, o =>
    if okLine (trimCR s) = false then ([], no, 240)
    else if wds (trimCR s) = [] then linesGo r (no + 1) o
    else if o.length = 4096 then ([], no, 3)
    else linesGo r (no + 1) (o ++ [(no, wds (trimCR s))])
/-- The lines of a text. -/
def linesOf (s : List UInt8) : List LnS × Nat × Int := if 1048576 < s.length then ([], 0, 3) else linesGo (splitC 10 [] s) 1 []
theorem linesGo_nil (no : Nat) (o : List LnS) : linesGo [[]] no o = (o, 0, 0) := by
  unfold linesGo
  rw [if_neg (by decide), if_pos (by decide)]
  rfl
/-- One step, by the first piece. -/
theorem linesGo_bad {s : List UInt8} {r : List (List UInt8)} {no : Nat} {o : List LnS} (h : okLine (trimCR s) = false) : linesGo (s :: r) no o = ([], no, 240) := by
  rw [linesGo, if_pos h]
theorem linesGo_skip {s : List UInt8} {r : List (List UInt8)} {no : Nat} {o : List LnS} (h : okLine (trimCR s) = true) (hw : wds (trimCR s) = []) : linesGo (s :: r) no o = linesGo r (no + 1) o := by
  rw [linesGo, if_neg (by simp [h]), if_pos hw]
theorem linesGo_long {s : List UInt8} {r : List (List UInt8)} {no : Nat} {o : List LnS} (h : okLine (trimCR s) = true) (hw : wds (trimCR s) ≠ []) (ho : o.length = 4096) : linesGo (s :: r) no o = ([], no, 3) := by
  rw [linesGo, if_neg (by simp [h]), if_neg hw, if_pos ho]
theorem linesGo_take {s : List UInt8} {r : List (List UInt8)} {no : Nat} {o : List LnS} (h : okLine (trimCR s) = true) (hw : wds (trimCR s) ≠ []) (ho : o.length ≠ 4096) : linesGo (s :: r) no o = linesGo r (no + 1) (o ++ [(no, wds (trimCR s))]) := by
  rw [linesGo, if_neg (by simp [h]), if_neg hw, if_neg ho]
end Go.Proofs.YtophilmjfdhhaaaGreatDoor
