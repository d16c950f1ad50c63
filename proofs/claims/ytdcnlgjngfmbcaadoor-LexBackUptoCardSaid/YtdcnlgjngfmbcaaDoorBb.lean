/- Plain lists: lines of words, joined, are read as these words, by their numbers. -/
import Derived.Test.YtdcnlgjngfmbcaaDoorBa
import Derived.Test.YtdcnlgjngfmbcaaDoorNs
namespace Go.Proofs.YtdcnlgjngfmbcaaDoor
open Go
set_option linter.unusedVariables false

/-- A word that may stand in a line. -/
def okW (w : List UInt8) : Prop := w ≠ [] ∧ w.head? ≠ some 35 ∧ ∀ b ∈ w, pl b = true
theorem pl_bl {b : UInt8} (h : pl b = true) : bl b = false := by
  unfold pl at h
  simp only [Bool.and_eq_true, decide_eq_true_eq] at h
  unfold bl
  rw [Bool.or_eq_false_iff, beq_eq_false_iff_ne, beq_eq_false_iff_ne]
  constructor
  · rintro rfl; exact absurd h.1 (by decide)
  · rintro rfl; exact absurd h.1 (by decide)
theorem okW_of {w : List UInt8} (h : badW w = false) : okW w := by
  unfold badW at h
  rw [Bool.or_eq_false_iff, Bool.or_eq_false_iff] at h
  obtain ⟨⟨h1, h2⟩, h3⟩ := h
  have h1 : w.length ≠ 0 := by simpa using h1
  refine ⟨fun e => h1 (by rw [e]; rfl), ?_, ?_⟩
  · cases w with
    | nil => simp
    | cons a t => simpa using h2
  · intro b hb
    obtain ⟨k, hk, rfl⟩ := List.getElem_of_mem hb
    have h3 : (List.range w.length).all (fun k => plN (w.getD k 0).toNat) = true := by simpa using h3
    rw [List.all_eq_true] at h3
    have := h3 k (List.mem_range.2 hk)
    rw [List.getD, List.getElem?_eq_getElem hk] at this
    exact this
theorem tail_cons (a : List UInt8) (r : List (List UInt8)) : Lib.joinTail [32] (a :: r) = 32 :: (a ++ Lib.joinTail [32] r) := by simp [Lib.joinTail]
theorem okLine_tail : ∀ r : List (List UInt8), (∀ a ∈ r, okW a) → okLine (Lib.joinTail [32] r) = true
  | [], _ => rfl
  | a :: r, h => by
    rw [tail_cons]
    have h1 := okLine_tail r (fun x hx => h x (by simp [hx]))
    have h2 : okLine a = true := by
      unfold okLine
      rw [List.all_eq_true]
      intro b hb
      rw [(h a (by simp)).2.2 b hb]; simp
    rw [show okLine (32 :: (a ++ Lib.joinTail [32] r)) = ((bl 32 || pl 32) && okLine (a ++ Lib.joinTail [32] r)) from rfl, okLine_app, h1, h2]
    decide
theorem okLine_join (l : List (List UInt8)) (h : ∀ a ∈ l, okW a) : okLine (Lib.join l [32]) = true := by
  cases l with
  | nil => rfl
  | cons a r =>
    rw [Lib.join_cons, okLine_app, okLine_tail r (fun x hx => h x (by simp [hx]))]
    have h2 : okLine a = true := by
      unfold okLine
      rw [List.all_eq_true]
      intro b hb
      rw [(h a (by simp)).2.2 b hb]; simp
    rw [h2]; rfl
theorem flds_tail : ∀ (r : List (List UInt8)) (x : List UInt8), okW x → (∀ a ∈ r, okW a) → fldsGo [] (x ++ Lib.joinTail [32] r) = x :: r
  | [], x, hx, _ => by
    rw [fldsGo_word x [] _ (fun b hb => pl_bl (hx.2.2 b hb)), List.nil_append]
    show fldsGo x [] = [x]
    rw [fldsGo_end hx.1 (.inl rfl)]
    rfl
  | a :: r, x, hx, h => by
    rw [fldsGo_word x [] _ (fun b hb => pl_bl (hx.2.2 b hb)), List.nil_append, tail_cons, fldsGo_end hx.1 (.inr ⟨32, _, rfl, by decide⟩), blank_skip _ (by decide),
      flds_tail r a (h a (by simp)) (fun y hy => h y (by simp [hy]))]
theorem wds_join (l : List (List UInt8)) (h : ∀ a ∈ l, okW a) : wds (Lib.join l [32]) = l := by
  cases l with
  | nil => rfl
  | cons a r =>
    unfold wds flds
    rw [Lib.join_cons, flds_tail r a (h a (by simp)) (fun y hy => h y (by simp [hy]))]
    refine takeWhile_full _ _ (fun x hx => ?_)
    unfold noRem
    simpa using (h x hx).2.1
theorem joinS_line (w : List (List UInt8)) : okLine (joinS w).1 = true ∧ ((joinS w).1 ≠ [] → wds (joinS w).1 = w) := by
  unfold joinS
  split
  · exact ⟨rfl, fun h => absurd rfl h⟩
  · rename_i h
    have hw : ∀ a ∈ w, okW a := fun a ha => okW_of (by
      rw [Bool.eq_false_iff]
      intro e
      exact h (List.any_eq_true.2 ⟨a, ha, e⟩))
    split
    · exact ⟨rfl, fun h => absurd rfl h⟩
    · exact ⟨okLine_join w hw, fun _ => wds_join w hw⟩
theorem okLine_no {s : List UInt8} (h : okLine s = true) : (∀ b ∈ s, b ≠ 10) ∧ s.getLast? ≠ some 13 := by
  have hb : ∀ b ∈ s, b ≠ 10 ∧ b ≠ 13 := by
    intro b hb
    have := List.all_eq_true.1 h b hb
    constructor
    · rintro rfl; exact absurd this (by decide)
    · rintro rfl; exact absurd this (by decide)
  exact ⟨fun b h => (hb b h).1, fun e => (hb 13 (List.mem_of_getLast? e)).2 rfl⟩
/-- The text of lines of words. -/
def txtGo : List (List (List UInt8)) → List UInt8
  | [] => []
  | w :: r => (joinS w).1 ++ 10 :: txtGo r
theorem txtGo_snoc (w : List (List UInt8)) : ∀ xs, txtGo (xs ++ [w]) = txtGo xs ++ ((joinS w).1 ++ [10])
  | [] => by simp [txtGo]
  | x :: r => by rw [List.cons_append, txtGo, txtGo_snoc w r, txtGo]; simp
/-- What it is read as. -/
def wantGo : Nat → List (List (List UInt8)) → List LnS
  | _, [] => []
  | no, w :: r => if (joinS w).1 = [] then wantGo (no + 1) r else (no, w) :: wantGo (no + 1) r
theorem wantGo_snoc (w : List (List UInt8)) : ∀ xs no, wantGo no (xs ++ [w]) = wantGo no xs ++ (if (joinS w).1 = [] then [] else [(no + xs.length, w)])
  | [], no => by
    rw [List.nil_append]; unfold wantGo wantGo
    split <;> simp
  | x :: r, no => by
    rw [List.cons_append, wantGo, wantGo, wantGo_snoc w r (no + 1)]
    have e : no + 1 + r.length = no + (x :: r).length := by simp; omega
    rw [e]
    split
    · rfl
    · simp
theorem wantGo_len : ∀ L no, (wantGo no L).length ≤ L.length
  | [], _ => by simp [wantGo]
  | w :: r, no => by
    rw [wantGo]
    have := wantGo_len r (no + 1)
    split <;> simp <;> omega
theorem back_lines : ∀ (L : List (List (List UInt8))) (no : Nat) (o : List LnS), o.length + L.length ≤ 4096 → linesGo (splitC 10 [] (txtGo L)) no o = (o ++ wantGo no L, 0, 0)
  | [], no, o, _ => by
    rw [show splitC 10 [] (txtGo []) = [[]] from rfl, linesGo_nil]
    simp [wantGo]
  | w :: r, no, o, h => by
    simp only [List.length_cons] at h
    obtain ⟨h1, h2⟩ := joinS_line w
    obtain ⟨h3, h4⟩ := okLine_no h1
    rw [txtGo, splitC_line 10 _ [] _ h3, List.nil_append, wantGo]
    have ht : trimCR (joinS w).1 = (joinS w).1 := trimCR_same h4
    by_cases hs : (joinS w).1 = []
    · rw [if_pos hs, linesGo_skip (by rw [ht]; exact h1) (by rw [ht, hs]; rfl)]
      exact back_lines r (no + 1) o (by omega)
    · rw [if_neg hs]
      have hw := h2 hs
      have hwne : w ≠ [] := by
        rintro rfl
        exact hs rfl
      rw [linesGo_take (by rw [ht]; exact h1) (by rw [ht, hw]; exact hwne) (by omega), ht, hw, back_lines r (no + 1) _ (by simp; omega)]
      simp
theorem back_law (L : List (List (List UInt8))) (h : L.length ≤ 200) (ht : (txtGo L).length ≤ 1048576) : linesOf (txtGo L) = (wantGo 1 L, 0, 0) := by
  unfold linesOf
  rw [if_neg (by omega), back_lines L 1 [] (by simp; omega)]
  simp
end Go.Proofs.YtdcnlgjngfmbcaaDoor
