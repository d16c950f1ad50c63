/- Plain lists of bytes: blanks more and remarks change no lines. No program in sight. -/
import Derived.Test.YtophilmjfdhhaaaGreatDoorLq
namespace Go.Proofs.YtophilmjfdhhaaaGreatDoor
open Go

/-- A blank becomes three. -/
def wOne (c : UInt8) : List UInt8 := if c = 32 then [9, 32, 32] else [c]
def w1 (s : List UInt8) : List UInt8 := s.flatMap wOne
/-- A remark behind a blank. -/
abbrev moreB : List UInt8 := [32, 35, 109, 111, 114, 101]
/-- What a byte becomes, p being the one ahead of it. -/
def wPiece (p : Option UInt8) (c : UInt8) : List UInt8 := if c = 32 then [9, 32, 32] else if c = 10 ∧ p ≠ some 13 then moreB ++ [10] else [c]
def wideGo : Option UInt8 → List UInt8 → List UInt8
  | _, [] => []
  | p, c :: t => wPiece p c ++ wideGo (some c) t
def lastO (p : Option UInt8) (s : List UInt8) : Option UInt8 := (s.getLast?).or p

theorem lastO_cons (p : Option UInt8) (a : UInt8) (t : List UInt8) : lastO (some a) t = lastO p (a :: t) := by
  unfold lastO
  rw [List.getLast?_cons]
  cases t.getLast? <;> rfl
theorem wideGo_snoc (c : UInt8) : ∀ (xs : List UInt8) (p : Option UInt8), wideGo p (xs ++ [c]) = wideGo p xs ++ wPiece (lastO p xs) c
  | [], p => by simp [wideGo, lastO]
  | a :: t, p => by
    rw [List.cons_append, wideGo, wideGo, wideGo_snoc c t (some a), List.append_assoc]
    rw [lastO_cons p a t]
theorem wPiece_len (p : Option UInt8) (c : UInt8) : (wPiece p c).length ≤ 7 := by
  unfold wPiece; split
  · simp
  · split <;> simp
theorem wideGo_len : ∀ (s : List UInt8) (p : Option UInt8), (wideGo p s).length ≤ 7 * s.length
  | [], _ => by simp [wideGo]
  | c :: t, p => by
    rw [wideGo, List.length_append]
    have := wPiece_len p c
    have := wideGo_len t (some c)
    simp only [List.length_cons]
    omega
theorem wideGo_plain : ∀ (s : List UInt8) (p : Option UInt8), (∀ b ∈ s, b ≠ 10) → wideGo p s = w1 s
  | [], _, _ => rfl
  | c :: t, p, h => by
    have hc : c ≠ 10 := h c (by simp)
    rw [wideGo, wideGo_plain t _ (fun b hb => h b (by simp [hb]))]
    unfold w1
    rw [List.flatMap_cons]
    congr 1
    unfold wPiece wOne
    split
    · rfl
    · rw [if_neg (fun x => hc x.1)]
theorem wideGo_line : ∀ (s : List UInt8) (p : Option UInt8) (r : List UInt8), (∀ b ∈ s, b ≠ 10) → wideGo p (s ++ 10 :: r) = w1 s ++ wPiece (lastO p s) 10 ++ wideGo (some 10) r
  | [], p, r, _ => by simp [wideGo, w1, lastO]
  | c :: t, p, r, h => by
    have hc : c ≠ 10 := h c (by simp)
    rw [List.cons_append, wideGo, wideGo_line t _ r (fun b hb => h b (by simp [hb]))]
    have e1 : w1 (c :: t) = wOne c ++ w1 t := by unfold w1; rw [List.flatMap_cons]
    have e2 : wPiece p c = wOne c := by
      unfold wPiece wOne
      split
      · rfl
      · rw [if_neg (fun x => hc x.1)]
    have e3 : lastO (some c) t = lastO p (c :: t) := lastO_cons p c t
    rw [e1, e2, e3, List.append_assoc, List.append_assoc, List.append_assoc]
theorem splitC_line (c : UInt8) : ∀ (x cur r : List UInt8), (∀ b ∈ x, b ≠ c) → splitC c cur (x ++ c :: r) = (cur ++ x) :: splitC c [] r
  | [], cur, r, _ => by simp [splitC]
  | b :: t, cur, r, h => by
    have hb : (b == c) = false := by rw [beq_eq_false_iff_ne]; exact h b (by simp)
    rw [List.cons_append, splitC, hb, if_neg (by simp), splitC_line c t _ r (fun x hx => h x (by simp [hx]))]
    simp
theorem splitC_last (c : UInt8) : ∀ (x cur : List UInt8), (∀ b ∈ x, b ≠ c) → splitC c cur x = [cur ++ x]
  | [], cur, _ => by simp [splitC]
  | b :: t, cur, h => by
    have hb : (b == c) = false := by rw [beq_eq_false_iff_ne]; exact h b (by simp)
    rw [splitC, hb, if_neg (by simp), splitC_last c t _ (fun x hx => h x (by simp [hx]))]
    simp
/-- A text is a line, or a line ahead of a text. -/
theorem by_line (c : UInt8) : ∀ s : List UInt8, (∀ b ∈ s, b ≠ c) ∨ ∃ x r, s = x ++ c :: r ∧ (∀ b ∈ x, b ≠ c)
  | [] => .inl (by simp)
  | b :: t => by
    by_cases h : b = c
    · subst h; exact .inr ⟨[], t, rfl, by simp⟩
    · rcases by_line c t with h' | ⟨x, r, e, h'⟩
      · exact .inl (fun y hy => by rcases List.mem_cons.1 hy with rfl | hy; exact h; exact h' y hy)
      · exact .inr ⟨b :: x, r, by rw [e]; rfl, fun y hy => by rcases List.mem_cons.1 hy with rfl | hy; exact h; exact h' y hy⟩
theorem w1_ne10 (s : List UInt8) (h : ∀ b ∈ s, b ≠ 10) : ∀ b ∈ w1 s, b ≠ 10 := by
  intro b hb
  unfold w1 at hb
  obtain ⟨c, hc, hb⟩ := List.mem_flatMap.1 hb
  unfold wOne at hb
  split at hb
  · simp at hb; rcases hb with rfl | rfl | rfl <;> decide
  · simp at hb; subst hb; exact h _ hc

theorem okLine_app (a b : List UInt8) : okLine (a ++ b) = (okLine a && okLine b) := by unfold okLine; rw [List.all_append]
theorem okLine_w1 : ∀ s : List UInt8, okLine (w1 s) = okLine s
  | [] => rfl
  | c :: t => by
    have e1 : w1 (c :: t) = wOne c ++ w1 t := by unfold w1; rw [List.flatMap_cons]
    have e2 : okLine (c :: t) = ((bl c || pl c) && okLine t) := rfl
    rw [e1, okLine_app, okLine_w1 t, e2]
    congr 1
    unfold wOne
    split
    · rename_i h; subst h; decide
    · simp [okLine]
theorem fldsGo_w1 : ∀ (s cur : List UInt8), fldsGo cur (w1 s) = fldsGo cur s
  | [], cur => rfl
  | c :: t, cur => by
    have e1 : w1 (c :: t) = wOne c ++ w1 t := by unfold w1; rw [List.flatMap_cons]
    rw [e1]
    unfold wOne
    split
    · rename_i h
      subst h
      have b9 : bl 9 = true := by decide
      have b32 : bl 32 = true := by decide
      have e : fldsGo [] (32 :: 32 :: w1 t) = fldsGo [] t := by rw [blank_skip _ b32, blank_skip _ b32, fldsGo_w1 t []]
      show fldsGo cur (9 :: (32 :: 32 :: w1 t)) = fldsGo cur (32 :: t)
      rw [show fldsGo cur (9 :: (32 :: 32 :: w1 t)) = if bl 9 then (if cur.isEmpty then fldsGo [] (32 :: 32 :: w1 t) else cur :: fldsGo [] (32 :: 32 :: w1 t)) else fldsGo (cur ++ [9]) (32 :: 32 :: w1 t) from rfl,
        show fldsGo cur (32 :: t) = if bl 32 then (if cur.isEmpty then fldsGo [] t else cur :: fldsGo [] t) else fldsGo (cur ++ [32]) t from rfl, b9, b32, e]
      simp only [if_true]
    · show fldsGo cur (c :: w1 t) = fldsGo cur (c :: t)
      rw [show fldsGo cur (c :: w1 t) = if bl c then (if cur.isEmpty then fldsGo [] (w1 t) else cur :: fldsGo [] (w1 t)) else fldsGo (cur ++ [c]) (w1 t) from rfl,
        show fldsGo cur (c :: t) = if bl c then (if cur.isEmpty then fldsGo [] t else cur :: fldsGo [] t) else fldsGo (cur ++ [c]) t from rfl, fldsGo_w1 t [], fldsGo_w1 t (cur ++ [c])]
theorem wds_w1 (s : List UInt8) : wds (w1 s) = wds s := by unfold wds flds; rw [fldsGo_w1]
theorem fldsGo_sep {b : UInt8} (hb : bl b = true) (y : List UInt8) : ∀ (x cur : List UInt8), fldsGo cur (x ++ b :: y) = fldsGo cur x ++ fldsGo [] y
  | [], cur => by
    rw [List.nil_append, show fldsGo cur (b :: y) = if bl b then (if cur.isEmpty then fldsGo [] y else cur :: fldsGo [] y) else fldsGo (cur ++ [b]) y from rfl, hb,
      show fldsGo cur [] = if cur.isEmpty then [] else [cur] from rfl]
    simp only [if_true]
    split <;> rfl
  | c :: t, cur => by
    rw [List.cons_append, show fldsGo cur (c :: (t ++ b :: y)) = if bl c then (if cur.isEmpty then fldsGo [] (t ++ b :: y) else cur :: fldsGo [] (t ++ b :: y)) else fldsGo (cur ++ [c]) (t ++ b :: y) from rfl,
      show fldsGo cur (c :: t) = if bl c then (if cur.isEmpty then fldsGo [] t else cur :: fldsGo [] t) else fldsGo (cur ++ [c]) t from rfl, fldsGo_sep hb y t [], fldsGo_sep hb y t (cur ++ [c])]
    split
    · split <;> rfl
    · rfl
theorem takeWhile_off {α : Type} (p : α → Bool) (r : α) (hr : p r = false) : ∀ l : List α, (l ++ [r]).takeWhile p = l.takeWhile p
  | [] => by simp [hr]
  | a :: t => by
    rw [List.cons_append, List.takeWhile_cons, List.takeWhile_cons, takeWhile_off p r hr t]
theorem wds_more (x : List UInt8) : wds (x ++ moreB) = wds x := by
  unfold wds flds
  rw [show moreB = 32 :: [35, 109, 111, 114, 101] from rfl, fldsGo_sep (by decide) _ x [], show fldsGo [] [35, 109, 111, 114, 101] = [[35, 109, 111, 114, 101]] by decide]
  exact takeWhile_off _ _ (by decide) _
theorem okLine_more (x : List UInt8) : okLine (x ++ moreB) = okLine x := by rw [okLine_app]; rw [show okLine moreB = true by decide]; simp
theorem trimCR_snoc (x : List UInt8) (c : UInt8) : trimCR (x ++ [c]) = if c = 13 then x else x ++ [c] := by
  unfold trimCR
  by_cases h : c = 13
  · subst h; simp
  · rw [if_neg h, if_neg (by simp [h])]
theorem trimCR_same {x : List UInt8} (h : x.getLast? ≠ some 13) : trimCR x = x := if_neg h
theorem trimCR_more (x : List UInt8) : trimCR (x ++ moreB) = x ++ moreB := by
  have e : x ++ moreB = (x ++ [32, 35, 109, 111, 114]) ++ [101] := by simp
  rw [e, trimCR_snoc, if_neg (by decide)]
theorem snoc_of (s : List UInt8) : s = [] ∨ ∃ x c, s = x ++ [c] := by
  rcases List.eq_nil_or_concat s with h | ⟨x, c, h⟩
  · exact .inl h
  · exact .inr ⟨x, c, by simpa using h⟩
theorem trimCR_w1 (s : List UInt8) : trimCR (w1 s) = w1 (trimCR s) := by
  rcases snoc_of s with rfl | ⟨x, c, rfl⟩
  · rfl
  · have e : w1 (x ++ [c]) = w1 x ++ wOne c := by simp [w1]
    rw [e, trimCR_snoc]
    unfold wOne
    by_cases h32 : c = 32
    · subst h32
      rw [if_pos rfl, if_neg (by decide), show w1 x ++ [9, 32, 32] = (w1 x ++ [9, 32]) ++ [32] by simp, trimCR_snoc, if_neg (by decide)]
      simp [w1, wOne]
    · rw [if_neg h32, trimCR_snoc]
      split
      · rfl
      · rw [e, wOne, if_neg h32]

/-- Pieces that are alike in what they hold: the same lines. -/
theorem linesGo_same {s s' : List UInt8} {r r' : List (List UInt8)} (h1 : okLine (trimCR s) = okLine (trimCR s')) (h2 : wds (trimCR s) = wds (trimCR s')) (h : ∀ no o, linesGo r no o = linesGo r' no o) (no : Nat) (o : List LnS) : linesGo (s :: r) no o = linesGo (s' :: r') no o := by
  rw [linesGo, linesGo, h1, h2, h, h]
theorem wide_lines : ∀ (n : Nat) (s : List UInt8) (p : Option UInt8), s.length ≤ n → p ≠ some 13 → ∀ no o, linesGo (splitC 10 [] (wideGo p s)) no o = linesGo (splitC 10 [] s) no o := by
  intro n
  induction n with
  | zero =>
    intro s p hs hp no o
    obtain rfl : s = [] := List.eq_nil_of_length_eq_zero (by omega)
    rfl
  | succ n ih =>
    intro s p hs hp no o
    rcases by_line 10 s with h | ⟨x, r, rfl, hx⟩
    · rw [wideGo_plain s p h, splitC_last 10 _ _ (w1_ne10 s h), splitC_last 10 s _ h, List.nil_append, List.nil_append]
      refine linesGo_same ?_ ?_ (fun _ _ => rfl) no o
      · rw [trimCR_w1, okLine_w1]
      · rw [trimCR_w1, wds_w1]
    · have hr : r.length ≤ n := by simp at hs; omega
      rw [wideGo_line x p r hx, splitC_line 10 x [] r hx, List.nil_append]
      have hl : lastO p x = some 13 ↔ x.getLast? = some 13 := by
        unfold lastO
        cases h : x.getLast? with
        | none => simp [hp]
        | some c => simp
      by_cases h13 : x.getLast? = some 13
      · have e : wPiece (lastO p x) 10 = [10] := by
          unfold wPiece
          rw [if_neg (by decide), if_neg (fun h => h.2 (hl.2 h13))]
        rw [e, List.append_assoc, List.singleton_append, splitC_line 10 _ _ _ (w1_ne10 x hx), List.nil_append]
        refine linesGo_same ?_ ?_ (fun no o => ih r (some 10) hr (by decide) no o) no o
        · rw [trimCR_w1, okLine_w1]
        · rw [trimCR_w1, wds_w1]
      · have e : wPiece (lastO p x) 10 = moreB ++ [10] := by
          unfold wPiece
          rw [if_neg (by decide), if_pos ⟨rfl, fun h => h13 (hl.1 h)⟩]
        have h10 : ∀ b ∈ w1 x ++ moreB, b ≠ 10 := by
          intro b hb
          rcases List.mem_append.1 hb with h | h
          · exact w1_ne10 x hx b h
          · intro e; subst e; revert h; decide
        rw [e, show w1 x ++ (moreB ++ [10]) ++ wideGo (some 10) r = (w1 x ++ moreB) ++ 10 :: wideGo (some 10) r by simp, splitC_line 10 _ _ _ h10, List.nil_append]
        refine linesGo_same ?_ ?_ (fun no o => ih r (some 10) hr (by decide) no o) no o
        · rw [trimCR_more, okLine_more, okLine_w1, trimCR_same h13]
        · rw [trimCR_more, wds_more, wds_w1, trimCR_same h13]
/-- Numbers moved on. -/
def shiftL (o : List LnS) : List LnS := o.map fun x => (x.1 + 2, x.2)
theorem linesGo_shift : ∀ (ss : List (List UInt8)) (no : Nat) (o : List LnS), linesGo ss (no + 2) (shiftL o) = (shiftL (linesGo ss no o).1, if (linesGo ss no o).2.2 = 0 then 0 else (linesGo ss no o).2.1 + 2, (linesGo ss no o).2.2)
  | [], no, o => by simp [linesGo]
  | s :: r, no, o => by
    rw [linesGo, linesGo]
    have hl : (shiftL o).length = o.length := by simp [shiftL]
    rw [hl]
    split
    · simp [shiftL]
    · split
      · rw [show no + 2 + 1 = no + 1 + 2 by omega]; exact linesGo_shift r (no + 1) o
      · split
        · simp [shiftL]
        · have e : shiftL o ++ [(no + 2, wds (trimCR s))] = shiftL (o ++ [(no, wds (trimCR s))]) := by simp [shiftL]
          rw [e, show no + 2 + 1 = no + 1 + 2 by omega]
          exact linesGo_shift r (no + 1) _
/-- Where a line is bad, its number is told, and there alone. -/
theorem linesGo_err : ∀ (ss : List (List UInt8)) (no : Nat) (o : List LnS), 1 ≤ no → ((linesGo ss no o).2.2 = 0 ↔ (linesGo ss no o).2.1 = 0)
  | [], no, o, _ => by simp [linesGo]
  | s :: r, no, o, h => by
    rw [linesGo]
    split
    · simp; omega
    · split
      · exact linesGo_err r (no + 1) o (by omega)
      · split
        · simp; omega
        · exact linesGo_err r (no + 1) _ (by omega)
abbrev headB : List UInt8 := [10, 35, 32, 120, 10]
theorem head_lines (s : List UInt8) : linesGo (splitC 10 [] (headB ++ s)) 1 [] = linesGo (splitC 10 [] s) 3 [] := by
  have e : splitC 10 [] (headB ++ s) = [] :: [35, 32, 120] :: splitC 10 [] s := by
    rw [show headB ++ s = [] ++ 10 :: ([35, 32, 120] ++ 10 :: s) by simp, splitC_line 10 [] [] _ (by simp), splitC_line 10 [35, 32, 120] [] s (by decide)]
    rfl
  rw [e, linesGo_skip (by decide) (by decide), linesGo_skip (by decide) (by decide)]
/-- The numbers of lines. -/
theorem linesGo_nos (M : Nat) : ∀ (ss : List (List UInt8)) (no : Nat) (o : List LnS), no + ss.length ≤ M + 1 → (∀ x ∈ o, x.1 ≤ M) → (linesGo ss no o).2.1 ≤ M ∧ ∀ x ∈ (linesGo ss no o).1, x.1 ≤ M
  | [], no, o, h, ho => by rw [linesGo]; exact ⟨Nat.zero_le _, ho⟩
  | s :: r, no, o, h, ho => by
    simp only [List.length_cons] at h
    rw [linesGo]
    split
    · exact ⟨by simp; omega, by simp⟩
    · split
      · exact linesGo_nos M r (no + 1) o (by omega) ho
      · split
        · exact ⟨by simp; omega, by simp⟩
        · exact linesGo_nos M r (no + 1) _ (by omega) (fun x hx => by
            rcases List.mem_append.1 hx with h' | h'
            · exact ho x h'
            · obtain rfl := List.mem_singleton.1 h'
              simp; omega)
theorem splitC_many (c : UInt8) : ∀ (s cur : List UInt8), (splitC c cur s).length ≤ s.length + 1
  | [], cur => by simp [splitC]
  | b :: r, cur => by
    unfold splitC
    split
    · have := splitC_many c r []; simp; omega
    · have := splitC_many c r (cur ++ [b]); simp; omega
theorem linesOf_nos (l : List UInt8) : (linesOf l).2.1 ≤ l.length + 1 ∧ ∀ i, i < (linesOf l).1.length → ((linesOf l).1.getD i default).1 ≤ l.length + 1 := by
  unfold linesOf
  split
  · simp
  · have h1 := splitC_many 10 l []
    have := linesGo_nos (l.length + 1) (splitC 10 [] l) 1 [] (by omega) (fun x h => by simp at h)
    refine ⟨this.1, fun i hi => this.2 _ ?_⟩
    rw [List.getD, List.getElem?_eq_getElem hi]
    exact List.getElem_mem hi
theorem shiftL_get (L : List LnS) (i : Nat) (h : i < L.length) : (shiftL L).getD i default = ((L.getD i default).1 + 2, (L.getD i default).2) := by
  unfold shiftL
  rw [List.getD, List.getElem?_map, List.getD, List.getElem?_eq_getElem h]
  rfl
theorem shiftL_len (L : List LnS) : (shiftL L).length = L.length := by simp [shiftL]
/-- One byte more. -/
theorem wide_take (l : List UInt8) (k : Nat) (hk : k < l.length) : wideGo none (l.take (k + 1)) = wideGo none (l.take k) ++ wPiece (if k = 0 then none else some (l.getD (k - 1) 0)) (l.getD k 0) := by
  rw [List.take_succ_eq_append_getElem hk, wideGo_snoc]
  have e : l.getD k 0 = l[k] := by rw [List.getD, List.getElem?_eq_getElem hk]; rfl
  rw [e]
  congr 2
  unfold lastO
  by_cases h : k = 0
  · subst h; simp
  · rw [if_neg h]
    obtain ⟨j, rfl⟩ : ∃ j, k = j + 1 := ⟨k - 1, by omega⟩
    have hj : j < l.length := by omega
    rw [List.take_succ_eq_append_getElem hj, List.getLast?_append, show j + 1 - 1 = j by omega, List.getD, List.getElem?_eq_getElem hj]
    rfl
/-- The law of the widened text. -/
theorem blanks_law (l : List UInt8) (h : l.length ≤ 10000) :
    linesOf (wideGo none l) = linesOf l ∧
    (linesOf (headB ++ l)).1 = shiftL (linesOf l).1 ∧ (linesOf (headB ++ l)).2.2 = (linesOf l).2.2 ∧ ((linesOf l).2.1 ≠ 0 → (linesOf (headB ++ l)).2.1 = (linesOf l).2.1 + 2) := by
  have hw := wideGo_len l none
  have e0 : linesOf l = linesGo (splitC 10 [] l) 1 [] := by unfold linesOf; rw [if_neg (by omega)]
  have e1 : linesOf (wideGo none l) = linesGo (splitC 10 [] (wideGo none l)) 1 [] := by unfold linesOf; rw [if_neg (by omega)]
  have e2 : linesOf (headB ++ l) = linesGo (splitC 10 [] (headB ++ l)) 1 [] := by unfold linesOf; rw [if_neg (by simp; omega)]
  have e3 := linesGo_shift (splitC 10 [] l) 1 []
  have e4 := linesGo_err (splitC 10 [] l) 1 [] (by omega)
  rw [show shiftL [] = [] from rfl, show 1 + 2 = 3 from rfl, ← head_lines, ← e2, ← e0] at e3
  rw [← e0] at e4
  refine ⟨by rw [e1, e0]; exact wide_lines l.length l none (Nat.le_refl _) (by decide) 1 [], by rw [e3], by rw [e3], fun hne => ?_⟩
  rw [e3]
  simp only
  rw [if_neg (fun h => hne (e4.1 h))]
end Go.Proofs.YtophilmjfdhhaaaGreatDoor
