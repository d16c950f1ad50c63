/- Plain laws on the texts of marks. -/
import Derived.Test.YtohodbpjcbjifaaGreatDoorHx
import Derived.Test.YtohodbpjcbjifaaGreatDoorTa
import Derived.Test.YtohodbpjcbjifaaGreatDoorBa
namespace Go.Proofs.YtohodbpjcbjifaaGreatDoor
open Go Go.RowKit Go.Shelf Go.Sort
set_option linter.unusedVariables false

/-- A kind's word. -/
def wordS (k : Int) : List UInt8 :=
  if k = 1 then [103, 105, 118, 101, 110] else if k = 2 then [108, 101, 110, 116] else if k = 3 then [105, 100, 108, 101] else if k = 4 then [102, 114, 101, 101] else if k = 5 then [101, 110, 100] else
  if k = 6 then [115, 119, 105, 116, 99, 104] else if k = 7 then [103, 111, 110, 101] else if k = 8 then [100, 111, 110, 101] else if k = 9 then [99, 117, 116] else []
/-- The last kind up to so many with that word. -/
def kindF (w : List UInt8) : Nat → Int
  | 0 => 0
  | n + 1 => if wordS ((n : Int) + 1) = w then (n : Int) + 1 else kindF w n
def kindOf (w : List UInt8) : Int := kindF w 9
theorem kindOf_word {k : Int} (h : 1 ≤ k ∧ k ≤ 9) : kindOf (wordS k) = k := by
  have : k = 1 ∨ k = 2 ∨ k = 3 ∨ k = 4 ∨ k = 5 ∨ k = 6 ∨ k = 7 ∨ k = 8 ∨ k = 9 := by omega
  rcases this with rfl | rfl | rfl | rfl | rfl | rfl | rfl | rfl | rfl <;> decide
/-- The five words of a mark's text. -/
def mComps (m : Mk) : List (List UInt8) := [Lib.itoa m.t, wordS m.k, hText m.h, hText m.j, Lib.itoa m.n]
instance (h : Int) : Decidable (H0 h) := by unfold H0 HV HOk; infer_instance
instance (m : Mk) : Decidable (Ok0 m) := decidable_of_iff ((0 ≤ m.t ∧ m.t ≤ 1073741824) ∧ (1 ≤ m.k ∧ m.k ≤ 9) ∧ H0 m.h ∧ H0 m.j ∧ (0 ≤ m.n ∧ m.n ≤ 1073741824)) ⟨fun h => ⟨h.1, h.2.1, h.2.2.1, h.2.2.2.1, h.2.2.2.2⟩, fun h => ⟨h.t, h.k, h.h, h.j, h.n⟩⟩
def mText (m : Mk) : List UInt8 := if Ok0 m then Lib.join (mComps m) [32] else []
def noBl (l : List UInt8) : Prop := ∀ b ∈ l, b ≠ 32
theorem tail_consC (c : UInt8) (a : List UInt8) (r : List (List UInt8)) : Lib.joinTail [c] (a :: r) = c :: (a ++ Lib.joinTail [c] r) := by simp [Lib.joinTail]
theorem split_join (c : UInt8) : ∀ (r : List (List UInt8)) (a : List UInt8), (∀ x ∈ a :: r, ∀ b ∈ x, b ≠ c) → splitC c [] (a ++ Lib.joinTail [c] r) = a :: r
  | [], a, h => by
    have : Lib.joinTail [c] [] = [] := rfl
    rw [this, List.append_nil, splitC_last c a [] (h a (by simp))]; rfl
  | x :: r, a, h => by
    rw [tail_consC, splitC_line c a [] _ (h a (by simp)), split_join c r x (fun y hy => h y (by simp at hy ⊢; exact .inr hy))]; rfl
theorem split_joined (c : UInt8) (l : List (List UInt8)) (hl : l ≠ []) (h : ∀ x ∈ l, ∀ b ∈ x, b ≠ c) : splitC c [] (Lib.join l [c]) = l := by
  cases l with
  | nil => exact absurd rfl hl
  | cons a r => rw [Lib.join_cons]; exact split_join c r a h
theorem dgt_nb {c : UInt8} (h : dgt c = true) : c ≠ 32 := by rintro rfl; revert h; decide
theorem itoa_nb (n : Int) (h : 0 ≤ n) : noBl (Lib.itoa n) := by
  rw [itoa_nat n h]
  exact fun b hb => dgt_nb (decDigits_dgt _ b hb)
theorem word_nb (k : Int) : noBl (wordS k) := by
  unfold wordS noBl
  repeat' split
  all_goals (intro b hb; revert b; decide)
theorem hText_nb {h : Int} (v : H0 h) : noBl (hText h) := by
  rcases v with rfl | v
  · unfold hText noBl; decide
  · obtain ⟨a, b, e, _, _, da, db, _⟩ := text_form v
    rw [e]
    intro c hc
    rcases List.mem_cons.1 hc with rfl | hc
    · unfold letter
      repeat' split
      all_goals decide
    · rcases List.mem_append.1 hc with hc | hc
      · exact dgt_nb (da c hc)
      · rcases List.mem_cons.1 hc with rfl | hc
        · decide
        · exact dgt_nb (db c hc)
theorem mText_split {m : Mk} (h : Ok0 m) : splitC 32 [] (mText m) = mComps m := by
  unfold mText
  rw [if_pos h]
  obtain ⟨⟨t0, _⟩, _, hh, hj, n0, _⟩ := h
  refine split_joined 32 _ (by simp [mComps]) ?_
  intro x hx
  simp only [mComps, List.mem_cons, List.not_mem_nil, or_false] at hx
  rcases hx with rfl | rfl | rfl | rfl | rfl
  · exact itoa_nb _ t0
  · exact word_nb _
  · exact hText_nb hh
  · exact hText_nb hj
  · exact itoa_nb _ n0
theorem hRead0 {h : Int} (v : H0 h) : hRead (hText h) = (h, 0) := by
  rcases v with rfl | v
  · decide
  · exact hRead_of v
theorem dec_len (n : Int) (h0 : 0 ≤ n) (h1 : n ≤ 1073741824) : (Lib.decDigits n.toNat).length ≤ 10 := by
  rw [Lib.decDigits_length]
  have hn : n.toNat < 10000000000 := by omega
  generalize n.toNat = m at hn
  by_cases h : m < 10
  · rw [Lib.nDigits_small h]; omega
  · have key : ∀ k, 1 ≤ k → k ≤ 9 → 10 ^ k ≤ m → m < 10 ^ (k + 1) → Lib.nDigits m ≤ 10 := fun k h1 h2 h3 h4 => by
      rw [Lib.nDigits_unique k m h3 h4]; omega
    rcases Nat.lt_or_ge m (10 ^ 2) with h2 | h2; exact key 1 (by decide) (by decide) (by omega) h2
    rcases Nat.lt_or_ge m (10 ^ 3) with h3 | h3; exact key 2 (by decide) (by decide) h2 h3
    rcases Nat.lt_or_ge m (10 ^ 4) with h4 | h4; exact key 3 (by decide) (by decide) h3 h4
    rcases Nat.lt_or_ge m (10 ^ 5) with h5 | h5; exact key 4 (by decide) (by decide) h4 h5
    rcases Nat.lt_or_ge m (10 ^ 6) with h6 | h6; exact key 5 (by decide) (by decide) h5 h6
    rcases Nat.lt_or_ge m (10 ^ 7) with h7 | h7; exact key 6 (by decide) (by decide) h6 h7
    rcases Nat.lt_or_ge m (10 ^ 8) with h8 | h8; exact key 7 (by decide) (by decide) h7 h8
    rcases Nat.lt_or_ge m (10 ^ 9) with h9 | h9; exact key 8 (by decide) (by decide) h8 h9
    exact key 9 (by decide) (by decide) h9 (by omega)
theorem atoi_itoa (n : Int) (h0 : 0 ≤ n) (h1 : n ≤ 1073741824) : atoiV (Lib.itoa n) = n := by
  rw [itoa_nat n h0, atoiV_digits _ (decDigits_dgt _) (decDigits_ne _) (by have := dec_len n h0 h1; omega), decV_decDigits]
  omega
/-- The reference's number. -/
def rNum (l : List UInt8) : Int := if l.length = 0 ∨ 10 < l.length ∨ (1 < l.length ∧ (l.getD 0 0).toNat = 48) then -1 else if l.all dgt then decV l else -1
theorem rNum_itoa (n : Int) (h0 : 0 ≤ n) (h1 : n ≤ 1073741824) : rNum (Lib.itoa n) = n := by
  rw [itoa_nat n h0]
  have hl := dec_len n h0 h1
  have hn := decDigits_noNought n.toNat
  have hp : 0 < (Lib.decDigits n.toNat).length := List.length_pos_iff.2 hn.1
  unfold rNum
  rw [if_neg, if_pos, decV_decDigits]
  · omega
  · exact List.all_eq_true.2 (decDigits_dgt _)
  · rintro (h | h | ⟨h, h'⟩)
    · omega
    · omega
    · have e : (Lib.decDigits n.toNat).getD 0 0 = (Lib.decDigits n.toNat).headD 0 := by cases Lib.decDigits n.toNat <;> rfl
      rcases hn.2 with h2 | h2
      · exact h2 (by rw [← e]; exact h')
      · omega
/-- What five words are read as. -/
def mOf (A : List UInt8 → Int) (ws : List (List UInt8)) : Mk := ⟨A (ws.getD 0 []), kindOf (ws.getD 1 []), (hRead (ws.getD 2 [])).1, (hRead (ws.getD 3 [])).1, A (ws.getD 4 [])⟩
def mZero : Mk := ⟨0, 0, 0, 0, 0⟩
def mRead (s : List UInt8) : Mk × Int :=
  if (splitC 32 [] s).length ≠ 5 then (mZero, 4) else if mText (mOf atoiV (splitC 32 [] s)) = s then (mOf atoiV (splitC 32 [] s), 0) else (mZero, 4)
def mReadR (s : List UInt8) : Mk × Int :=
  if (splitC 32 [] s).length ≠ 5 then (mZero, 4)
  else if (hRead ((splitC 32 [] s).getD 2 [])).2 = 0 ∧ (hRead ((splitC 32 [] s).getD 3 [])).2 = 0 ∧ mText (mOf rNum (splitC 32 [] s)) = s then (mOf rNum (splitC 32 [] s), 0) else (mZero, 4)
theorem mOf_comps {m : Mk} (h : Ok0 m) : mOf atoiV (mComps m) = m ∧ mOf rNum (mComps m) = m ∧ (hRead ((mComps m).getD 2 [])).2 = 0 ∧ (hRead ((mComps m).getD 3 [])).2 = 0 := by
  obtain ⟨⟨t0, t1⟩, hk, hh, hj, n0, n1⟩ := h
  have e1 := atoi_itoa m.t t0 t1
  have e2 := atoi_itoa m.n n0 n1
  have e3 := rNum_itoa m.t t0 t1
  have e4 := rNum_itoa m.n n0 n1
  have e5 := kindOf_word hk
  have e6 := hRead0 hh
  have e7 := hRead0 hj
  refine ⟨?_, ?_, ?_, ?_⟩
  · show (⟨atoiV (Lib.itoa m.t), kindOf (wordS m.k), (hRead (hText m.h)).1, (hRead (hText m.j)).1, atoiV (Lib.itoa m.n)⟩ : Mk) = m
    rw [e1, e2, e5, e6, e7]
  · show (⟨rNum (Lib.itoa m.t), kindOf (wordS m.k), (hRead (hText m.h)).1, (hRead (hText m.j)).1, rNum (Lib.itoa m.n)⟩ : Mk) = m
    rw [e3, e4, e5, e6, e7]
  · show (hRead (hText m.h)).2 = 0
    rw [e6]
  · show (hRead (hText m.j)).2 = 0
    rw [e7]
theorem text_ok0 {m : Mk} {s : List UInt8} (h5 : (splitC 32 [] s).length = 5) (h : mText m = s) : Ok0 m ∧ splitC 32 [] s = mComps m := by
  have hok : Ok0 m := Classical.byContradiction fun hn => by
    unfold mText at h
    rw [if_neg hn] at h
    subst h
    simp [splitC] at h5
  exact ⟨hok, by rw [← h]; exact mText_split hok⟩
theorem mRead_same (s : List UInt8) : mReadR s = mRead s := by
  unfold mReadR mRead
  by_cases h5 : (splitC 32 [] s).length = 5
  · have hn : ¬ ((splitC 32 [] s).length ≠ 5) := fun h => h h5
    rw [if_neg hn, if_neg hn]
    by_cases h1 : mText (mOf atoiV (splitC 32 [] s)) = s
    · obtain ⟨ok, e⟩ := text_ok0 h5 h1
      obtain ⟨c1, c2, c3, c4⟩ := mOf_comps ok
      rw [← e] at c1 c2 c3 c4
      rw [if_pos h1, if_pos ⟨c3, c4, by rw [c2]; exact h1⟩, c2]
    · rw [if_neg h1, if_neg]
      rintro ⟨_, _, h2⟩
      obtain ⟨ok, e⟩ := text_ok0 h5 h2
      obtain ⟨c1, _⟩ := mOf_comps ok
      rw [← e] at c1
      exact h1 (by rw [c1]; exact h2)
  · have hn : (splitC 32 [] s).length ≠ 5 := h5
    rw [if_pos hn, if_pos hn]
theorem mRead_text {m : Mk} (h : Ok0 m) : mRead (mText m) = (m, 0) := by
  unfold mRead
  rw [mText_split h, if_neg (by simp [mComps]), (mOf_comps h).1, if_pos rfl]
theorem mRead_nil : mRead [] = (mZero, 4) := by unfold mRead; rw [if_pos (by decide)]
end Go.Proofs.YtohodbpjcbjifaaGreatDoor
