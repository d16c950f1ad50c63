/- Layer 25: a line that says nothing, put in between two lines, changes nothing but the numbers of those behind it. Plain. -/
import Derived.Test.YtophilmjfdhhaaaGreatDoorGm
namespace Go.Proofs.YtophilmjfdhhaaaGreatDoor
open Go Go.RowKit Go.Shelf Go.Sort
set_option linter.unusedVariables false
set_option linter.unusedSimpArgs false
set_option maxRecDepth 100000

/-- Whole lines. -/
def WLn (a : List UInt8) : Prop := a = [] ∨ a.getLast? = some 10
theorem split_whole : ∀ (n : Nat) (a : List UInt8), a.length ≤ n → WLn a → ∃ la, (∀ b, splitC 10 [] (a ++ b) = la ++ splitC 10 [] b) ∧ la.length = a.count 10 := by
  intro n
  induction n with
  | zero =>
    intro a ha _
    obtain rfl : a = [] := List.eq_nil_of_length_eq_zero (by omega)
    exact ⟨[], fun b => rfl, rfl⟩
  | succ n ih =>
    intro a ha hw
    rcases by_line 10 a with hn | ⟨x, r, hs, hx⟩
    · rcases hw with rfl | hl
      · exact ⟨[], fun b => rfl, rfl⟩
      · exact absurd rfl (hn 10 (List.mem_of_getLast? hl))
    · have hr : WLn r := by
        cases r with
        | nil => exact .inl rfl
        | cons c r =>
          right
          rcases hw with h | h
          · rw [hs] at h; simp at h
          · rw [hs] at h
            rw [List.getLast?_append] at h
            simpa [List.getLast?_cons_cons] using h
      obtain ⟨la, h1, h2⟩ := ih r (by rw [hs] at ha; simp at ha; omega) hr
      refine ⟨x :: la, fun b => ?_, ?_⟩
      · rw [hs, List.append_assoc, List.cons_append, splitC_line 10 x [] (r ++ b) hx, h1]
        rfl
      · have hx0 : x.count 10 = 0 := List.count_eq_zero.2 (fun h => hx 10 h rfl)
        rw [hs, List.count_append, List.count_cons_self, hx0, List.length_cons, h2]
        omega
theorem parseGo_app : ∀ (la : List (List UInt8)) (i : Nat) (t : Tr) (f : Bool),
    (∃ n e, n ≤ i + la.length ∧ e ≠ 0 ∧ ∀ r, parseGo (la ++ r) i t f = (⟨[], []⟩, n, e)) ∨ (∃ t' f', ∀ r, parseGo (la ++ r) i t f = parseGo r (i + la.length) t' f')
  | [], i, t, f => .inr ⟨t, f, fun r => rfl⟩
  | l :: la, i, t, f => by
    by_cases hs : silS l = true
    · rcases parseGo_app la (i + 1) t f with ⟨n, e, h1, h2, h3⟩ | ⟨t', f', h3⟩
      · refine .inl ⟨n, e, by simp; omega, h2, fun r => ?_⟩
        rw [List.cons_append, parseGo, if_pos hs, h3]
      · refine .inr ⟨t', f', fun r => ?_⟩
        rw [List.cons_append, parseGo, if_pos hs, h3, List.length_cons]
        congr 1; omega
    · by_cases he : (lineS t f l).2 = 0
      · rcases parseGo_app la (i + 1) (lineS t f l).1 false with ⟨n, e, h1, h2, h3⟩ | ⟨t', f', h3⟩
        · refine .inl ⟨n, e, by simp; omega, h2, fun r => ?_⟩
          rw [List.cons_append, parseGo, if_neg hs, if_pos he, h3]
        · refine .inr ⟨t', f', fun r => ?_⟩
          rw [List.cons_append, parseGo, if_neg hs, if_pos he, h3, List.length_cons]
          congr 1; omega
      · refine .inl ⟨i + 1, (lineS t f l).2, by simp, he, fun r => ?_⟩
        rw [List.cons_append, parseGo, if_neg hs, if_neg he]
theorem parseGo_shift : ∀ (lb : List (List UInt8)) (i : Nat) (t : Tr) (f : Bool),
    (parseGo lb (i + 1) t f).1 = (parseGo lb i t f).1 ∧ (parseGo lb (i + 1) t f).2.2 = (parseGo lb i t f).2.2 ∧ (((parseGo lb i t f).2.2 = 0 ∧ (parseGo lb i t f).2.1 = 0 ∧ (parseGo lb (i + 1) t f).2.1 = 0) ∨ ((parseGo lb i t f).2.2 ≠ 0 ∧ i < (parseGo lb i t f).2.1 ∧ (parseGo lb (i + 1) t f).2.1 = (parseGo lb i t f).2.1 + 1))
  | [], i, t, f => ⟨rfl, rfl, .inl ⟨rfl, rfl, rfl⟩⟩
  | l :: lb, i, t, f => by
    by_cases hs : silS l = true
    · simp only [parseGo, if_pos hs]
      obtain ⟨h1, h2, h3⟩ := parseGo_shift lb (i + 1) t f
      refine ⟨h1, h2, ?_⟩
      rcases h3 with h3 | ⟨h3, h4, h5⟩
      · exact .inl h3
      · exact .inr ⟨h3, by omega, h5⟩
    · by_cases he : (lineS t f l).2 = 0
      · simp only [parseGo, if_neg hs, if_pos he]
        obtain ⟨h1, h2, h3⟩ := parseGo_shift lb (i + 1) (lineS t f l).1 false
        refine ⟨h1, h2, ?_⟩
        rcases h3 with h3 | ⟨h3, h4, h5⟩
        · exact .inl h3
        · exact .inr ⟨h3, by omega, h5⟩
      · simp only [parseGo, if_neg hs, if_neg he]
        exact ⟨trivial, trivial, .inr ⟨he, by omega, trivial⟩⟩
theorem parseGo_le : ∀ (ls : List (List UInt8)) (i : Nat) (t : Tr) (f : Bool), (parseGo ls i t f).2.1 ≤ i + ls.length
  | [], i, t, f => Nat.zero_le _
  | l :: ls, i, t, f => by
    have h1 := parseGo_le ls (i + 1) t f
    have h2 := parseGo_le ls (i + 1) (lineS t f l).1 false
    unfold parseGo
    rw [List.length_cons]
    split
    · omega
    · split
      · omega
      · show i + 1 ≤ _; omega
theorem parseS_le (s : List UInt8) : (parseS s).2.1 ≤ s.length + 1 := by
  unfold parseS
  split
  · exact Nat.zero_le _
  · split
    · exact Nat.zero_le _
    · have h1 := parseGo_le (splitC 10 [] s) 0 ⟨[], []⟩ true
      have h2 := splitC_many 10 s []
      omega
theorem saidN_app (a b : List (List UInt8)) : saidN (a ++ b) = saidN a + saidN b := List.countP_append
/-- The line put in. -/
theorem silent_law (a b q : List UInt8) (ha : WLn a) (hq : ∀ c ∈ q, c ≠ 10) (hs : silS q = true) (hl : (a ++ (q ++ [10]) ++ b).length ≤ 1048576) :
    (parseS (a ++ (q ++ [10]) ++ b)).1 = (parseS (a ++ b)).1 ∧ (parseS (a ++ (q ++ [10]) ++ b)).2.2 = (parseS (a ++ b)).2.2 ∧ ((parseS (a ++ b)).2.2 ≠ 3 → (parseS (a ++ (q ++ [10]) ++ b)).2.1 = if a.count 10 < (parseS (a ++ b)).2.1 then (parseS (a ++ b)).2.1 + 1 else (parseS (a ++ b)).2.1) := by
  obtain ⟨la, h1, h2⟩ := split_whole _ a (Nat.le_refl _) ha
  have e1 : splitC 10 [] (a ++ (q ++ [10]) ++ b) = la ++ q :: splitC 10 [] b := by
    rw [List.append_assoc, h1, List.append_assoc, List.singleton_append, splitC_line 10 q [] b hq]
    rfl
  have e2 := h1 b
  have hl2 : ¬ 1048576 < (a ++ (q ++ [10]) ++ b).length := by omega
  have hl3 : ¬ 1048576 < (a ++ b).length := by simp at hl ⊢; omega
  have hsd : saidN (la ++ q :: splitC 10 [] b) = saidN (la ++ splitC 10 [] b) := by
    rw [saidN_app, saidN_app]
    congr 1
    unfold saidN
    rw [List.countP_cons_of_neg (by simp [hs])]
  by_cases hm : 4096 < saidN (la ++ splitC 10 [] b)
  · rw [parseS_many hl2 (by rw [e1, hsd]; exact hm), parseS_many hl3 (by rw [e2]; exact hm)]
    exact ⟨rfl, rfl, fun h => absurd rfl h⟩
  · rw [parseS_go hl2 (by rw [e1, hsd]; exact hm), parseS_go hl3 (by rw [e2]; exact hm), e1, e2]
    rcases parseGo_app la 0 ⟨[], []⟩ true with ⟨n, e, g1, g2, g3⟩ | ⟨t', f', g3⟩
    · rw [g3, g3]
      refine ⟨rfl, rfl, fun _ => ?_⟩
      simp only
      rw [if_neg (by rw [← h2]; omega)]
    · rw [g3, g3]
      have hq1 : parseGo (q :: splitC 10 [] b) (0 + la.length) t' f' = parseGo (splitC 10 [] b) (0 + la.length + 1) t' f' := by rw [parseGo, if_pos hs]
      rw [hq1]
      obtain ⟨k1, k2, k3⟩ := parseGo_shift (splitC 10 [] b) (0 + la.length) t' f'
      refine ⟨k1, k2, fun _ => ?_⟩
      rcases k3 with ⟨_, k4, k5⟩ | ⟨_, k4, k5⟩
      · rw [k5, k4, if_neg (by omega)]
      · rw [k5, if_pos (by rw [← h2]; omega)]
end Go.Proofs.YtophilmjfdhhaaaGreatDoor
