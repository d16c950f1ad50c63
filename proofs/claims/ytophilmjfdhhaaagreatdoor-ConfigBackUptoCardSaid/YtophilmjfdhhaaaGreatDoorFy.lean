/- A node's line behind its blanks, as the reference of layer 25 reads it. Plain. -/
import Derived.Test.YtophilmjfdhhaaaGreatDoorFx
namespace Go.Proofs.YtophilmjfdhhaaaGreatDoor
open Go Go.RowKit Go.Shelf Go.Sort
set_option linter.unusedVariables false
set_option linter.unusedSimpArgs false
set_option maxRecDepth 100000

/-- The item that the words name, its parent left open. -/
def itemO (ws : List (List UInt8)) : Option It :=
  if ws.length < 2 ∨ nameS (ws.getD 0 []) = false then none
  else if (cutAt 47 (ws.getD 1 [])).2.isSome = false then none
  else match numsS [(cutAt 47 (ws.getD 1 [])).1, (cutAt 47 (ws.getD 1 [])).2.getD []] with
    | none => none
    | some r => if ws.length = 2 then some ⟨ws.getD 0 [], 0, r.getD 0 0, r.getD 1 0, []⟩
      else if ws.getD 2 [] = wTasks then match numsS (ws.drop 3) with
        | none => none
        | some pr => some ⟨ws.getD 0 [], 0, r.getD 0 0, r.getD 1 0, pr⟩
      else none
theorem nodeI_item (t : Tr) (ws : List (List UInt8)) (n : Nat) :
    nodeI t ws n = if n % 2 = 1 ∨ depS t.items ((t.items.length : Int) - 1) < n / 2 then none else (itemO ws).map fun x => { x with par := climbS t.items (n / 2) ((t.items.length : Int) - 1) } := by
  unfold nodeI itemO
  by_cases h1 : n % 2 = 1 ∨ depS t.items ((t.items.length : Int) - 1) < n / 2
  · rw [if_pos (by rcases h1 with h | h; exact .inl h; exact .inr (.inl h)), if_pos h1]
  · rw [if_neg h1]
    by_cases h2 : ws.length < 2 ∨ nameS (ws.getD 0 []) = false
    · rw [if_pos (.inr (.inr h2)), if_pos h2]; rfl
    · rw [if_neg h2, if_neg (by
        rintro (h | h | h)
        · exact h1 (.inl h)
        · exact h1 (.inr h)
        · exact h2 h)]
      by_cases h3 : (cutAt 47 (ws.getD 1 [])).2.isSome = false
      · rw [if_pos h3, if_pos h3]; rfl
      · rw [if_neg h3, if_neg h3]
        cases numsS [(cutAt 47 (ws.getD 1 [])).1, (cutAt 47 (ws.getD 1 [])).2.getD []] with
        | none => rfl
        | some r =>
          simp only
          by_cases h4 : ws.length = 2
          · rw [if_pos h4, if_pos h4]; rfl
          · rw [if_neg h4, if_neg h4]
            by_cases h5 : ws.getD 2 [] = wTasks
            · rw [if_pos h5, if_pos h5]
              cases numsS (ws.drop 3) <;> rfl
            · rw [if_neg h5, if_neg h5]; rfl
theorem cutAt_mem {c : UInt8} : ∀ {l r : List UInt8}, (cutAt c l).2 = some r → c ∈ l := by
  intro l
  induction l with
  | nil => intro r h; simp [cutAt] at h
  | cons a l ih =>
    intro r h
    unfold cutAt at h
    split at h
    · rename_i ha
      have : a = c := by simpa using ha
      simp [this]
    · exact List.mem_cons_of_mem _ (ih h)
theorem splitC_one {c : UInt8} {l : List UInt8} (h : (cutAt c l).2 = none) : splitC c [] l = [(cutAt c l).1] := by
  rw [splitC_cut, h]; rfl
theorem splitC_more {c : UInt8} {l r : List UInt8} (h : (cutAt c l).2 = some r) : splitC c [] l = (cutAt c l).1 :: splitC c [] r := by
  rw [splitC_cut, h]; rfl
theorem cutAt_whole {c : UInt8} : ∀ {l : List UInt8}, (cutAt c l).2 = none → (cutAt c l).1 = l := by
  intro l
  induction l with
  | nil => intro _; simp [cutAt]
  | cons a l ih =>
    intro h
    unfold cutAt at h ⊢
    split
    · rename_i ha; rw [if_pos ha] at h; cases h
    · rename_i ha
      rw [if_neg ha] at h
      simp only at h ⊢
      rw [ih h]
theorem split_two {x : List UInt8} (h : (splitC 47 [] x).length = 2) : (cutAt 47 x).2.isSome = true ∧ splitC 47 [] x = [(cutAt 47 x).1, (cutAt 47 x).2.getD []] := by
  cases hc : (cutAt 47 x).2 with
  | none => rw [splitC_one hc] at h; simp at h
  | some r =>
    rw [splitC_more hc] at h ⊢
    cases hr : (cutAt 47 r).2 with
    | none =>
      rw [splitC_one hr, cutAt_whole hr]
      exact ⟨rfl, rfl⟩
    | some r2 =>
      rw [splitC_more hr] at h
      have := splitC_pos 47 r2 []
      simp only [List.length_cons] at h
      omega
theorem split_not_two {x : List UInt8} (h : (splitC 47 [] x).length ≠ 2) : (cutAt 47 x).2.isSome = false ∨ numsS [(cutAt 47 x).1, (cutAt 47 x).2.getD []] = none := by
  cases hc : (cutAt 47 x).2 with
  | none => exact .inl rfl
  | some r =>
    right
    rw [splitC_more hc] at h
    cases hr : (cutAt 47 r).2 with
    | none => rw [splitC_one hr] at h; simp at h
    | some r2 =>
      have hm := cutAt_mem hr
      have hn : numR r = none := by
        unfold numR
        refine if_pos (.inr (.inr (.inl ?_)))
        rw [Bool.eq_false_iff]
        intro ha
        have := List.all_eq_true.1 ha 47 hm
        exact absurd this (by decide)
      refine numsS_none ?_
      unfold numsGo
      cases numR (cutAt 47 x).1 with
      | none => rfl
      | some v => simp [numsGo, hn]
theorem nums_two (a b : List UInt8) : numsS [a, b] = match numR a, numR b with | some q, some p => some [q, p] | _, _ => none := by
  unfold numsS numsGo numsGo numsGo
  cases numR a <;> cases numR b <;> rfl
end Go.Proofs.YtophilmjfdhhaaaGreatDoor
