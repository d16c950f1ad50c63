/- What a text of layer 25 says; trees that have passed. Plain. -/
import Derived.Test.YtophilmjfdhhaaaGreatDoorFv
namespace Go.Proofs.YtophilmjfdhhaaaGreatDoor
open Go Go.RowKit Go.Shelf Go.Sort
set_option linter.unusedVariables false
set_option linter.unusedSimpArgs false
set_option maxRecDepth 100000

/-- What has been read without an error. -/
structure OkT (t : Tr) : Prop where
  wl : Wl t.items
  len : t.items.length ≤ 63
  it : ∀ x ∈ t.items, itR x = true
  pr : ∀ x ∈ t.items, x.pr.length ≤ 8
theorem OkT.nil : OkT ⟨[], []⟩ := ⟨fun j hj => by simp at hj, by simp, fun x hx => by simp at hx, fun x hx => by simp at hx⟩
theorem firstE_zero : ∀ {l : List Int}, firstE l = 0 → ∀ x ∈ l, x = 0
  | [], _, x, hx => by simp at hx
  | a :: r, h, x, hx => by
    unfold firstE at h
    by_cases ha : a = 0
    · rw [if_pos ha] at h
      rcases List.mem_cons.1 hx with rfl | hx
      · exact ha
      · exact firstE_zero h x hx
    · rw [if_neg ha] at h; exact absurd h ha
theorem chkI_zero {l : List It} {i : Nat} (h : chkI l i = 0) : chkK l i 0 = 0 ∧ chkK l i 1 = 0 ∧ chkK l i 2 = 0 ∧ chkK l i 3 = 0 ∧ chkK l i 4 = 0 := by
  have := firstE_zero h
  exact ⟨this _ (by simp), this _ (by simp), this _ (by simp), this _ (by simp), this _ (by simp)⟩
theorem getD_last {α : Type} (l : List α) (x d : α) : (l ++ [x]).getD l.length d = x := by simp [List.getD]
theorem nodeI_par {t : Tr} {ws : List (List UInt8)} {n : Nat} {x : It} (hw : Wl t.items) (h : nodeI t ws n = some x) : -1 ≤ x.par ∧ x.par < t.items.length := by
  have hb := climbS_bounds hw (n / 2) _ ((t.items.length : Int) - 1) (Nat.le_refl _) (by omega) (by omega)
  unfold nodeI at h
  split at h
  · cases h
  · split at h
    · cases h
    · split at h
      · cases h
      · split at h
        · injection h with h; subst h; show -1 ≤ climbS _ _ _ ∧ climbS _ _ _ < _; omega
        · split at h
          · split at h
            · cases h
            · injection h with h; subst h; show -1 ≤ climbS _ _ _ ∧ climbS _ _ _ < _; omega
          · cases h
theorem nodeS_ok {t : Tr} {ws : List (List UInt8)} {n : Nat} (ht : OkT t) (h : (nodeS t ws n).2 = 0) : OkT (nodeS t ws n).1 := by
  unfold nodeS at h ⊢
  cases hx : nodeI t ws n with
  | none => rw [hx] at h; exact absurd h (by simp)
  | some x =>
    rw [hx] at h
    simp only at h ⊢
    obtain ⟨_, h1, _, h3, _⟩ := chkI_zero h
    have h1' := chk1_ok h1
    rw [getD_last] at h1'
    have h3' : ¬ (63 ≤ t.items.length ∨ 8 < x.pr.length) := by
      intro hc
      have e : chkK (t.items ++ [x]) t.items.length 3 = if 63 ≤ t.items.length ∨ 8 < ((t.items ++ [x]).getD t.items.length default).pr.length then 30 else 0 := rfl
      rw [getD_last, if_pos hc] at e
      rw [e] at h3
      exact absurd h3 (by decide)
    have hp := nodeI_par ht.wl hx
    refine ⟨Wl_snoc ht.wl hp.1 hp.2, by simp; omega, fun y hy => ?_, fun y hy => ?_⟩
    · rcases List.mem_append.1 hy with hy | hy
      · exact ht.it y hy
      · rw [List.mem_singleton.1 hy]; exact h1'.1
    · rcases List.mem_append.1 hy with hy | hy
      · exact ht.pr y hy
      · rw [List.mem_singleton.1 hy]; omega
theorem lineS_ok {t : Tr} {f : Bool} {s : List UInt8} (ht : OkT t) (h : (lineS t f s).2 = 0) : OkT (lineS t f s).1 := by
  unfold lineS at h ⊢
  by_cases hx : (splitC 32 [] (lead s)).getD 0 [] = wSlack
  · rw [if_pos hx] at h ⊢
    cases hn : numsS ((splitC 32 [] (lead s)).drop 1) with
    | none => rw [hn] at h; exact absurd h (by simp)
    | some l =>
      rw [hn] at h
      simp only at h ⊢
      by_cases h1 : f = false ∨ (lead s).length < s.length
      · rw [if_pos h1] at h; exact absurd h (by simp)
      · rw [if_neg h1] at h ⊢
        by_cases h2 : prOk l = false
        · rw [if_pos h2] at h; exact absurd h (by simp)
        · rw [if_neg h2] at h ⊢
          by_cases h3 : 16 < l.length
          · rw [if_pos h3] at h; exact absurd h (by simp)
          · rw [if_neg h3]; exact ⟨ht.wl, ht.len, ht.it, ht.pr⟩
  · rw [if_neg hx] at h ⊢
    exact nodeS_ok ht h
/-- The lines of a text, one behind the other. -/
def parseGo : List (List UInt8) → Nat → Tr → Bool → Tr × Nat × Int
  | [], _, t, _ => (t, 0, 0)
  | l :: r, i, t, f => if silS l = true then parseGo r (i + 1) t f else if (lineS t f l).2 = 0 then parseGo r (i + 1) (lineS t f l).1 false else (⟨[], []⟩, i + 1, (lineS t f l).2)
def saidN (ls : List (List UInt8)) : Nat := ls.countP (fun l => !silS l)
def parseS (s : List UInt8) : Tr × Nat × Int :=
  if 1048576 < s.length then (⟨[], []⟩, 0, 3) else if 4096 < saidN (splitC 10 [] s) then (⟨[], []⟩, 0, 3) else parseGo (splitC 10 [] s) 0 ⟨[], []⟩ true
theorem parseGo_at {ls : List (List UInt8)} {i : Nat} (hi : i < ls.length) (t : Tr) (f : Bool) :
    parseGo (ls.drop i) i t f = if silS (ls.getD i []) = true then parseGo (ls.drop (i + 1)) (i + 1) t f else if (lineS t f (ls.getD i [])).2 = 0 then parseGo (ls.drop (i + 1)) (i + 1) (lineS t f (ls.getD i [])).1 false else (⟨[], []⟩, i + 1, (lineS t f (ls.getD i [])).2) := by
  rw [List.drop_eq_getElem_cons hi, List.getD, List.getElem?_eq_getElem hi]
  rfl
theorem parseGo_end (ls : List (List UInt8)) (i : Nat) (t : Tr) (f : Bool) : parseGo (ls.drop ls.length) i t f = (t, 0, 0) := by
  rw [List.drop_eq_nil_of_le (Nat.le_refl _)]; rfl
theorem saidN_at {ls : List (List UInt8)} {i : Nat} (hi : i < ls.length) : saidN (ls.take (i + 1)) = saidN (ls.take i) + if silS (ls.getD i []) = true then 0 else 1 := by
  rw [List.take_succ_eq_append_getElem hi, List.getD, List.getElem?_eq_getElem hi]
  unfold saidN
  rw [List.countP_append]
  cases h : silS ls[i] <;> simp [h]
theorem saidN_le (ls : List (List UInt8)) : saidN ls ≤ ls.length := List.countP_le_length
theorem parseS_long {s : List UInt8} (h : 1048576 < s.length) : parseS s = (⟨[], []⟩, 0, 3) := if_pos h
theorem parseS_many {s : List UInt8} (h : ¬ 1048576 < s.length) (h2 : 4096 < saidN (splitC 10 [] s)) : parseS s = (⟨[], []⟩, 0, 3) := (if_neg h).trans (if_pos h2)
theorem parseS_go {s : List UInt8} (h : ¬ 1048576 < s.length) (h2 : ¬ 4096 < saidN (splitC 10 [] s)) : parseS s = parseGo (splitC 10 [] s) 0 ⟨[], []⟩ true := (if_neg h).trans (if_neg h2)
end Go.Proofs.YtophilmjfdhhaaaGreatDoor
