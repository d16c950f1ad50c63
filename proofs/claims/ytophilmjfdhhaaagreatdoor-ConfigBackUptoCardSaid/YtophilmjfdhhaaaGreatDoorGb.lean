/- What a line of layer 25 says, in the reference's words. Plain. -/
import Derived.Test.YtophilmjfdhhaaaGreatDoorGa
namespace Go.Proofs.YtophilmjfdhhaaaGreatDoor
open Go Go.RowKit Go.Shelf Go.Sort
set_option linter.unusedVariables false
set_option linter.unusedSimpArgs false
set_option maxRecDepth 100000

abbrev wSlackB : List UInt8 := [115, 108, 97, 99, 107, 32]
/-- Is it the line of best-effort tasks? -/
def slackL (f : Bool) (s : List UInt8) : Prop := f = true ∧ 6 < s.length ∧ s.take 6 = wSlackB
theorem splitC_word (c : UInt8) : ∀ (x cur r : List UInt8), (∀ b ∈ x, b ≠ c) → splitC c cur (x ++ c :: r) = (cur ++ x) :: splitC c [] r := splitC_line c
theorem splitC_head {c : UInt8} {s x : List UInt8} (h : (splitC c [] s).getD 0 [] = x) : (s = x ∧ splitC c [] s = [x]) ∨ ∃ r, s = x ++ c :: r ∧ splitC c [] s = x :: splitC c [] r := by
  rcases by_line c s with hn | ⟨y, r, hs, hy⟩
  · rw [splitC_last c s [] hn] at h ⊢
    left
    have h : s = x := h
    exact ⟨h, by rw [h]; rfl⟩
  · right
    rw [hs, splitC_line c y [] r hy] at h ⊢
    have h : y = x := h
    subst h
    exact ⟨r, rfl, rfl⟩
theorem lead_suffix (s : List UInt8) : ∃ n, s = List.replicate n 32 ++ lead s := by
  unfold lead
  induction s with
  | nil => exact ⟨0, rfl⟩
  | cons c r ih =>
    rw [List.dropWhile_cons]
    split
    · rename_i hc
      obtain ⟨n, hn⟩ := ih
      have : c = 32 := by simpa using hc
      subst this
      exact ⟨n + 1, by rw [List.replicate_succ, List.cons_append, ← hn]⟩
    · exact ⟨0, rfl⟩
theorem lead_drop (s : List UInt8) : lead s = s.drop (s.length - (lead s).length) := by
  obtain ⟨n, hn⟩ := lead_suffix s
  have hl : s.length = n + (lead s).length := by
    have := congrArg List.length hn
    simpa using this
  have h1 : s.length - (lead s).length = n := by omega
  rw [h1]
  generalize lead s = l at *
  subst hn
  simp
theorem lead_same {c : UInt8} {r : List UInt8} (h : c ≠ 32) : lead (c :: r) = c :: r := by
  unfold lead
  rw [List.dropWhile_cons, if_neg (by simpa using h)]
theorem lineS_slack {t : Tr} {f : Bool} {s : List UInt8} (h : slackL f s) :
    lineS t f s = match numsS (splitC 32 [] (s.drop 6)) with
      | none => (t, 250)
      | some l => if prOk l = false then (t, 2) else if 16 < l.length then (t, 30) else (⟨t.items, l⟩, 0) := by
  obtain ⟨hf, hl, ht⟩ := h
  subst hf
  obtain ⟨r, hr⟩ : ∃ r, s = wSlackB ++ r := ⟨s.drop 6, by rw [← ht, List.take_append_drop]⟩
  subst hr
  have e0 : lead (wSlackB ++ r) = wSlackB ++ r := lead_same (c := 115) (by decide)
  have e1 : splitC 32 [] (wSlackB ++ r) = wSlack :: splitC 32 [] r := splitC_line 32 wSlack [] r (by decide)
  unfold lineS
  rw [e0, e1]
  rw [show (wSlack :: splitC 32 [] r).getD 0 [] = wSlack from rfl, if_pos rfl]
  rw [show (wSlack :: splitC 32 [] r).drop 1 = splitC 32 [] r from rfl, show (wSlackB ++ r).drop 6 = r from rfl]
  cases numsS (splitC 32 [] r) with
  | none => rfl
  | some l =>
    simp only
    rw [if_neg (by simp)]
theorem nameS_slack : nameS wSlack = false := by decide
theorem nodeI_slack {t : Tr} {ws : List (List UInt8)} {n : Nat} (h : ws.getD 0 [] = wSlack) : nodeI t ws n = none := by
  unfold nodeI
  refine if_pos (.inr (.inr (.inr ?_)))
  rw [h]; exact nameS_slack
theorem lineS_else {t : Tr} {f : Bool} {s : List UInt8} (h : ¬ slackL f s) : lineS t f s = nodeS t (splitC 32 [] (lead s)) (s.length - (lead s).length) := by
  unfold lineS
  by_cases hx : (splitC 32 [] (lead s)).getD 0 [] = wSlack
  · rw [if_pos hx]
    have e : nodeS t (splitC 32 [] (lead s)) (s.length - (lead s).length) = (t, 250) := by unfold nodeS; rw [nodeI_slack hx]
    rw [e]
    cases hn : numsS ((splitC 32 [] (lead s)).drop 1) with
    | none => rfl
    | some l =>
      simp only
      refine if_pos ?_
      refine Classical.byContradiction fun hc => h ?_
      have hf : f = true := by cases f with | true => rfl | false => exact absurd (.inl rfl) hc
      have hlen : ¬ (lead s).length < s.length := fun e => hc (.inr e)
      have hls : lead s = s := by
        rw [lead_drop s, show s.length - (lead s).length = 0 by omega]; rfl
      rw [hls] at hx hn
      rcases splitC_head hx with ⟨h1, h2⟩ | ⟨r, h1, h2⟩
      · rw [h2] at hn; simp [numsS, numsGo] at hn
      · rw [h2] at hn
        refine ⟨hf, ?_, ?_⟩
        · rw [h1]
          cases r with
          | nil => simp [splitC, numsS, numsGo, numR] at hn
          | cons a r => simp [wSlack]
        · rw [h1]; rfl
  · rw [if_neg hx]
/-- Climbing ends just where it is asked to. -/
theorem climbS_dep {l : List It} (hw : Wl l) (d : Nat) : ∀ (n : Nat) (i : Int), depS l i ≤ n → -1 ≤ i → i < l.length → d ≤ depS l i → depS l (climbS l d i) = d
  | 0, i, hn, h0, hi, hd => by rw [climbS_le (by omega)]; omega
  | n + 1, i, hn, h0, hi, hd => by
    by_cases h : depS l i ≤ d
    · rw [climbS_le h]; omega
    · have hp := depS_pos (l := l) (i := i) (by omega)
      have hs := depS_step hw hp hi
      have hb := par_bounds hw hp hi
      rw [climbS_step hw hi (by omega)]
      exact climbS_dep hw d n (parOf l i) (by omega) hb.1 (by omega) (by omega)
theorem depS_app {l : List It} (hw : Wl l) (x : It) : ∀ (n : Nat) (i : Int), i.toNat ≤ n → i < l.length → depS (l ++ [x]) i = depS l i := by
  have key : ∀ (f : Nat) (i : Int), i < l.length → depF (l ++ [x]) f i = depF l f i := by
    intro f
    induction f with
    | zero => intro i hi; rfl
    | succ f ih =>
      intro i hi
      unfold depF
      by_cases h0 : i < 0
      · rw [if_pos h0, if_pos h0]
      · rw [if_neg h0, if_neg h0]
        have hp : parOf (l ++ [x]) i = parOf l i := by
          unfold parOf
          simp only [List.getD, List.getElem?_append_left (show i.toNat < l.length by omega)]
        have hb := par_bounds hw (i := i) (by omega) hi
        rw [hp, ih (parOf l i) (by omega)]
  intro n i hn hi
  unfold depS
  exact key _ i hi
theorem depS_new {l : List It} (hw : Wl l) {x : It} (h0 : -1 ≤ x.par) (h1 : x.par < l.length) : depS (l ++ [x]) (l.length : Nat) = depS l x.par + 1 := by
  have hw2 := Wl_snoc hw h0 h1
  rw [depS_step hw2 (by omega) (by simp; omega)]
  have hp : parOf (l ++ [x]) (l.length : Nat) = x.par := by unfold parOf; rw [Int.toNat_natCast, getD_last]
  rw [hp, depS_app hw x x.par.toNat x.par (Nat.le_refl _) h1]
/-- The error of a new item, as the reference looks for it. -/
theorem chkI_new {t : Tr} {x : It} (hw : Wl t.items) (h0 : -1 ≤ x.par) (h1 : x.par < t.items.length) :
    chkI (t.items ++ [x]) t.items.length = if twinS (t.items ++ [x]) t.items.length = true then 251
      else if (okR x.q x.p && prOk x.pr) = false then 2
      else if 8 < depS t.items x.par + 1 then 90
      else if 63 < t.items.length + 1 ∨ 8 < x.pr.length then 30
      else if 1048576 < underG (t.items ++ [x]) x.par then 80 else 0 := by
  have k0 : chkK (t.items ++ [x]) t.items.length 0 = if twinS (t.items ++ [x]) t.items.length then 251 else 0 := rfl
  have k1 : chkK (t.items ++ [x]) t.items.length 1 = if okR x.q x.p && prOk x.pr then 0 else 2 := by
    have e : chkK (t.items ++ [x]) t.items.length 1 = if itR ((t.items ++ [x]).getD t.items.length default) && prOk ((t.items ++ [x]).getD t.items.length default).pr then 0 else 2 := rfl
    rw [e, getD_last]; rfl
  have k2 : chkK (t.items ++ [x]) t.items.length 2 = if 8 < depS t.items x.par + 1 then 90 else 0 := by
    have e : chkK (t.items ++ [x]) t.items.length 2 = if 8 < depS (t.items ++ [x]) (t.items.length : Nat) then 90 else 0 := rfl
    rw [e, depS_new hw h0 h1]
  have k3 : chkK (t.items ++ [x]) t.items.length 3 = if 63 ≤ t.items.length ∨ 8 < x.pr.length then 30 else 0 := by
    have e : chkK (t.items ++ [x]) t.items.length 3 = if 63 ≤ t.items.length ∨ 8 < ((t.items ++ [x]).getD t.items.length default).pr.length then 30 else 0 := rfl
    rw [e, getD_last]
  have k4 : chkK (t.items ++ [x]) t.items.length 4 = if 1048576 < underG (t.items ++ [x]) x.par then 80 else 0 := by
    have e : chkK (t.items ++ [x]) t.items.length 4 = if 1048576 < underG ((t.items ++ [x]).take (t.items.length + 1)) ((t.items ++ [x]).getD t.items.length default).par then 80 else 0 := rfl
    rw [e, getD_last, List.take_of_length_le (by simp)]
  have hf : ∀ (p : Prop) [Decidable p] (n : Int) (r : List Int), n ≠ 0 → firstE ((if p then n else 0) :: r) = if p then n else firstE r := by
    intro p _ n r hn
    by_cases h : p
    · rw [if_pos h, if_pos h]; exact if_neg hn
    · rw [if_neg h, if_neg h]; exact if_pos rfl
  unfold chkI
  rw [k0, k1, k2, k3, k4, hf _ _ _ (by decide)]
  congr 1
  have e1 : (if (okR x.q x.p && prOk x.pr) = true then (0 : Int) else 2) = if (okR x.q x.p && prOk x.pr) = false then 2 else 0 := by
    cases (okR x.q x.p && prOk x.pr) <;> rfl
  rw [e1, hf _ _ _ (by decide), hf _ _ _ (by decide), hf _ _ _ (by decide), hf _ _ _ (by decide)]
  congr 1
  congr 1
  have e2 : (63 ≤ t.items.length ∨ 8 < x.pr.length) ↔ (63 < t.items.length + 1 ∨ 8 < x.pr.length) := by omega
  simp only [e2]
  rfl
end Go.Proofs.YtophilmjfdhhaaaGreatDoor
