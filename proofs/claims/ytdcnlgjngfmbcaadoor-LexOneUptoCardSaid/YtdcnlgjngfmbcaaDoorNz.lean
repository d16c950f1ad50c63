/- Plain laws for LexOne: pieces joined give the text back; the digits of a text's number are the text. -/
import Derived.Test.YtdcnlgjngfmbcaaDoorNb
import Derived.Test.YtdcnlgjngfmbcaaDoorLq
import Derived.Lib.Join
import Derived.Lib.ItoaNum
namespace Go.Proofs.YtdcnlgjngfmbcaaDoor
open Go Go.RowKit Go.Shelf
set_option linter.unusedVariables false
set_option maxRecDepth 100000

theorem split_some (c : UInt8) : ∀ (s cur : List UInt8), ∃ x r, splitC c cur s = x :: r
  | [], cur => ⟨cur, [], rfl⟩
  | b :: t, cur => by
    unfold splitC
    split
    · exact ⟨_, _, rfl⟩
    · exact split_some c t _
theorem join_cons2 (c : UInt8) (x y : List UInt8) (r : List (List UInt8)) : Lib.join (x :: y :: r) [c] = x ++ [c] ++ Lib.join (y :: r) [c] := by
  rw [Lib.join_cons, Lib.join_cons]
  simp [Lib.joinTail]
/-- The pieces, joined, are the text. -/
theorem join_split (c : UInt8) : ∀ (s cur : List UInt8), Lib.join (splitC c cur s) [c] = cur ++ s
  | [], cur => by simp [splitC, Lib.join_one]
  | b :: t, cur => by
    unfold splitC
    split
    · rename_i h
      have : b = c := by simpa using h
      subst this
      obtain ⟨x, r, e⟩ := split_some b t []
      have ih := join_split b t []
      rw [e] at ih ⊢
      rw [join_cons2, ih]
      simp
    · rw [join_split c t (cur ++ [b])]
      simp
theorem join_snocC (c : UInt8) (xs : List (List UInt8)) (y : List UInt8) (h : xs ≠ []) : Lib.join (xs ++ [y]) [c] = Lib.join xs [c] ++ [c] ++ y := by
  cases xs with
  | nil => exact absurd rfl h
  | cons x r =>
    rw [List.cons_append, Lib.join_cons, Lib.join_cons]
    simp [Lib.joinTail]
theorem join_takeC (c : UInt8) (l : List (List UInt8)) (k : Nat) (hk : k < l.length) : Lib.join (l.take (k + 1)) [c] = if k = 0 then l.getD k [] else Lib.join (l.take k) [c] ++ [c] ++ l.getD k [] := by
  rw [List.take_succ_eq_append_getElem hk]
  have e : l.getD k [] = l[k] := by rw [List.getD, List.getElem?_eq_getElem hk]; rfl
  rw [e]
  split
  · rename_i h; subst h; simp [Lib.join_one]
  · rw [join_snocC _ _ _ (by intro h; have := congrArg List.length h; rw [List.length_take, List.length_nil] at this; omega)]
/-- The digits of what a text's first k digits spell are these digits. -/
theorem dig_take (l : List UInt8) (n : Nat) (h : Lib.decFrom 0 l = some n) (hz : ¬ (1 < l.length ∧ l.getD 0 0 = 48)) : ∀ k, 0 < k → k ≤ l.length → ∃ m, Lib.decFrom 0 (l.take k) = some m ∧ Lib.decDigits m = l.take k ∧ (1 < l.length → 1 ≤ m)
  | 0, h0, _ => absurd h0 (Nat.lt_irrefl 0)
  | 1, _, hk => by
    obtain ⟨b, r, rfl⟩ : ∃ b r, l = b :: r := by cases l with | nil => simp at hk | cons b r => exact ⟨b, r, rfl⟩
    obtain ⟨d, hd⟩ := Lib.digit_of_decFrom _ 0 n h 0 b rfl
    have hb := Lib.digitVal_eq hd
    refine ⟨d, by simp [Lib.decFrom, hd], ?_, fun h1 => ?_⟩
    · rw [Lib.decDigits_one (by omega)]
      simp only [List.take_succ_cons, List.take_zero]
      congr 1
      rw [hb.2.2, show 48 + (b.toNat - 48) = b.toNat by omega]
      exact UInt8.ofNat_toNat
    · rcases Nat.lt_or_ge 0 d with h' | h'
      · exact h'
      · exfalso
        apply hz
        refine ⟨h1, ?_⟩
        show b = 48
        apply UInt8.toNat_inj.1
        show b.toNat = 48
        omega
  | k + 2, _, hk => by
    obtain ⟨m, h1, h2, h3⟩ := dig_take l n h hz (k + 1) (by omega) (by omega)
    have hkl : k + 1 < l.length := by omega
    obtain ⟨d, hd⟩ := Lib.digit_of_decFrom l 0 n h (k + 1) (l[k + 1]) (List.getElem?_eq_getElem hkl)
    have hb := Lib.digitVal_eq hd
    have hs := Lib.decFrom_take l (k + 1) 0 m (l[k + 1]) d h1 (List.getElem?_eq_getElem hkl) hd
    have hm := h3 (by omega)
    refine ⟨m * 10 + d, hs, ?_, fun _ => by omega⟩
    have hdd : Lib.decDigits (m * 10 + d) = Lib.decDigits ((m * 10 + d) / 10) ++ [UInt8.ofNat (48 + (m * 10 + d) % 10)] := by
      conv => lhs; rw [Lib.decDigits, dif_neg (by omega)]
    rw [hdd, show (m * 10 + d) / 10 = m by omega, show (m * 10 + d) % 10 = d by omega, h2, List.take_succ_eq_append_getElem hkl]
    congr 2
    rw [hb.2.2, show 48 + (l[k + 1].toNat - 48) = l[k + 1].toNat by omega]
    exact UInt8.ofNat_toNat
/-- A text that is read as a number is the number's digits. -/
theorem numS_digits {l : List UInt8} {n : Int} (h : numS l = (n, 0)) : ∃ m : Nat, n = m ∧ m ≤ 2147483647 ∧ Lib.decDigits m = l := by
  unfold numS at h
  split at h
  · simp at h
  · rename_i hf
    split at h
    · simp at h
    · rename_i m hm
      split at h
      · simp at h
      · rename_i hb
        simp only [Prod.mk.injEq, and_true] at h
        have hne : 0 < l.length := Nat.pos_of_ne_zero (fun e => hf (.inl (List.eq_nil_of_length_eq_zero e)))
        obtain ⟨m', h1, h2, _⟩ := dig_take l m hm (fun e => hf (.inr (.inr e))) l.length hne (Nat.le_refl _)
        rw [List.take_length] at h1 h2
        rw [hm] at h1
        cases h1
        exact ⟨m, h.symm, by omega, h2⟩
end Go.Proofs.YtdcnlgjngfmbcaaDoor
