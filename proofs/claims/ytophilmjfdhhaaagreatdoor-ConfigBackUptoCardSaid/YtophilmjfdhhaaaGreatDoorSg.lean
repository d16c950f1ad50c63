/- Plain lists of bytes: stretches of a text, its pieces at a byte. No program in sight. -/
import Derived.Test.YtophilmjfdhhaaaGreatDoorSa
import Derived.Test.YtophilmjfdhhaaaGreatDoorLq
namespace Go.Proofs.YtophilmjfdhhaaaGreatDoor
open Go
set_option linter.unusedVariables false
set_option linter.unusedSimpArgs false

/-- The stretch of a text. -/
def seg (l : List UInt8) (f i : Nat) : List UInt8 := (l.drop f).take (i - f)
theorem seg_self (l : List UInt8) (f : Nat) : seg l f f = [] := by simp [seg]
theorem seg_succ (l : List UInt8) (f i : Nat) (hf : f ≤ i) (hi : i < l.length) : seg l f (i + 1) = seg l f i ++ [l.getD i 0] := by
  unfold seg
  rw [show i + 1 - f = (i - f) + 1 by omega, List.take_succ_eq_append_getElem (by simp; omega)]
  congr 2
  rw [List.getElem_drop, List.getD, List.getElem?_eq_getElem hi]
  simp only [Option.getD_some]
  congr 1
  omega
theorem seg_len (l : List UInt8) (f i : Nat) (hi : i ≤ l.length) : (seg l f i).length = i - f := by unfold seg; simp; omega
theorem extract_seg (s : ByteArray) (f i : Nat) : s.extract f i = ⟨(seg s.data.toList f i).toArray⟩ := by
  rw [of_str (s.extract f i), extract_list]; rfl

/-- What is left to cut at place i, the piece begun at f, the pieces o taken. -/
def CInv (c : UInt8) (l : List UInt8) (R : List (List UInt8)) (i f : Nat) (o : List (List UInt8)) : Prop :=
  f ≤ i ∧ ((i ≤ l.length ∧ R = o ++ splitC c (seg l f i) (l.drop i)) ∨ (i = l.length + 1 ∧ R = o))
theorem drop_c (c : UInt8) (l : List UInt8) (i : Nat) (hi : i < l.length) (f : Nat) (hf : f ≤ i) : splitC c (seg l f i) (l.drop i) = if l.getD i 0 == c then seg l f i :: splitC c [] (l.drop (i + 1)) else splitC c (seg l f (i + 1)) (l.drop (i + 1)) := by
  have hd : l.drop i = l.getD i 0 :: l.drop (i + 1) := by
    rw [List.drop_eq_getElem_cons hi, List.getD, List.getElem?_eq_getElem hi]; rfl
  rw [hd, splitC, seg_succ l f i hf hi]
theorem CInv.go {c : UInt8} {l : List UInt8} {R : List (List UInt8)} {i f : Nat} {o : List (List UInt8)} (h : CInv c l R i f o) (hi : i < l.length) (hb : l.getD i 0 ≠ c) : CInv c l R (i + 1) f o := by
  obtain ⟨h1, h3⟩ := h
  rcases h3 with ⟨_, h3⟩ | ⟨h3, _⟩
  · rw [drop_c c l i hi f h1, if_neg (by simpa using hb)] at h3
    exact ⟨by omega, .inl ⟨by omega, h3⟩⟩
  · omega
theorem CInv.piece {c : UInt8} {l : List UInt8} {R : List (List UInt8)} {i f : Nat} {o : List (List UInt8)} (h : CInv c l R i f o) (hi : i = l.length ∨ (i < l.length ∧ l.getD i 0 = c)) : CInv c l R (i + 1) (i + 1) (o ++ [seg l f i]) := by
  obtain ⟨h1, h3⟩ := h
  rcases h3 with ⟨hil, h3⟩ | ⟨h3, _⟩
  · rcases hi with rfl | ⟨hi, hb⟩
    · have e : splitC c (seg l f l.length) (l.drop l.length) = [seg l f l.length] := by rw [List.drop_eq_nil_of_le (Nat.le_refl _)]; rfl
      rw [e] at h3
      exact ⟨Nat.le_refl _, .inr ⟨rfl, h3⟩⟩
    · rw [drop_c c l i hi f h1, if_pos (by simpa using hb)] at h3
      exact ⟨Nat.le_refl _, .inl ⟨by omega, by rw [seg_self]; simpa using h3⟩⟩
  · rcases hi with rfl | ⟨hi, _⟩ <;> omega
end Go.Proofs.YtophilmjfdhhaaaGreatDoor
