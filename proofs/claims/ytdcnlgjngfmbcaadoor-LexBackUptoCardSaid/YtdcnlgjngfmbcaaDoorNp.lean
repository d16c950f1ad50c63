/- twin of the laws of layer 24; titheref24.has, Options. -/
import Derived.Test.YtdcnlgjngfmbcaaDoorNo
import Derived.Test.YtdcnlgjngfmbcaaDoorNt
namespace Go.Proofs.YtdcnlgjngfmbcaaDoor
open Go Go.RowKit Go.Shelf
set_option linter.unusedVariables false
set_option linter.unusedSimpArgs false
set_option maxRecDepth 100000
set_option maxHeartbeats 1600000

theorem fndN_any (keys : List (List UInt8)) (a : List UInt8) : fndN keys a keys.length = keys.any (· == a) := by
  have : ∀ n, n ≤ keys.length → fndN keys a n = (keys.take n).any (· == a) := by
    intro n
    induction n with
    | zero => intro _; rfl
    | succ n ih =>
      intro h
      rw [fndN, ih (by omega), List.take_succ_eq_append_getElem (by omega), List.any_append, List.getD, List.getElem?_eq_getElem (by omega)]
      simp
  rw [this _ (Nat.le_refl _), List.take_length]
/-- The last value that pairs give a key. -/
def lastV (key : List UInt8) : List (List UInt8) → List UInt8 → List UInt8
  | a :: b :: r, v => lastV key r (if a == key then b else v)
  | _, v => v
/-- Whether all pairs' keys are known, and none stands twice. -/
def chkO (keys : List (List UInt8)) : List (List UInt8) → List (List UInt8) → Bool
  | a :: b :: r, met => fndN keys a keys.length && !met.any (· == a) && chkO keys r (met ++ [a])
  | _, _ => true
theorem updN_get (keys outs : List (List UInt8)) (a b : List UInt8) (ho : outs.length = keys.length) : ∀ n, n ≤ keys.length → ∀ k, k < keys.length → (updN keys outs a b n).getD k [] = if k < n ∧ keys.getD k [] = a then b else outs.getD k []
  | 0, _, k, _ => by simp [updN]
  | n + 1, hn, k, hk => by
    have ih := updN_get keys outs a b ho n (by omega) k hk
    have hlen := updN_len keys outs a b n
    unfold updN
    split
    · rename_i h
      have h : keys.getD n [] = a := by simpa using h
      by_cases e : k = n
      · subst e
        rw [List.getD, List.getElem?_set_self (by omega), if_pos ⟨by omega, h⟩]
        rfl
      · rw [List.getD, List.getElem?_set_ne (by omega), ← List.getD, ih]
        by_cases h2 : k < n <;> simp [h2, show (k < n + 1) ↔ k < n by omega]
    · rename_i h
      have h : keys.getD n [] ≠ a := by simpa using h
      rw [ih]
      by_cases e : k = n
      · subst e; rw [if_neg (fun x => h x.2), if_neg (fun x => h x.2)]
      · simp [show (k < n + 1) ↔ k < n by omega]
theorem optGo_chk (keys : List (List UInt8)) : ∀ (f : Nat) (l met outs : List (List UInt8)), l.length ≤ f → outs.length = keys.length → optGo keys l met outs = if chkO keys l met then some ((List.range keys.length).map fun k => lastV (keys.getD k []) l (outs.getD k [])) else none
  | _, [], met, outs, _, ho => by
    simp only [optGo, chkO, lastV, if_true]
    congr 1
    apply List.ext_getElem (by simp [ho])
    intro k h1 h2
    simp [List.getD, h1]
  | _, [a], met, outs, _, ho => by
    simp only [optGo, chkO, lastV, if_true]
    congr 1
    apply List.ext_getElem (by simp [ho])
    intro k h1 h2
    simp [List.getD, h1]
  | 0, a :: b :: r, met, outs, hf, ho => by simp at hf
  | f + 1, a :: b :: r, met, outs, hf, ho => by
    have hc : chkO keys (a :: b :: r) met = (fndN keys a keys.length && !met.any (· == a) && chkO keys r (met ++ [a])) := rfl
    have ho2 : optGo keys (a :: b :: r) met outs = if met.any (· == a) = true then none else if fndN keys a keys.length = true then optGo keys r (met ++ [a]) (updN keys outs a b keys.length) else none := rfl
    rw [hc, ho2]
    clear hc ho2
    by_cases hm : met.any (· == a) = true
    · rw [if_pos hm, hm]; simp
    · have hm' : met.any (· == a) = false := Bool.eq_false_iff.2 hm
      rw [if_neg hm, hm']
      by_cases hk : fndN keys a keys.length = true
      · rw [if_pos hk, hk, optGo_chk keys f r (met ++ [a]) _ (by simp at hf; omega) (by rw [updN_len, ho])]
        simp only [Bool.not_false, Bool.and_self, Bool.true_and]
        split
        · congr 1
          apply List.map_congr_left
          intro k hk'
          have hk' : k < keys.length := List.mem_range.1 hk'
          rw [updN_get keys outs a b ho _ (Nat.le_refl _) k hk']
          simp only [lastV]
          congr 1
          by_cases e : a = keys.getD k []
          · rw [if_pos ⟨hk', e.symm⟩, if_pos (by rw [e]; simp)]
          · rw [if_neg (fun h => e h.2.symm), if_neg (by simpa using e)]
        · rfl
      · have hk' : fndN keys a keys.length = false := Bool.eq_false_iff.2 hk
        rw [if_neg hk, hk']; simp
theorem optS_chk (l keys : List (List UInt8)) : optS l keys = if l.length % 2 = 1 then ([], 240) else if chkO keys l [] then ((List.range keys.length).map fun k => lastV (keys.getD k []) l [], 0) else ([], 240) := by
  unfold optS
  split
  · rfl
  · rw [optGo_chk keys _ l [] _ (Nat.le_refl _) (by simp)]
    by_cases hc : chkO keys l [] = true
    · rw [if_pos hc, if_pos hc]
      show (_, (0 : Int)) = (_, 0)
      congr 1
      apply List.map_congr_left
      intro k hk
      congr 1
      simp [List.getD, List.mem_range.1 hk]
    · rw [if_neg hc, if_neg hc]

theorem twin_c (l : List (List UInt8)) (v : Value) (W : World) (h : RS W v l) (hl : l.length * 16 ≤ 140737488351232) :
    Calls Tryd.prog 14 #[v] W fun e w' => ∃ u, e = .returned u ∧ RS w' u l ∧ Below W.heap.size W w' := by
  obtain ⟨i0, hi, hz0, hz1, hz2⟩ := info_of1 Tryd.infoStr
  have HV := Lib.hid h
  have ON := Lib.hid (str_one l)
  have hm1 : 0 + (l.map str).length ≤ maxLen := by unfold maxLen; simp; omega
  have hm2 : (0 + (l.map str).length) * 16 ≤ 140737488355328 := by simp; omega
  have HM := Lib.hid (And.intro hm1 hm2)
  obtain ⟨p, c, rfl, _⟩ := RS.out h
  clear h hl hm1 hm2
  go_enter Tryd.func14, Tryd.ntmps14
  go_wp2_with (at_builtin; refine appendRG (W := W) rfl _ _ 34 rfl W.heap.size 9 i0 _ 16 Tryd.underlying34 hi hz0 hz1 hz2 rfl _ 0 [] rfl (World.ownsRow_nil _ _ _ _) _ (l.map str) rfl HV.out ON.out HM.out.1 HM.out.2 (Nat.le_refl _) (Below.refl _ _) ?_; intro v' w' hown hbe)
  have RO := Lib.hid (RG_own hown).1
  have BE := Lib.hid hbe
  clear hown hbe
  go_wp2_with fail
  go_ret
  exact ⟨_, rfl, by simpa [RS] using RO.out, BE.out⟩
theorem has_c (l : List (List UInt8)) (a : List UInt8) (v : Value) (W : World) (h : RS W v l) (hl : l.length ≤ 281474976710656) :
    Calls Tryd.prog 34 #[v, str a] W fun e w' => e = .returned (.bool (l.any (· == a))) ∧ W = w' := by
  obtain ⟨p, c, rfl, hr⟩ := RS.out h
  have H1 := Lib.hid hr
  have NO := Lib.hid (fun h => any_false (met := l) (a := a) h)
  have YES := Lib.hid (fun j hj h => any_true (met := l) (a := a) (j := j) hj h)
  have hli : (l.length : Int) ≤ 281474976710656 := by omega
  clear h hr
  generalize l.any (· == a) = R at *
  go_enter Tryd.func34, Tryd.ntmps34
  go_wp2_with fail
  go_loopw [5] (fun i wr => ∃ k : Nat, k ≤ l.length ∧ i = .int .i64 k ∧ wr = W ∧ Hid (∀ j, j < k → l.getD j [] ≠ a)) (fun i _ => l.length - (intOf i).toNat)
  case atStart => exact ⟨0, Nat.zero_le _, by go_num, rfl, Lib.hid (fun j hj => absurd hj (Nat.not_lt_zero _))⟩
  case round =>
    obtain ⟨k, hk, rfl, rfl, hne⟩ := hrel
    have hkb : (k : Int) ≤ 281474976710656 := by omega
    by_cases hlt : k < l.length
    · obtain ⟨b, o, rfl, _, g3⟩ := H1.out k hlt
      have hkn : (k : Int) < (l.length : Int) := by omega
      by_cases hs : l.getD k [] = a
      · have HR := Lib.hid (YES.out k hlt hs)
        rw [hs] at g3
        clear hs hlt
        go_wp2_with fail
        go_ret
        exact ⟨by rw [HR.out]; rfl, rfl⟩
      · have NX : Hid (∀ j, j < k + 1 → l.getD j [] ≠ a) := Lib.hid (fun j hj => by
          rcases Nat.lt_or_ge j k with h | h
          · exact hne.out j h
          · obtain rfl : j = k := by omega
            exact hs)
        generalize l.getD k [] = x at *
        have hxa : (x == a) = false := by rw [beq_eq_false_iff_ne]; exact hs
        clear hs hlt hne
        go_wp2_with fail
        go_roundw
        case rel => exact ⟨k + 1, by omega, by go_num, trivial, NX⟩
        case measure => show l.length - ((k : Int) + 1).toNat < l.length - ((k : Int)).toNat; omega
    · have HR := Lib.hid (NO.out (fun j hj => hne.out j (by omega)))
      have hkn : ¬ (k : Int) < (l.length : Int) := by omega
      clear hlt hne
      go_wp2_with fail
      go_ret
      exact ⟨by rw [HR.out]; rfl, rfl⟩
end Go.Proofs.YtdcnlgjngfmbcaaDoor
