/- number of the reference of layer 2: a decimal without needless noughts, six digits at most, that begins at a place. -/
import Derived.Test.YtohodbpjcbjifaaGreatDoorHs
namespace Go.Proofs.YtohodbpjcbjifaaGreatDoor
open Go Go.RowKit Go.Shelf Go.Sort
set_option maxHeartbeats 400000
set_option maxRecDepth 100000
set_option linter.unusedVariables false

/-- Is a byte a digit? -/
def dgt (c : UInt8) : Bool := decide (48 ≤ c.toNat ∧ c.toNat ≤ 57)
/-- The number that digits spell. -/
def decV (d : List UInt8) : Int := d.foldl (fun n c => 10 * n + ((c.toNat : Int) - 48)) 0
theorem decV_snoc (d : List UInt8) (c : UInt8) : decV (d ++ [c]) = 10 * decV d + ((c.toNat : Int) - 48) := by simp [decV]
theorem decV_bound' (d : List UInt8) (n : Int) (m : Nat) (h : ∀ c ∈ d, dgt c = true) (h0 : 0 ≤ n) (h1 : n < 10 ^ m) :
    0 ≤ d.foldl (fun n c => 10 * n + ((c.toNat : Int) - 48)) n ∧ d.foldl (fun n c => 10 * n + ((c.toNat : Int) - 48)) n < 10 ^ (m + d.length) := by
  induction d generalizing n m with
  | nil => exact ⟨h0, h1⟩
  | cons c r ih =>
    have hc := h c (by simp)
    unfold dgt at hc
    have hc' := of_decide_eq_true hc
    have h2 := ih (10 * n + ((c.toNat : Int) - 48)) (m + 1) (fun x hx => h x (by simp [hx])) (by omega) (by rw [Int.pow_succ]; omega)
    rw [List.foldl_cons, List.length_cons, show m + (r.length + 1) = m + 1 + r.length by omega]
    exact h2
theorem decV_bound (d : List UInt8) (h : ∀ c ∈ d, dgt c = true) : 0 ≤ decV d ∧ decV d < 10 ^ d.length := by
  have := decV_bound' d 0 0 h (by omega) (by decide)
  rwa [Nat.zero_add] at this

/-- The digits that begin at a place, six at most. -/
def numD (l : List UInt8) (p : Nat) : List UInt8 := ((l.drop p).take 6).takeWhile dgt
def numR (l : List UInt8) (p : Nat) : Int × Int × Bool :=
  (decV (numD l p), (p : Int) + (numD l p).length, decide (0 < (numD l p).length ∧ ((l.getD p 0).toNat ≠ 48 ∨ (numD l p).length = 1)))

theorem takeWhile_take (f : UInt8 → Bool) : ∀ (L : List UInt8) (m k : Nat), k ≤ m → (∀ c ∈ L.take k, f c = true) → (k = m ∨ L.length ≤ k ∨ ∃ h : k < L.length, f L[k] = false) → (L.take m).takeWhile f = L.take k
  | [], m, k, _, _, _ => by simp
  | c :: r, m, 0, _, _, hs => by
    cases m with
    | zero => simp
    | succ m =>
      rcases hs with h | h | ⟨h, h'⟩
      · omega
      · simp at h
      · simp only [List.getElem_cons_zero] at h'
        simp [h']
  | c :: r, m, k + 1, hm, hall, hs => by
    obtain ⟨m, rfl⟩ : ∃ q, m = q + 1 := ⟨m - 1, by omega⟩
    have hc : f c = true := hall c (by simp)
    have ih := takeWhile_take f r m k (by omega) (fun x hx => hall x (by simp [hx])) (by
      rcases hs with h | h | ⟨h, h'⟩
      · exact .inl (by omega)
      · exact .inr (.inl (by simp at h; omega))
      · exact .inr (.inr ⟨by simpa using h, by simpa using h'⟩))
    simp [hc, ih]

theorem numR_eq {l : List UInt8} {p k : Nat} (hk : k ≤ 6) (hpk : p + k ≤ l.length) (hall : ∀ c ∈ (l.drop p).take k, dgt c = true) (hs : k = 6 ∨ l.length ≤ p + k ∨ ∃ h : p + k < l.length, dgt l[p + k] = false) :
    numR l p = (decV ((l.drop p).take k), (p : Int) + k, decide (0 < k ∧ ((l.getD p 0).toNat ≠ 48 ∨ k = 1))) := by
  have e : numD l p = (l.drop p).take k := takeWhile_take dgt (l.drop p) 6 k hk hall (by
    rcases hs with h | h | ⟨h, h'⟩
    · exact .inl h
    · exact .inr (.inl (by simp; omega))
    · exact .inr (.inr ⟨by simp; omega, by simpa using h'⟩))
  have el : ((l.drop p).take k).length = k := by simp; omega
  unfold numR
  rw [e, el]

theorem byte_at (s : ByteArray) (i : Nat) (h : i < s.size) : s[i] = s.data.toList.getD i 0 := by
  obtain ⟨⟨l⟩⟩ := s
  have h' : i < l.length := h
  rw [List.getD, List.getElem?_eq_getElem h']
  rfl
theorem size_list (s : ByteArray) : s.data.toList.length = s.size := by rw [← Lib.size_eq]

theorem number_any (s : ByteArray) (p : Nat) (hp : p ≤ s.size) (hs : s.size ≤ 32) (W : World) :
    Calls Tryz.prog 56 #[.string s, .int .i64 p] W fun e w' => e = .returned (.tuple #[.int .i64 (numR s.data.toList p).1, .int .i64 (numR s.data.toList p).2.1, .bool (numR s.data.toList p).2.2]) ∧ W = w' := by
  have L := size_list s
  have BA := Lib.hid (byte_at s)
  go_enter Tryz.func56, Tryz.ntmps56
  go_wp2_with fail
  go_loop [1, 8] (fun i n => ∃ k : Nat, k ≤ 6 ∧ p + k ≤ s.size ∧ i = .int .i64 ((p : Int) + k) ∧ Hid (∀ c ∈ (s.data.toList.drop p).take k, dgt c = true) ∧ n = .int .i64 (decV ((s.data.toList.drop p).take k))) (fun i _ => s.size - (intOf i).toNat)
  case atStart => exact ⟨0, by omega, by omega, by simp, by intro c hc; simp at hc, by simp [decV]⟩
  case round =>
    obtain ⟨k, hk, hpk, rfl, hall, rfl⟩ := hrel
    have hb := decV_bound _ hall
    have hb' : (10 : Int) ^ ((s.data.toList.drop p).take k).length ≤ 1000000 := by
      have h1 : ((s.data.toList.drop p).take k).length ≤ 6 := by simp; omega
      have h2 : (10 : Nat) ^ ((s.data.toList.drop p).take k).length ≤ 10 ^ 6 := Nat.pow_le_pow_right (by decide) h1
      have h3 : (((10 : Nat) ^ ((s.data.toList.drop p).take k).length : Nat) : Int) ≤ ((10 ^ 6 : Nat) : Int) := Int.ofNat_le.2 h2
      simpa using h3
    by_cases hc : k < 6 ∧ ∃ h : p + k < s.size, 48 ≤ s[p + k].toNat ∧ s[p + k].toNat ≤ 57
    · obtain ⟨h6, hlt, h48, h57⟩ := hc
      have TK : Hid ((s.data.toList.drop p).take (k + 1) = (s.data.toList.drop p).take k ++ [s[p + k]]) := by
        have h1 : k < (s.data.toList.drop p).length := by simp; omega
        have h2 : (s.data.toList.drop p)[k] = s[p + k] := by
          rw [byte_at s (p + k) hlt, List.getElem_drop, List.getD, List.getElem?_eq_getElem (by omega)]
          rfl
        show _ = _
        rw [List.take_succ_eq_append_getElem h1, h2]
      have SN := Lib.hid (decV_snoc ((s.data.toList.drop p).take k) s[p + k])
      have n0 : 0 ≤ decV ((s.data.toList.drop p).take k) := hb.1
      have n1 : decV ((s.data.toList.drop p).take k) ≤ 1000000 := by omega
      clear hb hb'
      generalize hn : decV ((s.data.toList.drop p).take k) = n at *
      clear hn
      go_wp2_with fail
      go_roundw
      case rel =>
        refine ⟨k + 1, by omega, by omega, by go_num, ?_, by rw [TK.out, SN.out]⟩
        rw [TK.out]
        intro c hc
        rw [List.mem_append, List.mem_singleton] at hc
        rcases hc with hc | rfl
        · exact hall c hc
        · unfold dgt; exact decide_eq_true ⟨h48, h57⟩
      case measure => simp [intOf]; omega
    · have NR := numR_eq (l := s.data.toList) (p := p) hk (by omega) hall (by
        by_cases h6 : k = 6
        · exact .inl h6
        · by_cases hlt : p + k < s.size
          · refine .inr (.inr ⟨by omega, ?_⟩)
            unfold dgt
            apply decide_eq_false
            intro h
            refine hc ⟨by omega, hlt, ?_⟩
            rw [byte_at s (p + k) hlt, List.getD, List.getElem?_eq_getElem (by omega)]
            exact h
          · exact .inr (.inl (by omega)))
      generalize hn : decV ((s.data.toList.drop p).take k) = n at *
      clear hn hb hb'
      by_cases h0 : k = 0
      · subst h0
        have hc' : ¬ ∃ h : p < s.size, 48 ≤ s[p].toNat ∧ s[p].toNat ≤ 57 := by simpa using hc
        have HC := Lib.hid hc'; clear hc hc'
        have NR' : numR s.data.toList p = (n, (p : Int), false) := by rw [NR]; simp
        have N := Lib.hid NR'
        clear NR NR'
        go_wp2_with fail
        all_goals first | (go_ret3; exact ⟨by rw [N.out]; rfl, rfl⟩) | (exfalso; have hx := HC.out; have hy : p < s.size := (by omega); exact hx ⟨hy, by omega, by omega⟩)
      · have HC := Lib.hid hc; clear hc
        have hp1 : p < s.size := by omega
        have e0 : s[p] = s.data.toList.getD p 0 := byte_at s p hp1
        by_cases hz : s[p].toNat = 48
        · by_cases h1 : k = 1
          · subst h1
            have NR' : numR s.data.toList p = (n, (p : Int) + 1, true) := by rw [NR]; simp
            have N := Lib.hid NR'
            have Z : (s[p].toNat : Int) = 48 := by omega
            clear NR NR' hz e0
            go_wp2_with fail
            all_goals first | (go_ret3; exact ⟨by rw [N.out]; rfl, rfl⟩) | (exfalso; have hx := HC.out; have hy : p + 1 < s.size := (by omega); exact hx ⟨by omega, hy, by omega, by omega⟩)
          · have NR' : numR s.data.toList p = (n, (p : Int) + k, false) := by rw [NR, ← e0, hz]; simp [h1]
            have N := Lib.hid NR'
            have Z : (s[p].toNat : Int) = 48 := by omega
            have h0' : 1 < k := by omega
            clear NR NR' hz e0 h0 h1
            go_wp2_with fail
            all_goals first | (go_ret3; exact ⟨by rw [N.out]; have hq : ((p : Int) + k == (p : Int) + 1) = false := (by simp; omega); first | rfl | (rw [← hq]; rfl), rfl⟩) | (exfalso; have hx := HC.out; have hy : p + k < s.size := (by omega); exact hx ⟨by omega, hy, by omega, by omega⟩)
        · have NR' : numR s.data.toList p = (n, (p : Int) + k, true) := by rw [NR, ← e0]; simp [hz]; omega
          have N := Lib.hid NR'
          have Z : ¬ (s[p].toNat : Int) = 48 := by omega
          have h0' : 0 < k := by omega
          clear NR NR' hz e0 h0
          go_wp2_with fail
          all_goals first | (go_ret3; exact ⟨by rw [N.out]; rfl, rfl⟩) | (exfalso; have hx := HC.out; have hy : p + k < s.size := (by omega); exact hx ⟨by omega, hy, by omega, by omega⟩)
end Go.Proofs.YtohodbpjcbjifaaGreatDoor
