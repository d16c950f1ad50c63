/- Numbers: lex.Number and titheref24.Number at every text. (Printed by mknb.py.) -/
import Derived.Test.YtdcnlgjngfmbcaaDoorNa
import Derived.Test.YtdcnlgjngfmbcaaDoorLl
import Derived.Lib.AtoiErr
import Derived.Lib.AtoiTie
import Derived.Lib.QuietBelow
import Derived.Lib.SmallJoins
namespace Go.Proofs.YtdcnlgjngfmbcaaDoor
open Go Go.RowKit Go.Shelf
set_option linter.unusedVariables false
set_option maxRecDepth 100000
set_option maxHeartbeats 1600000

/-- A text as a number: the number and the error's number. -/
def numS (l : List UInt8) : Int × Int :=
  if l = [] ∨ 10 < l.length ∨ (1 < l.length ∧ l.getD 0 0 = 48) then (0, 4) else
    match Lib.decFrom 0 l with
    | none => (0, 4)
    | some n => if 2147483647 < n then (0, 2) else ((n : Int), 0)
theorem dec_all (l : List UInt8) (h : ∀ k, k < l.length → 48 ≤ (l.getD k 0).toNat ∧ (l.getD k 0).toNat ≤ 57) : ∃ n, Lib.decFrom 0 l = some n := by
  cases e : Lib.decFrom 0 l with
  | some n => exact ⟨n, rfl⟩
  | none =>
    obtain ⟨k, b, m, hb, hd, _⟩ := Lib.decFrom_none l 0 e
    have hk : k < l.length := (List.getElem?_eq_some_iff.1 hb).1
    have := h k hk
    rw [List.getD, hb] at this
    have h2 := Lib.digitVal_none hd
    simp only [Option.getD_some] at this
    omega
theorem dec_bad (l : List UInt8) (k : Nat) (hk : k < l.length) (h : ¬ (48 ≤ (l.getD k 0).toNat ∧ (l.getD k 0).toNat ≤ 57)) : Lib.decFrom 0 l = none := by
  cases e : Lib.decFrom 0 l with
  | none => rfl
  | some n =>
    obtain ⟨d, hd⟩ := Lib.digit_of_decFrom l 0 n e k (l.getD k 0) (by rw [List.getD, List.getElem?_eq_getElem hk]; rfl)
    have := Lib.digitVal_eq hd
    omega
theorem numS_dec {s : ByteArray} {n : Nat} (h0 : 0 < s.size) (h1 : s.size ≤ 10) (h2 : ¬ (1 < s.size ∧ (s[0]'h0).toNat = 48)) (h : Lib.decFrom 0 s.data.toList = some n) :
    numS s.data.toList = if 2147483647 < n then (0, 2) else ((n : Int), 0) := by
  have hl : s.data.toList.length = s.size := Array.length_toList
  unfold numS
  rw [if_neg, h]
  rintro (e | e | ⟨e1, e2⟩)
  · rw [e] at hl; simp at hl; omega
  · omega
  · rw [byte_at s 0 h0] at e2
    exact h2 ⟨by omega, by rw [e2]; rfl⟩
theorem numS_bad {s : ByteArray} {k : Nat} (hk : k < s.size) (h : ¬ (48 ≤ (s[k]).toNat ∧ (s[k]).toNat ≤ 57)) : numS s.data.toList = (0, 4) := by
  have hl : s.data.toList.length = s.size := Array.length_toList
  unfold numS
  rw [dec_bad s.data.toList k (by omega) (by rw [byte_at s k hk]; exact h)]
  split <;> rfl
theorem numS_form {l : List UInt8} (h : l = [] ∨ 10 < l.length ∨ (1 < l.length ∧ l.getD 0 0 = 48)) : numS l = (0, 4) := by
  unfold numS; rw [if_pos h]
theorem atoi_dec {l : List UInt8} {n : Nat} (h0 : 0 < l.length) (h1 : l.length ≤ 18) (h : Lib.decFrom 0 l = some n) : Lib.atoiAll l = .ok (n : Int) := by
  rw [Lib.atoiAll_short l h1]
  cases l with
  | nil => simp at h0
  | cons b r =>
    obtain ⟨d, hd⟩ := Lib.digit_of_decFrom _ 0 n h 0 b rfl
    have hb := Lib.digitVal_eq hd
    have e1 : (b == 45) = false := by rw [beq_eq_false_iff_ne]; rintro rfl; exact absurd hb.1 (by decide)
    have e2 : (b == 43) = false := by rw [beq_eq_false_iff_ne]; rintro rfl; exact absurd hb.1 (by decide)
    simp only [Lib.atoi, e1, e2, Lib.decNat, List.isEmpty_cons]
    simp [h, Lib.NumEnd.ofOption]
theorem atoi_dig (s : ByteArray) (n : Nat) (h0 : 0 < s.size) (h1 : s.size ≤ 10) (h : Lib.decFrom 0 s.data.toList = some n) (W : World) :
    Calls Tryd.prog 35 #[.string s] W fun e w' => e = .returned (.tuple #[.int .i64 (n : Int), .nilIface]) ∧ Below W.heap.size W w' := by
  have hl : s.data.toList.length = s.size := Array.length_toList
  refine (Tryd.strconv_Atoi_ok s (by omega) n (atoi_dec (by omega) (by omega) h) W).mono ?_
  rintro e w' ⟨he, hw⟩
  refine ⟨he, ?_⟩
  rcases hw with rfl | ⟨t, rfl⟩
  · exact Below.refl _ _
  · exact Joins.below_bytesWorld _ _ _ _ (Nat.le_refl _)

theorem num_form (s : ByteArray) (W : World) (hs : s.size ≤ 140737488355328) (h : s.data.toList = [] ∨ 10 < s.data.toList.length ∨ (1 < s.data.toList.length ∧ s.data.toList.getD 0 0 = 48)) :
    Calls Tryd.prog 20 #[.string s] W fun e w' => e = .returned (.tuple #[.int .i64 0, errN 4]) ∧ W = w' := by
  have hl : s.data.toList.length = s.size := Array.length_toList
  by_cases h0 : s.size = 0
  · rw [nil_of_size h0]
    clear h h0 hs hl
    go_enter Tryd.func20, Tryd.ntmps20
    go_wp2_with fail
    go_ret2
    exact ⟨rfl, rfl⟩
  · have he := ne_of_size (s := s) (by omega)
    have hp : 0 < s.size := by omega
    by_cases h1 : 10 < s.size
    · have h1' : (10 : Int) < (s.size : Int) := by omega
      clear h h0 h1 hl
      go_enter Tryd.func20, Tryd.ntmps20
      go_wp2_with fail
      go_ret2
      exact ⟨rfl, rfl⟩
    · have h1' : ¬ (10 : Int) < (s.size : Int) := by omega
      have h2 : 1 < s.size ∧ s.data.toList.getD 0 0 = 48 := by
        rcases h with h | h | h
        · rw [h] at hl; simp at hl; omega
        · omega
        · exact ⟨by omega, h.2⟩
      have h3 : (1 : Int) < (s.size : Int) := by omega
      have h3' : decide ((1 : Int) < (s.size : Int)) = true := decide_eq_true h3
      have h4 : ((((s[0]).toNat : Int)) == 48) = true := by have e := h2.2; rw [byte_at s 0 hp] at e; rw [e]; rfl
      clear h h0 h1 hl h2
      go_enter Tryd.func20, Tryd.ntmps20
      go_wp2_with fail
      go_ret2
      exact ⟨rfl, rfl⟩

theorem rnum_form (s : ByteArray) (W : World) (hs : s.size ≤ 140737488355328) (h : s.data.toList = [] ∨ 10 < s.data.toList.length ∨ (1 < s.data.toList.length ∧ s.data.toList.getD 0 0 = 48)) :
    Calls Tryd.prog 21 #[.string s] W fun e w' => e = .returned (.tuple #[.int .i64 0, .int .i64 4]) ∧ W = w' := by
  have hl : s.data.toList.length = s.size := Array.length_toList
  by_cases h0 : s.size = 0
  · rw [nil_of_size h0]
    clear h h0 hs hl
    go_enter Tryd.func21, Tryd.ntmps21
    go_wp2_with fail
    go_ret2
    exact ⟨rfl, rfl⟩
  · have he := ne_of_size (s := s) (by omega)
    have hp : 0 < s.size := by omega
    by_cases h1 : 10 < s.size
    · have h1' : (10 : Int) < (s.size : Int) := by omega
      clear h h0 h1 hl
      go_enter Tryd.func21, Tryd.ntmps21
      go_wp2_with fail
      go_ret2
      exact ⟨rfl, rfl⟩
    · have h1' : ¬ (10 : Int) < (s.size : Int) := by omega
      have h2 : 1 < s.size ∧ s.data.toList.getD 0 0 = 48 := by
        rcases h with h | h | h
        · rw [h] at hl; simp at hl; omega
        · omega
        · exact ⟨by omega, h.2⟩
      have h3 : (1 : Int) < (s.size : Int) := by omega
      have h3' : decide ((1 : Int) < (s.size : Int)) = true := decide_eq_true h3
      have h4 : ((((s[0]).toNat : Int)) == 48) = true := by have e := h2.2; rw [byte_at s 0 hp] at e; rw [e]; rfl
      clear h h0 h1 hl h2
      go_enter Tryd.func21, Tryd.ntmps21
      go_wp2_with fail
      go_ret2
      exact ⟨rfl, rfl⟩

theorem num_any (s : ByteArray) (W : World) (hs : s.size ≤ 140737488355328) :
    Calls Tryd.prog 20 #[.string s] W fun e w' => e = .returned (.tuple #[.int .i64 (numS s.data.toList).1, errOf (numS s.data.toList).2]) ∧ Below W.heap.size W w' := by
  by_cases hform : s.data.toList = [] ∨ 10 < s.data.toList.length ∨ (1 < s.data.toList.length ∧ s.data.toList.getD 0 0 = 48)
  · refine (num_form s W hs hform).mono ?_
    rintro e w' ⟨rfl, rfl⟩
    rw [numS_form hform]
    exact ⟨rfl, Below.refl _ _⟩
  obtain ⟨h0, h10, hlead⟩ : 0 < s.size ∧ s.size ≤ 10 ∧ ¬ (1 < s.size ∧ s.data.toList.getD 0 0 = 48) := by
    have hl : s.data.toList.length = s.size := Array.length_toList
    refine ⟨Nat.pos_of_ne_zero (fun e => hform (.inl ?_)), Nat.le_of_not_lt (fun e => hform (.inr (.inl (by omega)))), fun e => hform (.inr (.inr ⟨by omega, e.2⟩))⟩
    exact List.eq_nil_of_length_eq_zero (by omega)
  have he := ne_of_size h0
  have h1 : ¬ (10 : Int) < (s.size : Int) := by omega
  have hl2 : ¬ (1 < s.size ∧ (s[0]).toNat = 48) := fun e => hlead ⟨e.1, by rw [byte_at s 0 h0]; exact UInt8.toNat_inj.1 e.2⟩
  have OKD := Lib.hid (fun n h => numS_dec (s := s) (n := n) h0 h10 hl2 h)
  have BAD := Lib.hid (fun k h hb => numS_bad (s := s) (k := k) h hb)
  have AT := Lib.hid (fun n h => atoi_dig s n h0 h10 h)
  have ALL : Hid ((∀ k, (hk : k < s.size) → 48 ≤ (s[k]).toNat ∧ (s[k]).toNat ≤ 57) → ∃ n, Lib.decFrom 0 s.data.toList = some n ∧ n < 1000000000000000000) := Lib.hid (fun h => by
    have hl : s.data.toList.length = s.size := Array.length_toList
    obtain ⟨n, hn⟩ := dec_all s.data.toList (fun k hk => by rw [byte_at s k (by omega)]; exact h k (by omega))
    exact ⟨n, hn, Lib.decFrom_lt18 hn (by omega)⟩)
  generalize hR : numS s.data.toList = R at *
  clear hform hlead hR
  by_cases hz : (s[0]).toNat = 48
  · have hz0 : ((((s[0]).toNat : Int)) == 48) = true := by rw [hz]; rfl
    have hz1 : decide ((1 : Int) < (s.size : Int)) = false := by exact decide_eq_false (by omega)
    clear hz hl2
    go_enter Tryd.func20, Tryd.ntmps20
    go_wp2_with fail
    clear hz0 hz1
    go_loopw [27] (fun i wr => ∃ pos : Nat, i = .int .i64 pos ∧ wr = W ∧ pos ≤ s.size ∧ Hid (∀ k, k < pos → (hk : k < s.size) → 48 ≤ (s[k]).toNat ∧ (s[k]).toNat ≤ 57)) (fun i _ => s.size - (intOf i).toNat)
    case atStart => exact ⟨0, by go_num, rfl, Nat.zero_le _, Lib.hid (fun k hk => absurd hk (Nat.not_lt_zero _))⟩
    case round =>
      obtain ⟨pos, rfl, rfl, hpos, hok⟩ := hrel
      have hpi : (pos : Int) ≤ 10 := by omega
      by_cases hlt : pos < s.size
      rotate_left
      · obtain ⟨n, hn, hnb⟩ := ALL.out (fun k hk => hok.out k (by omega) hk)
        have hR := OKD.out n hn
        have AC := Lib.hid (AT.out n hn)
        have hlt' : ¬ (pos : Int) < (s.size : Int) := by omega
        clear hnb
        clear hlt hpos hn
        by_cases hbig : 2147483647 < n
        · have hbig' : (2147483647 : Int) < (n : Int) := by omega
          have HR : Hid (R = (0, 2)) := Lib.hid (by rw [hR, if_pos hbig])
          clear hbig hR
          go_wp2_with fail
          refine (AC.out wr).mono ?_
          rintro e w1 ⟨rfl, be⟩
          go_wp2_with fail
          go_ret2
          exact ⟨by rw [HR.out]; rfl, be⟩
        · have hbig' : ¬ (2147483647 : Int) < (n : Int) := by omega
          have HR : Hid (R = ((n : Int), 0)) := Lib.hid (by rw [hR, if_neg hbig])
          clear hbig hR
          go_wp2_with fail
          refine (AC.out wr).mono ?_
          rintro e w1 ⟨rfl, be⟩
          go_wp2_with fail
          go_ret2
          exact ⟨by rw [HR.out]; rfl, be⟩
      · have hlt' : (pos : Int) < (s.size : Int) := by omega
        by_cases hb : 48 ≤ (s[pos]).toNat ∧ (s[pos]).toNat ≤ 57
        · have NX : Hid (∀ k, k < pos + 1 → (hk : k < s.size) → 48 ≤ (s[k]).toNat ∧ (s[k]).toNat ≤ 57) := Lib.hid (fun k hk hk' => by
            rcases Nat.lt_or_ge k pos with h | h
            · exact hok.out k h hk'
            · obtain rfl : k = pos := by omega
              exact hb)
          have hix : ∀ w, (Instr.index 9 (.string s) (.int .i64 (pos : Int))).run Tryd.prog w = .ok (.int .u8 (s[pos]).toNat) w := fun w => by
            rw [run_index_string _ _ _ _ _ Tryd.underlying9]; simp [hlt]
          generalize (s[pos]).toNat = n at *
          have f0 : ¬ (n : Int) < 48 := by omega
          have f1 : decide ((57 : Int) < (n : Int)) = false := decide_eq_false (by omega)
          clear hb hok hpos
          go_wp2_with fail
          go_roundw
          case rel => exact ⟨pos + 1, by go_num, trivial, by omega, NX⟩
          case measure => show s.size - ((pos : Int) + 1).toNat < s.size - ((pos : Int)).toNat; omega
        · have HR : Hid (R = (0, 4)) := Lib.hid (BAD.out pos hlt hb)
          have hix : ∀ w, (Instr.index 9 (.string s) (.int .i64 (pos : Int))).run Tryd.prog w = .ok (.int .u8 (s[pos]).toNat) w := fun w => by
            rw [run_index_string _ _ _ _ _ Tryd.underlying9]; simp [hlt]
          generalize (s[pos]).toNat = n at *
          clear hok hpos
          by_cases hlo : n < 48
          · have f0 : (n : Int) < 48 := by omega
            clear hb hlo
            go_wp2_with fail
            go_ret2
            exact ⟨by rw [HR.out]; rfl, Below.refl _ _⟩
          · have f0 : ¬ (n : Int) < 48 := by omega
            have f1 : decide ((57 : Int) < (n : Int)) = true := decide_eq_true (by omega)
            clear hb hlo
            go_wp2_with fail
            go_ret2
            exact ⟨by rw [HR.out]; rfl, Below.refl _ _⟩
  · have hz0 : ((((s[0]).toNat : Int)) == 48) = false := by rw [beq_eq_false_iff_ne]; omega
    have hz1 : True := by trivial
    clear hz hl2
    go_enter Tryd.func20, Tryd.ntmps20
    go_wp2_with fail
    clear hz0 hz1
    go_loopw [27] (fun i wr => ∃ pos : Nat, i = .int .i64 pos ∧ wr = W ∧ pos ≤ s.size ∧ Hid (∀ k, k < pos → (hk : k < s.size) → 48 ≤ (s[k]).toNat ∧ (s[k]).toNat ≤ 57)) (fun i _ => s.size - (intOf i).toNat)
    case atStart => exact ⟨0, by go_num, rfl, Nat.zero_le _, Lib.hid (fun k hk => absurd hk (Nat.not_lt_zero _))⟩
    case round =>
      obtain ⟨pos, rfl, rfl, hpos, hok⟩ := hrel
      have hpi : (pos : Int) ≤ 10 := by omega
      by_cases hlt : pos < s.size
      rotate_left
      · obtain ⟨n, hn, hnb⟩ := ALL.out (fun k hk => hok.out k (by omega) hk)
        have hR := OKD.out n hn
        have AC := Lib.hid (AT.out n hn)
        have hlt' : ¬ (pos : Int) < (s.size : Int) := by omega
        clear hnb
        clear hlt hpos hn
        by_cases hbig : 2147483647 < n
        · have hbig' : (2147483647 : Int) < (n : Int) := by omega
          have HR : Hid (R = (0, 2)) := Lib.hid (by rw [hR, if_pos hbig])
          clear hbig hR
          go_wp2_with fail
          refine (AC.out wr).mono ?_
          rintro e w1 ⟨rfl, be⟩
          go_wp2_with fail
          go_ret2
          exact ⟨by rw [HR.out]; rfl, be⟩
        · have hbig' : ¬ (2147483647 : Int) < (n : Int) := by omega
          have HR : Hid (R = ((n : Int), 0)) := Lib.hid (by rw [hR, if_neg hbig])
          clear hbig hR
          go_wp2_with fail
          refine (AC.out wr).mono ?_
          rintro e w1 ⟨rfl, be⟩
          go_wp2_with fail
          go_ret2
          exact ⟨by rw [HR.out]; rfl, be⟩
      · have hlt' : (pos : Int) < (s.size : Int) := by omega
        by_cases hb : 48 ≤ (s[pos]).toNat ∧ (s[pos]).toNat ≤ 57
        · have NX : Hid (∀ k, k < pos + 1 → (hk : k < s.size) → 48 ≤ (s[k]).toNat ∧ (s[k]).toNat ≤ 57) := Lib.hid (fun k hk hk' => by
            rcases Nat.lt_or_ge k pos with h | h
            · exact hok.out k h hk'
            · obtain rfl : k = pos := by omega
              exact hb)
          have hix : ∀ w, (Instr.index 9 (.string s) (.int .i64 (pos : Int))).run Tryd.prog w = .ok (.int .u8 (s[pos]).toNat) w := fun w => by
            rw [run_index_string _ _ _ _ _ Tryd.underlying9]; simp [hlt]
          generalize (s[pos]).toNat = n at *
          have f0 : ¬ (n : Int) < 48 := by omega
          have f1 : decide ((57 : Int) < (n : Int)) = false := decide_eq_false (by omega)
          clear hb hok hpos
          go_wp2_with fail
          go_roundw
          case rel => exact ⟨pos + 1, by go_num, trivial, by omega, NX⟩
          case measure => show s.size - ((pos : Int) + 1).toNat < s.size - ((pos : Int)).toNat; omega
        · have HR : Hid (R = (0, 4)) := Lib.hid (BAD.out pos hlt hb)
          have hix : ∀ w, (Instr.index 9 (.string s) (.int .i64 (pos : Int))).run Tryd.prog w = .ok (.int .u8 (s[pos]).toNat) w := fun w => by
            rw [run_index_string _ _ _ _ _ Tryd.underlying9]; simp [hlt]
          generalize (s[pos]).toNat = n at *
          clear hok hpos
          by_cases hlo : n < 48
          · have f0 : (n : Int) < 48 := by omega
            clear hb hlo
            go_wp2_with fail
            go_ret2
            exact ⟨by rw [HR.out]; rfl, Below.refl _ _⟩
          · have f0 : ¬ (n : Int) < 48 := by omega
            have f1 : decide ((57 : Int) < (n : Int)) = true := decide_eq_true (by omega)
            clear hb hlo
            go_wp2_with fail
            go_ret2
            exact ⟨by rw [HR.out]; rfl, Below.refl _ _⟩

theorem rnum_any (s : ByteArray) (W : World) (hs : s.size ≤ 140737488355328) :
    Calls Tryd.prog 21 #[.string s] W fun e w' => e = .returned (.tuple #[.int .i64 (numS s.data.toList).1, .int .i64 (numS s.data.toList).2]) ∧ W = w' := by
  by_cases hform : s.data.toList = [] ∨ 10 < s.data.toList.length ∨ (1 < s.data.toList.length ∧ s.data.toList.getD 0 0 = 48)
  · refine (rnum_form s W hs hform).mono ?_
    rintro e w' ⟨rfl, rfl⟩
    rw [numS_form hform]
    exact ⟨rfl, rfl⟩
  obtain ⟨h0, h10, hlead⟩ : 0 < s.size ∧ s.size ≤ 10 ∧ ¬ (1 < s.size ∧ s.data.toList.getD 0 0 = 48) := by
    have hl : s.data.toList.length = s.size := Array.length_toList
    refine ⟨Nat.pos_of_ne_zero (fun e => hform (.inl ?_)), Nat.le_of_not_lt (fun e => hform (.inr (.inl (by omega)))), fun e => hform (.inr (.inr ⟨by omega, e.2⟩))⟩
    exact List.eq_nil_of_length_eq_zero (by omega)
  have he := ne_of_size h0
  have h1 : ¬ (10 : Int) < (s.size : Int) := by omega
  have hl2 : ¬ (1 < s.size ∧ (s[0]).toNat = 48) := fun e => hlead ⟨e.1, by rw [byte_at s 0 h0]; exact UInt8.toNat_inj.1 e.2⟩
  have OKD := Lib.hid (fun n h => numS_dec (s := s) (n := n) h0 h10 hl2 h)
  have BAD := Lib.hid (fun k h hb => numS_bad (s := s) (k := k) h hb)
  have AT := Lib.hid (fun n h => atoi_dig s n h0 h10 h)
  have ALL : Hid ((∀ k, (hk : k < s.size) → 48 ≤ (s[k]).toNat ∧ (s[k]).toNat ≤ 57) → ∃ n, Lib.decFrom 0 s.data.toList = some n ∧ n < 1000000000000000000) := Lib.hid (fun h => by
    have hl : s.data.toList.length = s.size := Array.length_toList
    obtain ⟨n, hn⟩ := dec_all s.data.toList (fun k hk => by rw [byte_at s k (by omega)]; exact h k (by omega))
    exact ⟨n, hn, Lib.decFrom_lt18 hn (by omega)⟩)
  generalize hR : numS s.data.toList = R at *
  have STEP : Hid (∀ k acc : Nat, (hk : k < s.size) → Lib.decFrom 0 (s.data.toList.take k) = some acc → 48 ≤ (s[k]).toNat → (s[k]).toNat ≤ 57 → Lib.decFrom 0 (s.data.toList.take (k + 1)) = some (acc * 10 + ((s[k]).toNat - 48))) := Lib.hid (fun k acc hk h a b => Lib.decFrom_take s.data.toList k 0 acc (s[k]) _ h (by rw [List.getElem?_eq_getElem (by rw [Array.length_toList]; exact hk)]; rfl) (by unfold Lib.digitVal; rw [if_pos ⟨a, b⟩]))
  have FULL : Hid (s.data.toList.take s.size = s.data.toList) := Lib.hid (List.take_of_length_le (by rw [Array.length_toList]; exact Nat.le_refl _))
  clear hform hlead hR AT ALL
  rcases (by omega : (s[0]).toNat = 48 ∨ ((s[0]).toNat ≠ 48 ∧ 1 < s.size) ∨ ((s[0]).toNat ≠ 48 ∧ ¬ 1 < s.size)) with hz | ⟨hz, hs1⟩ | ⟨hz, hs1⟩
  · have hz0 : ((((s[0]).toNat : Int)) == 48) = true := by rw [hz]; rfl
    have hz1 : decide ((1 : Int) < (s.size : Int)) = false := by exact decide_eq_false (by omega)
    have hz2 : ¬ (1 : Int) < (s.size : Int) := by omega
    clear hz hl2
    try clear hs1
    go_enter Tryd.func21, Tryd.ntmps21
    go_wp2_with fail
    clear hz0 hz1 hz2
    go_loopw [4, 5] (fun v i wr => ∃ pos acc : Nat, v = .int .i64 acc ∧ i = .int .i64 pos ∧ wr = W ∧ pos ≤ s.size ∧ acc < 100000000000000000 ∧ Hid (Lib.decFrom 0 (s.data.toList.take pos) = some acc)) (fun _ i _ => s.size - (intOf i).toNat)
    case atStart => exact ⟨0, 0, by go_num, by go_num, rfl, Nat.zero_le _, by omega, Lib.hid rfl⟩
    case round =>
      obtain ⟨pos, acc, rfl, rfl, rfl, hpos, hacc, hok⟩ := hrel
      have hpi : (pos : Int) ≤ 10 := by omega
      have hai : (acc : Int) < 100000000000000000 := by omega
      by_cases hlt : pos < s.size
      rotate_left
      · have hps : pos = s.size := by omega
        have hR := OKD.out acc (by have := hok.out; rwa [hps, FULL.out] at this)
        have hlt' : ¬ (pos : Int) < (s.size : Int) := by omega
        clear hlt hpos hps
        by_cases hbig : 2147483647 < acc
        · have hbig' : (2147483647 : Int) < (acc : Int) := by omega
          have HR : Hid (R = (0, 2)) := Lib.hid (by rw [hR, if_pos hbig])
          clear hbig hR
          go_wp2_with fail
          go_ret2
          exact ⟨by rw [HR.out]; rfl, rfl⟩
        · have hbig' : ¬ (2147483647 : Int) < (acc : Int) := by omega
          have HR : Hid (R = ((acc : Int), 0)) := Lib.hid (by rw [hR, if_neg hbig])
          clear hbig hR
          go_wp2_with fail
          go_ret2
          exact ⟨by rw [HR.out]; rfl, rfl⟩
      · have hlt' : (pos : Int) < (s.size : Int) := by omega
        by_cases hb : 48 ≤ (s[pos]).toNat ∧ (s[pos]).toNat ≤ 57
        · have hd := STEP.out pos acc hlt hok.out hb.1 hb.2
          have hd2 := Lib.decFrom_take_lt hd (by omega)
          have NX := Lib.hid hd
          have hix : ∀ w, (Instr.index 9 (.string s) (.int .i64 (pos : Int))).run Tryd.prog w = .ok (.int .u8 (s[pos]).toNat) w := fun w => by
            rw [run_index_string _ _ _ _ _ Tryd.underlying9]; simp [hlt]
          generalize (s[pos]).toNat = n at *
          have f0 : ¬ (n : Int) < 48 := by omega
          have f1 : decide ((57 : Int) < (n : Int)) = false := decide_eq_false (by omega)
          have f2 : 48 ≤ (n : Int) := by omega
          have f3 : (n : Int) ≤ 57 := by omega
          have EQ : Hid (((acc * 10 + (n - 48) : Nat) : Int) = 10 * (acc : Int) + ((n : Int) - 48)) := Lib.hid (by omega)
          clear hb hok hpos hd
          go_wp2_with fail
          go_roundw
          case rel => exact ⟨pos + 1, acc * 10 + (n - 48), by rw [EQ.out], by go_num, trivial, by omega, hd2, NX⟩
          case measure => show s.size - ((pos : Int) + 1).toNat < s.size - ((pos : Int)).toNat; omega
        · have HR : Hid (R = (0, 4)) := Lib.hid (BAD.out pos hlt hb)
          have hix : ∀ w, (Instr.index 9 (.string s) (.int .i64 (pos : Int))).run Tryd.prog w = .ok (.int .u8 (s[pos]).toNat) w := fun w => by
            rw [run_index_string _ _ _ _ _ Tryd.underlying9]; simp [hlt]
          generalize (s[pos]).toNat = n at *
          clear hok hpos
          by_cases hlo : n < 48
          · have f0 : (n : Int) < 48 := by omega
            clear hb hlo
            go_wp2_with fail
            go_ret2
            exact ⟨by rw [HR.out]; rfl, rfl⟩
          · have f0 : ¬ (n : Int) < 48 := by omega
            have f1 : decide ((57 : Int) < (n : Int)) = true := decide_eq_true (by omega)
            clear hb hlo
            go_wp2_with fail
            go_ret2
            exact ⟨by rw [HR.out]; rfl, rfl⟩
  · have hz0 : ((((s[0]).toNat : Int)) == 48) = false := by rw [beq_eq_false_iff_ne]; omega
    have hz1 : decide ((1 : Int) < (s.size : Int)) = true := by exact decide_eq_true (by omega)
    have hz2 : (1 : Int) < (s.size : Int) := by omega
    clear hz hl2
    try clear hs1
    go_enter Tryd.func21, Tryd.ntmps21
    go_wp2_with fail
    clear hz0 hz1 hz2
    go_loopw [4, 5] (fun v i wr => ∃ pos acc : Nat, v = .int .i64 acc ∧ i = .int .i64 pos ∧ wr = W ∧ pos ≤ s.size ∧ acc < 100000000000000000 ∧ Hid (Lib.decFrom 0 (s.data.toList.take pos) = some acc)) (fun _ i _ => s.size - (intOf i).toNat)
    case atStart => exact ⟨0, 0, by go_num, by go_num, rfl, Nat.zero_le _, by omega, Lib.hid rfl⟩
    case round =>
      obtain ⟨pos, acc, rfl, rfl, rfl, hpos, hacc, hok⟩ := hrel
      have hpi : (pos : Int) ≤ 10 := by omega
      have hai : (acc : Int) < 100000000000000000 := by omega
      by_cases hlt : pos < s.size
      rotate_left
      · have hps : pos = s.size := by omega
        have hR := OKD.out acc (by have := hok.out; rwa [hps, FULL.out] at this)
        have hlt' : ¬ (pos : Int) < (s.size : Int) := by omega
        clear hlt hpos hps
        by_cases hbig : 2147483647 < acc
        · have hbig' : (2147483647 : Int) < (acc : Int) := by omega
          have HR : Hid (R = (0, 2)) := Lib.hid (by rw [hR, if_pos hbig])
          clear hbig hR
          go_wp2_with fail
          go_ret2
          exact ⟨by rw [HR.out]; rfl, rfl⟩
        · have hbig' : ¬ (2147483647 : Int) < (acc : Int) := by omega
          have HR : Hid (R = ((acc : Int), 0)) := Lib.hid (by rw [hR, if_neg hbig])
          clear hbig hR
          go_wp2_with fail
          go_ret2
          exact ⟨by rw [HR.out]; rfl, rfl⟩
      · have hlt' : (pos : Int) < (s.size : Int) := by omega
        by_cases hb : 48 ≤ (s[pos]).toNat ∧ (s[pos]).toNat ≤ 57
        · have hd := STEP.out pos acc hlt hok.out hb.1 hb.2
          have hd2 := Lib.decFrom_take_lt hd (by omega)
          have NX := Lib.hid hd
          have hix : ∀ w, (Instr.index 9 (.string s) (.int .i64 (pos : Int))).run Tryd.prog w = .ok (.int .u8 (s[pos]).toNat) w := fun w => by
            rw [run_index_string _ _ _ _ _ Tryd.underlying9]; simp [hlt]
          generalize (s[pos]).toNat = n at *
          have f0 : ¬ (n : Int) < 48 := by omega
          have f1 : decide ((57 : Int) < (n : Int)) = false := decide_eq_false (by omega)
          have f2 : 48 ≤ (n : Int) := by omega
          have f3 : (n : Int) ≤ 57 := by omega
          have EQ : Hid (((acc * 10 + (n - 48) : Nat) : Int) = 10 * (acc : Int) + ((n : Int) - 48)) := Lib.hid (by omega)
          clear hb hok hpos hd
          go_wp2_with fail
          go_roundw
          case rel => exact ⟨pos + 1, acc * 10 + (n - 48), by rw [EQ.out], by go_num, trivial, by omega, hd2, NX⟩
          case measure => show s.size - ((pos : Int) + 1).toNat < s.size - ((pos : Int)).toNat; omega
        · have HR : Hid (R = (0, 4)) := Lib.hid (BAD.out pos hlt hb)
          have hix : ∀ w, (Instr.index 9 (.string s) (.int .i64 (pos : Int))).run Tryd.prog w = .ok (.int .u8 (s[pos]).toNat) w := fun w => by
            rw [run_index_string _ _ _ _ _ Tryd.underlying9]; simp [hlt]
          generalize (s[pos]).toNat = n at *
          clear hok hpos
          by_cases hlo : n < 48
          · have f0 : (n : Int) < 48 := by omega
            clear hb hlo
            go_wp2_with fail
            go_ret2
            exact ⟨by rw [HR.out]; rfl, rfl⟩
          · have f0 : ¬ (n : Int) < 48 := by omega
            have f1 : decide ((57 : Int) < (n : Int)) = true := decide_eq_true (by omega)
            clear hb hlo
            go_wp2_with fail
            go_ret2
            exact ⟨by rw [HR.out]; rfl, rfl⟩
  · have hz0 : ((((s[0]).toNat : Int)) == 48) = false := by rw [beq_eq_false_iff_ne]; omega
    have hz1 : decide ((1 : Int) < (s.size : Int)) = false := by exact decide_eq_false (by omega)
    have hz2 : ¬ (1 : Int) < (s.size : Int) := by omega
    clear hz hl2
    try clear hs1
    go_enter Tryd.func21, Tryd.ntmps21
    go_wp2_with fail
    clear hz0 hz1 hz2
    go_loopw [4, 5] (fun v i wr => ∃ pos acc : Nat, v = .int .i64 acc ∧ i = .int .i64 pos ∧ wr = W ∧ pos ≤ s.size ∧ acc < 100000000000000000 ∧ Hid (Lib.decFrom 0 (s.data.toList.take pos) = some acc)) (fun _ i _ => s.size - (intOf i).toNat)
    case atStart => exact ⟨0, 0, by go_num, by go_num, rfl, Nat.zero_le _, by omega, Lib.hid rfl⟩
    case round =>
      obtain ⟨pos, acc, rfl, rfl, rfl, hpos, hacc, hok⟩ := hrel
      have hpi : (pos : Int) ≤ 10 := by omega
      have hai : (acc : Int) < 100000000000000000 := by omega
      by_cases hlt : pos < s.size
      rotate_left
      · have hps : pos = s.size := by omega
        have hR := OKD.out acc (by have := hok.out; rwa [hps, FULL.out] at this)
        have hlt' : ¬ (pos : Int) < (s.size : Int) := by omega
        clear hlt hpos hps
        by_cases hbig : 2147483647 < acc
        · have hbig' : (2147483647 : Int) < (acc : Int) := by omega
          have HR : Hid (R = (0, 2)) := Lib.hid (by rw [hR, if_pos hbig])
          clear hbig hR
          go_wp2_with fail
          go_ret2
          exact ⟨by rw [HR.out]; rfl, rfl⟩
        · have hbig' : ¬ (2147483647 : Int) < (acc : Int) := by omega
          have HR : Hid (R = ((acc : Int), 0)) := Lib.hid (by rw [hR, if_neg hbig])
          clear hbig hR
          go_wp2_with fail
          go_ret2
          exact ⟨by rw [HR.out]; rfl, rfl⟩
      · have hlt' : (pos : Int) < (s.size : Int) := by omega
        by_cases hb : 48 ≤ (s[pos]).toNat ∧ (s[pos]).toNat ≤ 57
        · have hd := STEP.out pos acc hlt hok.out hb.1 hb.2
          have hd2 := Lib.decFrom_take_lt hd (by omega)
          have NX := Lib.hid hd
          have hix : ∀ w, (Instr.index 9 (.string s) (.int .i64 (pos : Int))).run Tryd.prog w = .ok (.int .u8 (s[pos]).toNat) w := fun w => by
            rw [run_index_string _ _ _ _ _ Tryd.underlying9]; simp [hlt]
          generalize (s[pos]).toNat = n at *
          have f0 : ¬ (n : Int) < 48 := by omega
          have f1 : decide ((57 : Int) < (n : Int)) = false := decide_eq_false (by omega)
          have f2 : 48 ≤ (n : Int) := by omega
          have f3 : (n : Int) ≤ 57 := by omega
          have EQ : Hid (((acc * 10 + (n - 48) : Nat) : Int) = 10 * (acc : Int) + ((n : Int) - 48)) := Lib.hid (by omega)
          clear hb hok hpos hd
          go_wp2_with fail
          go_roundw
          case rel => exact ⟨pos + 1, acc * 10 + (n - 48), by rw [EQ.out], by go_num, trivial, by omega, hd2, NX⟩
          case measure => show s.size - ((pos : Int) + 1).toNat < s.size - ((pos : Int)).toNat; omega
        · have HR : Hid (R = (0, 4)) := Lib.hid (BAD.out pos hlt hb)
          have hix : ∀ w, (Instr.index 9 (.string s) (.int .i64 (pos : Int))).run Tryd.prog w = .ok (.int .u8 (s[pos]).toNat) w := fun w => by
            rw [run_index_string _ _ _ _ _ Tryd.underlying9]; simp [hlt]
          generalize (s[pos]).toNat = n at *
          clear hok hpos
          by_cases hlo : n < 48
          · have f0 : (n : Int) < 48 := by omega
            clear hb hlo
            go_wp2_with fail
            go_ret2
            exact ⟨by rw [HR.out]; rfl, rfl⟩
          · have f0 : ¬ (n : Int) < 48 := by omega
            have f1 : decide ((57 : Int) < (n : Int)) = true := decide_eq_true (by omega)
            clear hb hlo
            go_wp2_with fail
            go_ret2
            exact ⟨by rw [HR.out]; rfl, rfl⟩
end Go.Proofs.YtdcnlgjngfmbcaaDoor
