/- Names: lex.Name and titheref24.Name at every text. (Printed by mkna.py.) -/
import Derived.Test.YtdcnlgjngfmbcaaDoorLq
import Derived.Test.YtdcnlgjngfmbcaaDoorLx
import Derived.Laws.RangeAny
import Derived.Deep.DeepCutAuto
namespace Go.Proofs.YtdcnlgjngfmbcaaDoor
open Go Go.RowKit Go.Shelf
set_option linter.unusedVariables false
set_option maxRecDepth 100000
set_option maxHeartbeats 1600000

/-- May a code stand in a name at this place? -/
def nmOk (k n : Nat) : Bool := (decide (97 ≤ n) && decide (n ≤ 122)) || (k != 0 && (n == 95 || (decide (48 ≤ n) && decide (n ≤ 57))))
def nmS (l : List UInt8) : Bool := decide (0 < l.length) && decide (l.length ≤ 32) && (List.range l.length).all fun k => nmOk k (l.getD k 0).toNat
theorem nmS_bad {s : ByteArray} {k : Nat} (h : k < s.size) (hb : nmOk k (s[k]).toNat = false) : nmS s.data.toList = false := by
  rw [Bool.eq_false_iff]
  intro e
  unfold nmS at e
  rw [Bool.and_eq_true, List.all_eq_true] at e
  have := e.2 k (List.mem_range.2 (by rw [Array.length_toList]; exact h))
  rw [byte_at s k h, hb] at this
  cases this
theorem nmS_ok {s : ByteArray} (h0 : 0 < s.size) (h1 : s.size ≤ 32) (h : ∀ k, (hk : k < s.size) → nmOk k (s[k]).toNat = true) : nmS s.data.toList = true := by
  have hl : s.data.toList.length = s.size := Array.length_toList
  unfold nmS
  rw [Bool.and_eq_true, List.all_eq_true, Bool.and_eq_true, decide_eq_true_eq, decide_eq_true_eq]
  refine ⟨⟨by omega, by omega⟩, fun k hk => ?_⟩
  have hk' : k < s.size := by rw [← hl]; exact List.mem_range.1 hk
  rw [byte_at s k hk']
  exact h k hk'
theorem nmS_len {s : ByteArray} (h : ¬ (0 < s.size ∧ s.size ≤ 32)) : nmS s.data.toList = false := by
  have hl : s.data.toList.length = s.size := Array.length_toList
  rw [Bool.eq_false_iff]
  intro e
  unfold nmS at e
  rw [Bool.and_eq_true, Bool.and_eq_true, decide_eq_true_eq, decide_eq_true_eq] at e
  exact h (by omega)
theorem nil_of_size {s : ByteArray} (h : s.size = 0) : s = ⟨#[]⟩ := by
  cases s with | mk d =>
  congr 1
  exact Array.eq_empty_of_size_eq_zero h
theorem ne_of_size {s : ByteArray} (h : 0 < s.size) : s.toList.isEmpty = false := by
  rw [ByteArray.toList_eq]
  have hl : s.data.toList.length = s.size := Array.length_toList
  cases e : s.data.toList with
  | nil => rw [e] at hl; simp at hl; omega
  | cons a b => rfl

theorem name_len (s : ByteArray) (W : World) (hs : s.size ≤ 140737488355328) (h : ¬ (0 < s.size ∧ s.size ≤ 32)) :
    Calls Tryd.prog 26 #[.string s] W fun e w' => e = .returned (.bool false) ∧ W = w' := by
  by_cases h0 : s.size = 0
  · rw [nil_of_size h0]
    clear h h0 hs
    go_enter Tryd.func26, Tryd.ntmps26
    go_wp2_with fail
    go_ret
    exact ⟨rfl, rfl⟩
  · have h1 : (32 : Int) < (s.size : Int) := by omega
    have he := ne_of_size (s := s) (by omega)
    clear h h0
    go_enter Tryd.func26, Tryd.ntmps26
    go_wp2_with fail
    go_ret
    exact ⟨rfl, rfl⟩

theorem rname_len (s : ByteArray) (W : World) (hs : s.size ≤ 140737488355328) (h : ¬ (0 < s.size ∧ s.size ≤ 32)) :
    Calls Tryd.prog 27 #[.string s] W fun e w' => e = .returned (.bool false) ∧ W = w' := by
  by_cases h0 : s.size = 0
  · rw [nil_of_size h0]
    clear h h0 hs
    go_enter Tryd.func27, Tryd.ntmps27
    go_wp2_with fail
    go_ret
    exact ⟨rfl, rfl⟩
  · have h1 : (32 : Int) < (s.size : Int) := by omega
    have he := ne_of_size (s := s) (by omega)
    clear h h0
    go_enter Tryd.func27, Tryd.ntmps27
    go_wp2_with fail
    go_ret
    exact ⟨rfl, rfl⟩

theorem name_any (s : ByteArray) (W : World) (hs : s.size ≤ 140737488355328) :
    Calls Tryd.prog 26 #[.string s] W fun e w' => e = .returned (.bool (nmS s.data.toList)) ∧ Below W.heap.size W w' := by
  by_cases hlen : 0 < s.size ∧ s.size ≤ 32
  rotate_left
  · refine (name_len s W hs hlen).mono ?_
    rintro e w' ⟨rfl, rfl⟩
    rw [nmS_len hlen]
    exact ⟨rfl, Below.refl _ _⟩
  obtain ⟨hp, h32⟩ := hlen
  have he := ne_of_size hp
  have h1 : ¬ (32 : Int) < (s.size : Int) := by omega
  have OK := Lib.hid (nmS_ok (s := s) hp h32)
  have BAD := Lib.hid (fun k h hb => nmS_bad (s := s) (k := k) h hb)
  generalize nmS s.data.toList = R at *
  go_enter Tryd.func26, Tryd.ntmps26
  go_wp2_with fail
  go_loopw [3] (fun _ wr => ∃ pos : Nat, wr = W.iter s pos ∧ pos ≤ s.size ∧ Hid (∀ k, k < pos → (hk : k < s.size) → nmOk k (s[k]).toNat = true)) (fun _ w' => s.size - w'.iterPos W.heap.size)
  case atStart => exact ⟨0, rfl, Nat.zero_le _, Lib.hid (fun k hk => absurd hk (Nat.not_lt_zero _))⟩
  case round =>
    obtain ⟨pos, rfl, hpos, hok⟩ := hrel
    have hpi : (pos : Int) ≤ 32 := by omega
    by_cases hlt : pos < s.size
    rotate_left
    · have HR : Hid (R = true) := Lib.hid (OK.out (fun k hk => hok.out k (by omega) hk))
      have hnx := fun ty => run_next_end (P := Tryd.prog) W s pos ty hlt
      clear hlt hpos
      go_wp2_with fail
      go_ret
      exact ⟨by rw [HR.out]; rfl, (Below.refl _ _).alloc (Nat.le_refl _) _⟩
    · by_cases hb : nmOk pos (s[pos]).toNat = true
      · have hn128 : (s[pos]).toNat < 128 := by unfold nmOk at hb; simp at hb; omega
        have hnx := fun ty => run_next_ascii (P := Tryd.prog) W s pos ty hlt hn128
        have NX : Hid (∀ k, k < pos + 1 → (hk : k < s.size) → nmOk k (s[k]).toNat = true) := Lib.hid (fun k hk hk' => by
          rcases Nat.lt_or_ge k pos with h | h
          · exact hok.out k h hk'
          · obtain rfl : k = pos := by omega
            exact hb)
        have ip : (W.iter s (pos + 1)).iterPos W.heap.size = pos + 1 := World.iterPos_iter _ _ _
        have ip0 : (W.iter s pos).iterPos W.heap.size = pos := World.iterPos_iter _ _ _
        have IP := Lib.hid ip
        have IP0 := Lib.hid ip0
        clear ip ip0
        generalize (s[pos]).toNat = n at *
        clear hn128
        rcases (by omega : n ≤ 47 ∨ (48 ≤ n ∧ n ≤ 57) ∨ (58 ≤ n ∧ n ≤ 94) ∨ n = 95 ∨ n = 96 ∨ (97 ≤ n ∧ n ≤ 122) ∨ 123 ≤ n) with hc | ⟨hc, hc'⟩ | ⟨hc, hc'⟩ | hc | hc | ⟨hc, hc'⟩ | hc
        · skip
          exfalso; unfold nmOk at hb; simp at hb; omega
        · skip
          have f0 : ¬ (97 : Int) ≤ (n : Int) := by omega
          have d0 : decide ((97 : Int) ≤ (n : Int)) = false := decide_eq_false (by omega)
          have f1 : (n : Int) ≤ 122 := by omega
          have d1 : decide ((n : Int) ≤ 122) = true := decide_eq_true (by omega)
          have f2 : (n : Int) < 97 := by omega
          have d2 : decide ((n : Int) < 97) = true := decide_eq_true (by omega)
          have f3 : ¬ (122 : Int) < (n : Int) := by omega
          have d3 : decide ((122 : Int) < (n : Int)) = false := decide_eq_false (by omega)
          have f4 : ¬ (n : Int) < 48 := by omega
          have d4 : decide ((n : Int) < 48) = false := decide_eq_false (by omega)
          have f5 : ¬ (57 : Int) < (n : Int) := by omega
          have d5 : decide ((57 : Int) < (n : Int)) = false := decide_eq_false (by omega)
          have g1 : ((n : Int) == 95) = false := by rw [beq_eq_false_iff_ne]; omega
          have g2 : ((n : Int) != 95) = true := by rw [bne_iff_ne]; omega
          have hp0 : ((pos : Int) == 0) = false := by rw [beq_eq_false_iff_ne]; unfold nmOk at hb; simp at hb; omega
          clear hb hok hpos hc hc'
          go_wp2_with fail
          go_roundw
          case rel => exact ⟨pos + 1, rfl, by omega, NX⟩
          case measure => show s.size - _ < s.size - _; rw [IP.out, IP0.out]; omega
        · skip
          exfalso; unfold nmOk at hb; simp at hb; omega
        · skip
          have f0 : ¬ (97 : Int) ≤ (n : Int) := by omega
          have d0 : decide ((97 : Int) ≤ (n : Int)) = false := decide_eq_false (by omega)
          have f1 : (n : Int) ≤ 122 := by omega
          have d1 : decide ((n : Int) ≤ 122) = true := decide_eq_true (by omega)
          have f2 : (n : Int) < 97 := by omega
          have d2 : decide ((n : Int) < 97) = true := decide_eq_true (by omega)
          have f3 : ¬ (122 : Int) < (n : Int) := by omega
          have d3 : decide ((122 : Int) < (n : Int)) = false := decide_eq_false (by omega)
          have f4 : ¬ (n : Int) < 48 := by omega
          have d4 : decide ((n : Int) < 48) = false := decide_eq_false (by omega)
          have f5 : (57 : Int) < (n : Int) := by omega
          have d5 : decide ((57 : Int) < (n : Int)) = true := decide_eq_true (by omega)
          have g1 : ((n : Int) == 95) = true := by rw [beq_iff_eq]; omega
          have g2 : ((n : Int) != 95) = false := by rw [bne_eq_false_iff_eq]; omega
          have hp0 : ((pos : Int) == 0) = false := by rw [beq_eq_false_iff_ne]; unfold nmOk at hb; simp at hb; omega
          clear hb hok hpos hc
          go_wp2_with fail
          go_roundw
          case rel => exact ⟨pos + 1, rfl, by omega, NX⟩
          case measure => show s.size - _ < s.size - _; rw [IP.out, IP0.out]; omega
        · skip
          exfalso; unfold nmOk at hb; simp at hb; omega
        · skip
          have f0 : (97 : Int) ≤ (n : Int) := by omega
          have d0 : decide ((97 : Int) ≤ (n : Int)) = true := decide_eq_true (by omega)
          have f1 : (n : Int) ≤ 122 := by omega
          have d1 : decide ((n : Int) ≤ 122) = true := decide_eq_true (by omega)
          have f2 : ¬ (n : Int) < 97 := by omega
          have d2 : decide ((n : Int) < 97) = false := decide_eq_false (by omega)
          have f3 : ¬ (122 : Int) < (n : Int) := by omega
          have d3 : decide ((122 : Int) < (n : Int)) = false := decide_eq_false (by omega)
          have f4 : ¬ (n : Int) < 48 := by omega
          have d4 : decide ((n : Int) < 48) = false := decide_eq_false (by omega)
          have f5 : (57 : Int) < (n : Int) := by omega
          have d5 : decide ((57 : Int) < (n : Int)) = true := decide_eq_true (by omega)
          have g1 : ((n : Int) == 95) = false := by rw [beq_eq_false_iff_ne]; omega
          have g2 : ((n : Int) != 95) = true := by rw [bne_iff_ne]; omega
          clear hb hok hc hc' hpos
          go_wp2_with fail
          go_roundw
          case rel => exact ⟨pos + 1, rfl, by omega, NX⟩
          case measure => show s.size - _ < s.size - _; rw [IP.out, IP0.out]; omega
        · skip
          exfalso; unfold nmOk at hb; simp at hb; omega
      · have HR : Hid (R = false) := Lib.hid (BAD.out pos hlt (by simpa using hb))
        have hr : nmOk pos (Utf8.decode s pos).1 = false := by
          by_cases h : (s[pos]).toNat < 128
          · rw [decode_ascii s pos hlt h]; simpa using hb
          · have := (decode_high s pos hlt (by omega)).1
            unfold nmOk; simp; omega
        have hle := decode_le s pos
        have hnx := fun ty => run_next_any (P := Tryd.prog) W s pos ty hlt
        generalize pos + (Utf8.decode s pos).2 = pos' at *
        generalize (Utf8.decode s pos).1 = n at *
        clear hb hok hpos
        rcases (by omega : n ≤ 47 ∨ (48 ≤ n ∧ n ≤ 57) ∨ (58 ≤ n ∧ n ≤ 94) ∨ n = 95 ∨ n = 96 ∨ (97 ≤ n ∧ n ≤ 122) ∨ 123 ≤ n) with hc | ⟨hc, hc'⟩ | ⟨hc, hc'⟩ | hc | hc | ⟨hc, hc'⟩ | hc
        · skip
          have f0 : ¬ (97 : Int) ≤ (n : Int) := by omega
          have d0 : decide ((97 : Int) ≤ (n : Int)) = false := decide_eq_false (by omega)
          have f1 : (n : Int) ≤ 122 := by omega
          have d1 : decide ((n : Int) ≤ 122) = true := decide_eq_true (by omega)
          have f2 : (n : Int) < 97 := by omega
          have d2 : decide ((n : Int) < 97) = true := decide_eq_true (by omega)
          have f3 : ¬ (122 : Int) < (n : Int) := by omega
          have d3 : decide ((122 : Int) < (n : Int)) = false := decide_eq_false (by omega)
          have f4 : (n : Int) < 48 := by omega
          have d4 : decide ((n : Int) < 48) = true := decide_eq_true (by omega)
          have f5 : ¬ (57 : Int) < (n : Int) := by omega
          have d5 : decide ((57 : Int) < (n : Int)) = false := decide_eq_false (by omega)
          have g1 : ((n : Int) == 95) = false := by rw [beq_eq_false_iff_ne]; omega
          have g2 : ((n : Int) != 95) = true := by rw [bne_iff_ne]; omega
          by_cases hz : pos = 0
          · subst hz
            clear hr hc
            go_wp2_with fail
            go_ret
            exact ⟨by rw [HR.out]; rfl, (Below.refl _ _).alloc (Nat.le_refl _) _⟩
          · have hp0 : ((pos : Int) == 0) = false := by rw [beq_eq_false_iff_ne]; omega
            clear hr hz hc
            go_wp2_with fail
            go_ret
            exact ⟨by rw [HR.out]; rfl, (Below.refl _ _).alloc (Nat.le_refl _) _⟩
        · skip
          have f0 : ¬ (97 : Int) ≤ (n : Int) := by omega
          have d0 : decide ((97 : Int) ≤ (n : Int)) = false := decide_eq_false (by omega)
          have f1 : (n : Int) ≤ 122 := by omega
          have d1 : decide ((n : Int) ≤ 122) = true := decide_eq_true (by omega)
          have f2 : (n : Int) < 97 := by omega
          have d2 : decide ((n : Int) < 97) = true := decide_eq_true (by omega)
          have f3 : ¬ (122 : Int) < (n : Int) := by omega
          have d3 : decide ((122 : Int) < (n : Int)) = false := decide_eq_false (by omega)
          have f4 : ¬ (n : Int) < 48 := by omega
          have d4 : decide ((n : Int) < 48) = false := decide_eq_false (by omega)
          have f5 : ¬ (57 : Int) < (n : Int) := by omega
          have d5 : decide ((57 : Int) < (n : Int)) = false := decide_eq_false (by omega)
          have g1 : ((n : Int) == 95) = false := by rw [beq_eq_false_iff_ne]; omega
          have g2 : ((n : Int) != 95) = true := by rw [bne_iff_ne]; omega
          by_cases hz : pos = 0
          · subst hz
            clear hr hc hc'
            go_wp2_with fail
            go_ret
            exact ⟨by rw [HR.out]; rfl, (Below.refl _ _).alloc (Nat.le_refl _) _⟩
          · have hp0 : ((pos : Int) == 0) = false := by rw [beq_eq_false_iff_ne]; omega
            exfalso; unfold nmOk at hr; simp at hr; omega
        · skip
          have f0 : ¬ (97 : Int) ≤ (n : Int) := by omega
          have d0 : decide ((97 : Int) ≤ (n : Int)) = false := decide_eq_false (by omega)
          have f1 : (n : Int) ≤ 122 := by omega
          have d1 : decide ((n : Int) ≤ 122) = true := decide_eq_true (by omega)
          have f2 : (n : Int) < 97 := by omega
          have d2 : decide ((n : Int) < 97) = true := decide_eq_true (by omega)
          have f3 : ¬ (122 : Int) < (n : Int) := by omega
          have d3 : decide ((122 : Int) < (n : Int)) = false := decide_eq_false (by omega)
          have f4 : ¬ (n : Int) < 48 := by omega
          have d4 : decide ((n : Int) < 48) = false := decide_eq_false (by omega)
          have f5 : (57 : Int) < (n : Int) := by omega
          have d5 : decide ((57 : Int) < (n : Int)) = true := decide_eq_true (by omega)
          have g1 : ((n : Int) == 95) = false := by rw [beq_eq_false_iff_ne]; omega
          have g2 : ((n : Int) != 95) = true := by rw [bne_iff_ne]; omega
          by_cases hz : pos = 0
          · subst hz
            clear hr hc hc'
            go_wp2_with fail
            go_ret
            exact ⟨by rw [HR.out]; rfl, (Below.refl _ _).alloc (Nat.le_refl _) _⟩
          · have hp0 : ((pos : Int) == 0) = false := by rw [beq_eq_false_iff_ne]; omega
            clear hr hz hc hc'
            go_wp2_with fail
            go_ret
            exact ⟨by rw [HR.out]; rfl, (Below.refl _ _).alloc (Nat.le_refl _) _⟩
        · skip
          have f0 : ¬ (97 : Int) ≤ (n : Int) := by omega
          have d0 : decide ((97 : Int) ≤ (n : Int)) = false := decide_eq_false (by omega)
          have f1 : (n : Int) ≤ 122 := by omega
          have d1 : decide ((n : Int) ≤ 122) = true := decide_eq_true (by omega)
          have f2 : (n : Int) < 97 := by omega
          have d2 : decide ((n : Int) < 97) = true := decide_eq_true (by omega)
          have f3 : ¬ (122 : Int) < (n : Int) := by omega
          have d3 : decide ((122 : Int) < (n : Int)) = false := decide_eq_false (by omega)
          have f4 : ¬ (n : Int) < 48 := by omega
          have d4 : decide ((n : Int) < 48) = false := decide_eq_false (by omega)
          have f5 : (57 : Int) < (n : Int) := by omega
          have d5 : decide ((57 : Int) < (n : Int)) = true := decide_eq_true (by omega)
          have g1 : ((n : Int) == 95) = true := by rw [beq_iff_eq]; omega
          have g2 : ((n : Int) != 95) = false := by rw [bne_eq_false_iff_eq]; omega
          by_cases hz : pos = 0
          · subst hz
            clear hr hc
            go_wp2_with fail
            go_ret
            exact ⟨by rw [HR.out]; rfl, (Below.refl _ _).alloc (Nat.le_refl _) _⟩
          · have hp0 : ((pos : Int) == 0) = false := by rw [beq_eq_false_iff_ne]; omega
            exfalso; unfold nmOk at hr; simp at hr; omega
        · skip
          have f0 : ¬ (97 : Int) ≤ (n : Int) := by omega
          have d0 : decide ((97 : Int) ≤ (n : Int)) = false := decide_eq_false (by omega)
          have f1 : (n : Int) ≤ 122 := by omega
          have d1 : decide ((n : Int) ≤ 122) = true := decide_eq_true (by omega)
          have f2 : (n : Int) < 97 := by omega
          have d2 : decide ((n : Int) < 97) = true := decide_eq_true (by omega)
          have f3 : ¬ (122 : Int) < (n : Int) := by omega
          have d3 : decide ((122 : Int) < (n : Int)) = false := decide_eq_false (by omega)
          have f4 : ¬ (n : Int) < 48 := by omega
          have d4 : decide ((n : Int) < 48) = false := decide_eq_false (by omega)
          have f5 : (57 : Int) < (n : Int) := by omega
          have d5 : decide ((57 : Int) < (n : Int)) = true := decide_eq_true (by omega)
          have g1 : ((n : Int) == 95) = false := by rw [beq_eq_false_iff_ne]; omega
          have g2 : ((n : Int) != 95) = true := by rw [bne_iff_ne]; omega
          by_cases hz : pos = 0
          · subst hz
            clear hr hc
            go_wp2_with fail
            go_ret
            exact ⟨by rw [HR.out]; rfl, (Below.refl _ _).alloc (Nat.le_refl _) _⟩
          · have hp0 : ((pos : Int) == 0) = false := by rw [beq_eq_false_iff_ne]; omega
            clear hr hz hc
            go_wp2_with fail
            go_ret
            exact ⟨by rw [HR.out]; rfl, (Below.refl _ _).alloc (Nat.le_refl _) _⟩
        · skip
          exfalso; unfold nmOk at hr; simp at hr; omega
        · skip
          have f0 : (97 : Int) ≤ (n : Int) := by omega
          have d0 : decide ((97 : Int) ≤ (n : Int)) = true := decide_eq_true (by omega)
          have f1 : ¬ (n : Int) ≤ 122 := by omega
          have d1 : decide ((n : Int) ≤ 122) = false := decide_eq_false (by omega)
          have f2 : ¬ (n : Int) < 97 := by omega
          have d2 : decide ((n : Int) < 97) = false := decide_eq_false (by omega)
          have f3 : (122 : Int) < (n : Int) := by omega
          have d3 : decide ((122 : Int) < (n : Int)) = true := decide_eq_true (by omega)
          have f4 : ¬ (n : Int) < 48 := by omega
          have d4 : decide ((n : Int) < 48) = false := decide_eq_false (by omega)
          have f5 : (57 : Int) < (n : Int) := by omega
          have d5 : decide ((57 : Int) < (n : Int)) = true := decide_eq_true (by omega)
          have g1 : ((n : Int) == 95) = false := by rw [beq_eq_false_iff_ne]; omega
          have g2 : ((n : Int) != 95) = true := by rw [bne_iff_ne]; omega
          by_cases hz : pos = 0
          · subst hz
            clear hr hc
            go_wp2_with fail
            go_ret
            exact ⟨by rw [HR.out]; rfl, (Below.refl _ _).alloc (Nat.le_refl _) _⟩
          · have hp0 : ((pos : Int) == 0) = false := by rw [beq_eq_false_iff_ne]; omega
            clear hr hz hc
            go_wp2_with fail
            go_ret
            exact ⟨by rw [HR.out]; rfl, (Below.refl _ _).alloc (Nat.le_refl _) _⟩

theorem rname_any (s : ByteArray) (W : World) (hs : s.size ≤ 140737488355328) :
    Calls Tryd.prog 27 #[.string s] W fun e w' => e = .returned (.bool (nmS s.data.toList)) ∧ W = w' := by
  by_cases hlen : 0 < s.size ∧ s.size ≤ 32
  rotate_left
  · refine (rname_len s W hs hlen).mono ?_
    rintro e w' ⟨rfl, rfl⟩
    rw [nmS_len hlen]
    exact ⟨rfl, rfl⟩
  obtain ⟨hp, h32⟩ := hlen
  have he := ne_of_size hp
  have h1 : ¬ (32 : Int) < (s.size : Int) := by omega
  have OK := Lib.hid (nmS_ok (s := s) hp h32)
  have BAD := Lib.hid (fun k h hb => nmS_bad (s := s) (k := k) h hb)
  generalize nmS s.data.toList = R at *
  by_cases hz : nmOk 0 (s[0]).toNat = true
  rotate_left
  · have HR : Hid (R = false) := Lib.hid (BAD.out 0 hp (by simpa using hz))
    have hi : s[0].toNat < 97 ∨ (97 ≤ s[0].toNat ∧ 122 < s[0].toNat) := by unfold nmOk at hz; simp at hz; omega
    clear hz
    rcases hi with hi | ⟨hi', hi⟩
    · have e1 : (s[0].toNat : Int) < 97 := by omega
      go_enter Tryd.func27, Tryd.ntmps27
      go_wp2_with fail
      go_ret
      exact ⟨by rw [HR.out]; rfl, rfl⟩
    · have e1 : ¬ (s[0].toNat : Int) < 97 := by omega
      have e2 : decide ((122 : Int) < (s[0].toNat : Int)) = true := decide_eq_true (by omega)
      go_enter Tryd.func27, Tryd.ntmps27
      go_wp2_with fail
      go_ret
      exact ⟨by rw [HR.out]; rfl, rfl⟩
  have hz1 : ¬ (s[0].toNat : Int) < 97 := by unfold nmOk at hz; simp at hz; omega
  have hz2 : decide ((122 : Int) < (s[0].toNat : Int)) = false := decide_eq_false (by unfold nmOk at hz; simp at hz; omega)
  have HZ := Lib.hid hz
  clear hz
  go_enter Tryd.func27, Tryd.ntmps27
  go_wp2_with fail
  clear hz1 hz2
  go_loopw [3] (fun i wr => ∃ pos : Nat, i = .int .i64 pos ∧ wr = W ∧ pos ≤ s.size ∧ Hid (∀ k, k < pos → (hk : k < s.size) → nmOk k (s[k]).toNat = true)) (fun i _ => s.size - (intOf i).toNat)
  case atStart => exact ⟨0, by go_num, rfl, Nat.zero_le _, Lib.hid (fun k hk => absurd hk (Nat.not_lt_zero _))⟩
  case round =>
    obtain ⟨pos, rfl, rfl, hpos, hok⟩ := hrel
    have hpi : (pos : Int) ≤ 32 := by omega
    by_cases hlt : pos < s.size
    rotate_left
    · have HR : Hid (R = true) := Lib.hid (OK.out (fun k hk => hok.out k (by omega) hk))
      have hlt' : ¬ (pos : Int) < (s.size : Int) := by omega
      clear hlt hpos
      go_wp2_with fail
      go_ret
      exact ⟨by rw [HR.out]; rfl, rfl⟩
    · have hlt' : (pos : Int) < (s.size : Int) := by omega
      by_cases hb : nmOk pos (s[pos]).toNat = true
      · have NX : Hid (∀ k, k < pos + 1 → (hk : k < s.size) → nmOk k (s[k]).toNat = true) := Lib.hid (fun k hk hk' => by
          rcases Nat.lt_or_ge k pos with h | h
          · exact hok.out k h hk'
          · obtain rfl : k = pos := by omega
            exact hb)
        have hix : ∀ w, (Instr.index 9 (.string s) (.int .i64 (pos : Int))).run Tryd.prog w = .ok (.int .u8 (s[pos]).toNat) w := fun w => by
          rw [run_index_string _ _ _ _ _ Tryd.underlying9]; simp [hlt]
        have hn : (s[pos]).toNat < 256 := (s[pos]).toNat_lt
        generalize (s[pos]).toNat = n at *
        have hltn := hlt
        clear hok hpos
        rcases (by omega : n ≤ 47 ∨ (48 ≤ n ∧ n ≤ 57) ∨ (58 ≤ n ∧ n ≤ 94) ∨ n = 95 ∨ n = 96 ∨ (97 ≤ n ∧ n ≤ 122) ∨ 123 ≤ n) with hc | ⟨hc, hc'⟩ | ⟨hc, hc'⟩ | hc | hc | ⟨hc, hc'⟩ | hc
        · skip
          exfalso; unfold nmOk at hb; simp at hb; omega
        · skip
          have f0 : ¬ (97 : Int) ≤ (n : Int) := by omega
          have d0 : decide ((97 : Int) ≤ (n : Int)) = false := decide_eq_false (by omega)
          have f1 : (n : Int) ≤ 122 := by omega
          have d1 : decide ((n : Int) ≤ 122) = true := decide_eq_true (by omega)
          have f2 : (n : Int) < 97 := by omega
          have d2 : decide ((n : Int) < 97) = true := decide_eq_true (by omega)
          have f3 : ¬ (122 : Int) < (n : Int) := by omega
          have d3 : decide ((122 : Int) < (n : Int)) = false := decide_eq_false (by omega)
          have f4 : ¬ (n : Int) < 48 := by omega
          have d4 : decide ((n : Int) < 48) = false := decide_eq_false (by omega)
          have f5 : ¬ (57 : Int) < (n : Int) := by omega
          have d5 : decide ((57 : Int) < (n : Int)) = false := decide_eq_false (by omega)
          have g1 : ((n : Int) == 95) = false := by rw [beq_eq_false_iff_ne]; omega
          have g2 : ((n : Int) != 95) = true := by rw [bne_iff_ne]; omega
          clear hb hc hc'
          go_wp2_with fail
          go_roundw
          case rel => exact ⟨pos + 1, by go_num, trivial, by omega, NX⟩
          case measure => show s.size - ((pos : Int) + 1).toNat < s.size - ((pos : Int)).toNat; omega
        · skip
          exfalso; unfold nmOk at hb; simp at hb; omega
        · skip
          have f0 : ¬ (97 : Int) ≤ (n : Int) := by omega
          have d0 : decide ((97 : Int) ≤ (n : Int)) = false := decide_eq_false (by omega)
          have f1 : (n : Int) ≤ 122 := by omega
          have d1 : decide ((n : Int) ≤ 122) = true := decide_eq_true (by omega)
          have f2 : (n : Int) < 97 := by omega
          have d2 : decide ((n : Int) < 97) = true := decide_eq_true (by omega)
          have f3 : ¬ (122 : Int) < (n : Int) := by omega
          have d3 : decide ((122 : Int) < (n : Int)) = false := decide_eq_false (by omega)
          have f4 : ¬ (n : Int) < 48 := by omega
          have d4 : decide ((n : Int) < 48) = false := decide_eq_false (by omega)
          have f5 : (57 : Int) < (n : Int) := by omega
          have d5 : decide ((57 : Int) < (n : Int)) = true := decide_eq_true (by omega)
          have g1 : ((n : Int) == 95) = true := by rw [beq_iff_eq]; omega
          have g2 : ((n : Int) != 95) = false := by rw [bne_eq_false_iff_eq]; omega
          clear hb hc
          go_wp2_with fail
          go_roundw
          case rel => exact ⟨pos + 1, by go_num, trivial, by omega, NX⟩
          case measure => show s.size - ((pos : Int) + 1).toNat < s.size - ((pos : Int)).toNat; omega
        · skip
          exfalso; unfold nmOk at hb; simp at hb; omega
        · skip
          have f0 : (97 : Int) ≤ (n : Int) := by omega
          have d0 : decide ((97 : Int) ≤ (n : Int)) = true := decide_eq_true (by omega)
          have f1 : (n : Int) ≤ 122 := by omega
          have d1 : decide ((n : Int) ≤ 122) = true := decide_eq_true (by omega)
          have f2 : ¬ (n : Int) < 97 := by omega
          have d2 : decide ((n : Int) < 97) = false := decide_eq_false (by omega)
          have f3 : ¬ (122 : Int) < (n : Int) := by omega
          have d3 : decide ((122 : Int) < (n : Int)) = false := decide_eq_false (by omega)
          have f4 : ¬ (n : Int) < 48 := by omega
          have d4 : decide ((n : Int) < 48) = false := decide_eq_false (by omega)
          have f5 : (57 : Int) < (n : Int) := by omega
          have d5 : decide ((57 : Int) < (n : Int)) = true := decide_eq_true (by omega)
          have g1 : ((n : Int) == 95) = false := by rw [beq_eq_false_iff_ne]; omega
          have g2 : ((n : Int) != 95) = true := by rw [bne_iff_ne]; omega
          clear hb hc hc'
          go_wp2_with fail
          go_roundw
          case rel => exact ⟨pos + 1, by go_num, trivial, by omega, NX⟩
          case measure => show s.size - ((pos : Int) + 1).toNat < s.size - ((pos : Int)).toNat; omega
        · skip
          exfalso; unfold nmOk at hb; simp at hb; omega
      · have HR : Hid (R = false) := Lib.hid (BAD.out pos hlt (by simpa using hb))
        have h0p : pos ≠ 0 := by rintro rfl; exact hb HZ.out
        have hix : ∀ w, (Instr.index 9 (.string s) (.int .i64 (pos : Int))).run Tryd.prog w = .ok (.int .u8 (s[pos]).toNat) w := fun w => by
          rw [run_index_string _ _ _ _ _ Tryd.underlying9]; simp [hlt]
        have hn : (s[pos]).toNat < 256 := (s[pos]).toNat_lt
        generalize (s[pos]).toNat = n at *
        clear hok hpos
        rcases (by omega : n ≤ 47 ∨ (48 ≤ n ∧ n ≤ 57) ∨ (58 ≤ n ∧ n ≤ 94) ∨ n = 95 ∨ n = 96 ∨ (97 ≤ n ∧ n ≤ 122) ∨ 123 ≤ n) with hc | ⟨hc, hc'⟩ | ⟨hc, hc'⟩ | hc | hc | ⟨hc, hc'⟩ | hc
        · skip
          have f0 : ¬ (97 : Int) ≤ (n : Int) := by omega
          have d0 : decide ((97 : Int) ≤ (n : Int)) = false := decide_eq_false (by omega)
          have f1 : (n : Int) ≤ 122 := by omega
          have d1 : decide ((n : Int) ≤ 122) = true := decide_eq_true (by omega)
          have f2 : (n : Int) < 97 := by omega
          have d2 : decide ((n : Int) < 97) = true := decide_eq_true (by omega)
          have f3 : ¬ (122 : Int) < (n : Int) := by omega
          have d3 : decide ((122 : Int) < (n : Int)) = false := decide_eq_false (by omega)
          have f4 : (n : Int) < 48 := by omega
          have d4 : decide ((n : Int) < 48) = true := decide_eq_true (by omega)
          have f5 : ¬ (57 : Int) < (n : Int) := by omega
          have d5 : decide ((57 : Int) < (n : Int)) = false := decide_eq_false (by omega)
          have g1 : ((n : Int) == 95) = false := by rw [beq_eq_false_iff_ne]; omega
          have g2 : ((n : Int) != 95) = true := by rw [bne_iff_ne]; omega
          clear hb h0p hc
          go_wp2_with fail
          go_ret
          exact ⟨by rw [HR.out]; rfl, rfl⟩
        · skip
          exfalso; apply hb; unfold nmOk; simp; omega
        · skip
          have f0 : ¬ (97 : Int) ≤ (n : Int) := by omega
          have d0 : decide ((97 : Int) ≤ (n : Int)) = false := decide_eq_false (by omega)
          have f1 : (n : Int) ≤ 122 := by omega
          have d1 : decide ((n : Int) ≤ 122) = true := decide_eq_true (by omega)
          have f2 : (n : Int) < 97 := by omega
          have d2 : decide ((n : Int) < 97) = true := decide_eq_true (by omega)
          have f3 : ¬ (122 : Int) < (n : Int) := by omega
          have d3 : decide ((122 : Int) < (n : Int)) = false := decide_eq_false (by omega)
          have f4 : ¬ (n : Int) < 48 := by omega
          have d4 : decide ((n : Int) < 48) = false := decide_eq_false (by omega)
          have f5 : (57 : Int) < (n : Int) := by omega
          have d5 : decide ((57 : Int) < (n : Int)) = true := decide_eq_true (by omega)
          have g1 : ((n : Int) == 95) = false := by rw [beq_eq_false_iff_ne]; omega
          have g2 : ((n : Int) != 95) = true := by rw [bne_iff_ne]; omega
          clear hb h0p hc hc'
          go_wp2_with fail
          go_ret
          exact ⟨by rw [HR.out]; rfl, rfl⟩
        · skip
          exfalso; apply hb; unfold nmOk; simp; omega
        · skip
          have f0 : ¬ (97 : Int) ≤ (n : Int) := by omega
          have d0 : decide ((97 : Int) ≤ (n : Int)) = false := decide_eq_false (by omega)
          have f1 : (n : Int) ≤ 122 := by omega
          have d1 : decide ((n : Int) ≤ 122) = true := decide_eq_true (by omega)
          have f2 : (n : Int) < 97 := by omega
          have d2 : decide ((n : Int) < 97) = true := decide_eq_true (by omega)
          have f3 : ¬ (122 : Int) < (n : Int) := by omega
          have d3 : decide ((122 : Int) < (n : Int)) = false := decide_eq_false (by omega)
          have f4 : ¬ (n : Int) < 48 := by omega
          have d4 : decide ((n : Int) < 48) = false := decide_eq_false (by omega)
          have f5 : (57 : Int) < (n : Int) := by omega
          have d5 : decide ((57 : Int) < (n : Int)) = true := decide_eq_true (by omega)
          have g1 : ((n : Int) == 95) = false := by rw [beq_eq_false_iff_ne]; omega
          have g2 : ((n : Int) != 95) = true := by rw [bne_iff_ne]; omega
          clear hb h0p hc
          go_wp2_with fail
          go_ret
          exact ⟨by rw [HR.out]; rfl, rfl⟩
        · skip
          exfalso; apply hb; unfold nmOk; simp; omega
        · skip
          have f0 : (97 : Int) ≤ (n : Int) := by omega
          have d0 : decide ((97 : Int) ≤ (n : Int)) = true := decide_eq_true (by omega)
          have f1 : ¬ (n : Int) ≤ 122 := by omega
          have d1 : decide ((n : Int) ≤ 122) = false := decide_eq_false (by omega)
          have f2 : ¬ (n : Int) < 97 := by omega
          have d2 : decide ((n : Int) < 97) = false := decide_eq_false (by omega)
          have f3 : (122 : Int) < (n : Int) := by omega
          have d3 : decide ((122 : Int) < (n : Int)) = true := decide_eq_true (by omega)
          have f4 : ¬ (n : Int) < 48 := by omega
          have d4 : decide ((n : Int) < 48) = false := decide_eq_false (by omega)
          have f5 : (57 : Int) < (n : Int) := by omega
          have d5 : decide ((57 : Int) < (n : Int)) = true := decide_eq_true (by omega)
          have g1 : ((n : Int) == 95) = false := by rw [beq_eq_false_iff_ne]; omega
          have g2 : ((n : Int) != 95) = true := by rw [bne_iff_ne]; omega
          clear hb h0p hc
          go_wp2_with fail
          go_ret
          exact ⟨by rw [HR.out]; rfl, rfl⟩
end Go.Proofs.YtdcnlgjngfmbcaaDoor
