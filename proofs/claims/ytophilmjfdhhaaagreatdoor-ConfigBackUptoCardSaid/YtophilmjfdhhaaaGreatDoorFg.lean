/- Priorities and rows of numbers of layer 25, both sides; the reference's Number. -/
import Derived.Test.YtophilmjfdhhaaaGreatDoorFf
namespace Go.Proofs.YtophilmjfdhhaaaGreatDoor
open Go Go.RowKit Go.Shelf Go.Sort
set_option linter.unusedVariables false
set_option linter.unusedSimpArgs false
set_option maxRecDepth 100000
set_option maxHeartbeats 1600000

def prB (p : Int) : Bool := decide (0 ≤ p) && decide (p ≤ 31)
def prOk (l : List Int) : Bool := l.all prB
theorem RI.out {w : World} {v : Value} {l : List Int} (h : RI w v l) : ∃ a cap, v = .slice a l.length cap ∧ ∀ i, i < l.length → ∃ b off, a = some ⟨b, off, none⟩ ∧ b < w.heap.size ∧ w.cell? ⟨b, off + i, none⟩ = some (.int .i64 (l.getD i 0)) := by
  rcases h with ⟨rfl, a, cap, rfl, _⟩ | ⟨b, off, cap, rfl, hb, hc⟩
  · exact ⟨a, cap, rfl, fun i hi => by simp at hi⟩
  · exact ⟨_, cap, rfl, fun i hi => ⟨b, off, rfl, hb, hc i hi⟩⟩
theorem all_at {α : Type} {p : α → Bool} {l : List α} {d : α} (h : l.all p = true) {i : Nat} (hi : i < l.length) : p (l.getD i d) = true := by
  rw [List.getD, List.getElem?_eq_getElem hi]; exact List.all_eq_true.1 h _ (List.getElem_mem hi)
theorem all_not {α : Type} {p : α → Bool} {l : List α} {d : α} {i : Nat} (hi : i < l.length) (h : p (l.getD i d) = false) : l.all p = false := by
  rw [Bool.eq_false_iff]; intro e; rw [all_at e hi] at h; cases h
theorem all_of {α : Type} {p : α → Bool} {l : List α} {d : α} (h : ∀ i, i < l.length → p (l.getD i d) = true) : l.all p = true := by
  rw [List.all_eq_true]
  intro x hx
  obtain ⟨i, hi, rfl⟩ := List.getElem_of_mem hx
  have := h i hi
  rwa [List.getD, List.getElem?_eq_getElem hi] at this
theorem prios1_c (p : Int) (W : World) : Calls Tryz.prog 85 #[.int .i64 p] W fun e w' => e = .returned (.bool (!prB p)) ∧ W = w' := by
  rcases (by omega : p < 0 ∨ (0 ≤ p ∧ p ≤ 31) ∨ 31 < p) with h | ⟨h, h'⟩ | h
  · have e : prB p = false := by unfold prB; simp; omega
    rw [e]
    clear e
    go_enter Tryz.func85, Tryz.ntmps85
    go_wp2_with fail
    go_ret
    exact ⟨rfl, rfl⟩
  · have e : prB p = true := by unfold prB; simp; omega
    have n1 : ¬ p < 0 := by omega
    have n2 : ¬ 31 < p := by omega
    have d2 : decide (31 < p) = false := decide_eq_false n2
    rw [e]
    clear e h h'
    go_enter Tryz.func85, Tryz.ntmps85
    go_wp2_with fail
    go_ret
    exact ⟨rfl, rfl⟩
  · have e : prB p = false := by unfold prB; simp; omega
    have n1 : ¬ p < 0 := by omega
    have d2 : decide (31 < p) = true := decide_eq_true h
    rw [e]
    clear e
    go_enter Tryz.func85, Tryz.ntmps85
    go_wp2_with fail
    go_ret
    exact ⟨rfl, rfl⟩
theorem indexf_c (l : List Int) (v : Value) (W : World) (h : RI W v l) (hl : l.length ≤ 140737488355328) :
    Calls Tryz.prog 106 #[v, .func (.func 85) #[] #[]] W fun e w' => (∃ i : Int, e = .returned (.int .i64 i) ∧ (prOk l = true → i = -1) ∧ (prOk l = false → 0 ≤ i ∧ i < l.length)) ∧ W = w' := by
  obtain ⟨a, cap, rfl, hc⟩ := h.out
  have HC := Lib.hid hc
  have PC := Lib.hid prios1_c
  have OK := Lib.hid (all_of (p := prB) (l := l) (d := 0))
  have BAD := Lib.hid (fun i hi h => all_not (p := prB) (l := l) (d := 0) (i := i) hi h)
  show Calls _ _ _ _ fun e w' => (∃ i : Int, e = .returned (.int .i64 i) ∧ (l.all prB = true → i = -1) ∧ (l.all prB = false → 0 ≤ i ∧ i < l.length)) ∧ W = w'
  generalize l.all prB = R at *
  clear h hc
  go_enter Tryz.func106, Tryz.ntmps106
  go_wp2_with fail
  go_loopw [8] (fun iv wr => ∃ i : Nat, iv = .int .i64 i ∧ wr = W ∧ i ≤ l.length ∧ Hid (∀ k, k < i → prB (l.getD k 0) = true)) (fun iv _ => l.length - (intOf iv).toNat)
  case atStart => exact ⟨0, by go_num, rfl, Nat.zero_le _, Lib.hid (fun k hk => absurd hk (Nat.not_lt_zero _))⟩
  case round =>
    obtain ⟨i, rfl, rfl, hi, hok⟩ := hrel
    have hii : (i : Int) ≤ 140737488355328 := by omega
    by_cases hlt : i < l.length
    · have hlt' : (i : Int) < (l.length : Int) := by omega
      obtain ⟨b, off, rfl, hb, g⟩ := HC.out i hlt
      have NX : Hid (prB (l.getD i 0) = true → ∀ k, k < i + 1 → prB (l.getD k 0) = true) := Lib.hid (fun hg k hk => by
        rcases Nat.lt_or_ge k i with h | h
        · exact hok.out k h
        · obtain rfl : k = i := by omega
          exact hg)
      have BD := Lib.hid (BAD.out i hlt)
      generalize l.getD i 0 = x at *
      cases hx : prB x with
      | true =>
        have NX2 := Lib.hid (NX.out hx)
        have PX : ∀ W, Calls Tryz.prog 85 #[.int .i64 x] W fun e w' => e = .returned (.bool false) ∧ W = w' := fun W => by have := PC.out x W; rw [hx] at this; exact this
        have PXX := Lib.hid PX
        clear hlt hx PX
        go_wp2_with (go_at_call 85; refine (PXX.out _).mono ?_; rintro e w' ⟨rfl, rfl⟩)
        go_roundw
        case rel => exact ⟨i + 1, by go_num, trivial, by omega, NX2⟩
        case measure => show l.length - ((i : Int) + 1).toNat < l.length - ((i : Int)).toNat; omega
      | false =>
        have HR := Lib.hid (BD.out hx)
        have PX : ∀ W, Calls Tryz.prog 85 #[.int .i64 x] W fun e w' => e = .returned (.bool true) ∧ W = w' := fun W => by have := PC.out x W; rw [hx] at this; exact this
        have PXX := Lib.hid PX
        clear hlt hx PX
        go_wp2_with (go_at_call 85; refine (PXX.out _).mono ?_; rintro e w' ⟨rfl, rfl⟩)
        go_ret
        exact ⟨⟨_, rfl, (fun h => by rw [HR.out] at h; cases h), fun _ => ⟨by omega, by omega⟩⟩, rfl⟩
    · have hlt' : ¬ (i : Int) < (l.length : Int) := by omega
      have HR : Hid (R = true) := Lib.hid (OK.out (fun k hk => hok.out k (by omega)))
      clear hlt
      go_wp2_with fail
      go_ret
      exact ⟨⟨_, rfl, fun _ => rfl, (fun h => by rw [HR.out] at h; cases h)⟩, rfl⟩
theorem contf_c (l : List Int) (v : Value) (W : World) (h : RI W v l) (hl : l.length ≤ 140737488355328) :
    Calls Tryz.prog 84 #[v, .func (.func 85) #[] #[]] W fun e w' => e = .returned (.bool (!prOk l)) ∧ W = w' := by
  have IC := Lib.hid (indexf_c l v W h hl)
  cases hp : prOk l with
  | true =>
    go_enter Tryz.func84, Tryz.ntmps84
    go_wp2_with (go_at_call 106; refine IC.out.mono ?_; rintro e w' ⟨⟨i, rfl, hi, _⟩, rfl⟩; obtain rfl := hi hp)
    go_ret
    exact ⟨rfl, rfl⟩
  | false =>
    go_enter Tryz.func84, Tryz.ntmps84
    go_wp2_with (go_at_call 106; refine IC.out.mono ?_; rintro e w' ⟨⟨i, rfl, _, hi⟩, rfl⟩; have h0 := (hi hp).1; clear hi)
    go_ret
    exact ⟨rfl, rfl⟩
theorem prios_c (l : List Int) (v : Value) (W : World) (h : RI W v l) (hl : l.length ≤ 140737488355328) :
    Calls Tryz.prog 58 #[v] W fun e w' => e = .returned (if prOk l then .nilIface else errN 2) ∧ W = w' := by
  have CC := Lib.hid (contf_c l v W h hl)
  cases hp : prOk l with
  | true =>
    rw [hp] at CC
    clear hp
    go_enter Tryz.func58, Tryz.ntmps58
    go_wp2_with (go_at_call 84; refine CC.out.mono ?_; rintro e w' ⟨rfl, rfl⟩)
    go_ret
    exact ⟨rfl, rfl⟩
  | false =>
    rw [hp] at CC
    clear hp
    go_enter Tryz.func58, Tryz.ntmps58
    go_wp2_with (go_at_call 84; refine CC.out.mono ?_; rintro e w' ⟨rfl, rfl⟩)
    go_ret
    exact ⟨rfl, rfl⟩
theorem rprios_c (l : List Int) (v : Value) (W : World) (h : RI W v l) (hl : l.length ≤ 140737488355328) :
    Calls Tryz.prog 52 #[v] W fun e w' => e = .returned (.bool (prOk l)) ∧ W = w' := by
  obtain ⟨a, cap, rfl, hc⟩ := h.out
  have HC := Lib.hid hc
  have OK := Lib.hid (all_of (p := prB) (l := l) (d := 0))
  have BAD := Lib.hid (fun i hi h => all_not (p := prB) (l := l) (d := 0) (i := i) hi h)
  show Calls _ _ _ _ fun e w' => e = .returned (.bool (l.all prB)) ∧ W = w'
  generalize l.all prB = R at *
  clear h hc
  go_enter Tryz.func52, Tryz.ntmps52
  go_wp2_with fail
  go_loopw [3] (fun iv wr => ∃ i : Nat, iv = .int .i64 i ∧ wr = W ∧ i ≤ l.length ∧ Hid (∀ k, k < i → prB (l.getD k 0) = true)) (fun iv _ => l.length - (intOf iv).toNat)
  case atStart => exact ⟨0, by go_num, rfl, Nat.zero_le _, Lib.hid (fun k hk => absurd hk (Nat.not_lt_zero _))⟩
  case round =>
    obtain ⟨i, rfl, rfl, hi, hok⟩ := hrel
    have hii : (i : Int) ≤ 140737488355328 := by omega
    by_cases hlt : i < l.length
    · have hlt' : (i : Int) < (l.length : Int) := by omega
      obtain ⟨b, off, rfl, hb, g⟩ := HC.out i hlt
      have NX : Hid (prB (l.getD i 0) = true → ∀ k, k < i + 1 → prB (l.getD k 0) = true) := Lib.hid (fun hg k hk => by
        rcases Nat.lt_or_ge k i with h | h
        · exact hok.out k h
        · obtain rfl : k = i := by omega
          exact hg)
      have BD := Lib.hid (BAD.out i hlt)
      generalize l.getD i 0 = x at *
      rcases (by omega : x < 0 ∨ (0 ≤ x ∧ x ≤ 31) ∨ (0 ≤ x ∧ 31 < x)) with h | ⟨h, h'⟩ | ⟨h, h'⟩
      · have HR := Lib.hid (BD.out (by unfold prB; simp; omega))
        clear hlt
        go_wp2_with fail
        go_ret
        exact ⟨by rw [HR.out]; rfl, rfl⟩
      · have NX2 := Lib.hid (NX.out (by unfold prB; simp; omega))
        have n1 : ¬ x < 0 := by omega
        have n2 : ¬ 31 < x := by omega
        have d2 : decide (31 < x) = false := decide_eq_false n2
        clear hlt h h'
        go_wp2_with fail
        go_roundw
        case rel => exact ⟨i + 1, by go_num, trivial, by omega, NX2⟩
        case measure => show l.length - ((i : Int) + 1).toNat < l.length - ((i : Int)).toNat; omega
      · have HR := Lib.hid (BD.out (by unfold prB; simp; omega))
        have n1 : ¬ x < 0 := by omega
        have d2 : decide (31 < x) = true := decide_eq_true h'
        clear hlt h
        go_wp2_with fail
        go_ret
        exact ⟨by rw [HR.out]; rfl, rfl⟩
    · have hlt' : ¬ (i : Int) < (l.length : Int) := by omega
      have HR : Hid (R = true) := Lib.hid (OK.out (fun k hk => hok.out k (by omega)))
      clear hlt
      go_wp2_with fail
      go_ret
      exact ⟨by rw [HR.out]; rfl, rfl⟩
end Go.Proofs.YtophilmjfdhhaaaGreatDoor
