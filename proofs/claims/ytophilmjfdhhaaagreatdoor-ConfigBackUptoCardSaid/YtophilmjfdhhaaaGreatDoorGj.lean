/- config.Valid at every tree. -/
import Derived.Test.YtophilmjfdhhaaaGreatDoorGi
namespace Go.Proofs.YtophilmjfdhhaaaGreatDoor
open Go Go.RowKit Go.Shelf Go.Sort
set_option linter.unusedVariables false
set_option linter.unusedSimpArgs false
set_option maxRecDepth 100000
set_option maxHeartbeats 8000000

/-- What is asked of best-effort tasks at the k-th place. -/
def slK (t : Tr) (k : Nat) : Int := if k = 1 then (if prOk t.slack then 0 else 2) else if k = 3 ∧ 16 < t.slack.length then 30 else 0
def colK (l : List It) (k : Nat) : Int := firstE ((List.range l.length).map fun i => chkK l i k)
/-- May a tree be? -/
def validS (t : Tr) : Int := if formB t.items = true then firstE [colK t.items 0, slK t 0, colK t.items 1, slK t 1, colK t.items 2, slK t 2, colK t.items 3, slK t 3, colK t.items 4, slK t 4] else 4
theorem firstE_app : ∀ (a b : List Int), (∀ x ∈ a, x = 0) → firstE (a ++ b) = firstE b
  | [], b, _ => rfl
  | x :: a, b, h => by
    show (if x = 0 then firstE (a ++ b) else x) = firstE b
    rw [if_pos (h x (by simp))]
    exact firstE_app a b fun y hy => h y (by simp [hy])
theorem firstE_hit (x : Int) (r : List Int) (h : x ≠ 0) : firstE (x :: r) = x := by unfold firstE; exact if_neg h
theorem colK_zero {l : List It} {k : Nat} (h : ∀ i, i < l.length → chkK l i k = 0) : colK l k = 0 := by
  unfold colK
  have := firstE_app ((List.range l.length).map fun i => chkK l i k) [] (by
    intro x hx
    obtain ⟨i, hi, rfl⟩ := List.mem_map.1 hx
    exact h i (List.mem_range.1 hi))
  simpa [firstE] using this
theorem colK_hit {l : List It} {k i : Nat} (hi : i < l.length) (h : ∀ j, j < i → chkK l j k = 0) (hn : chkK l i k ≠ 0) : colK l k = chkK l i k := by
  unfold colK
  have e : List.range l.length = List.range i ++ i :: (List.range (l.length - i - 1)).map (· + (i + 1)) := by
    have : l.length = i + (1 + (l.length - i - 1)) := by omega
    rw [this, List.range_add, List.range_add]
    simp [List.map_map]
    intro a _
    omega
  rw [e, List.map_append, List.map_cons, firstE_app _ _ (by
    intro x hx
    obtain ⟨j, hj, rfl⟩ := List.mem_map.1 hx
    exact h j (List.mem_range.1 hj))]
  exact firstE_hit _ _ hn
/-- What has been passed ahead of the k-th place. -/
def passK (t : Tr) (k : Nat) : Prop := ∀ j, j < k → (∀ i, i < t.items.length → chkK t.items i j = 0) ∧ slK t j = 0
theorem validS_col {t : Tr} (hf : formB t.items = true) {k : Nat} (hk : k < 5) (hp : passK t k) {x : Int} (hx : colK t.items k = x) (hn : x ≠ 0) : validS t = x := by
  subst hx
  unfold validS
  rw [if_pos hf]
  have z : ∀ j, j < k → colK t.items j = 0 ∧ slK t j = 0 := fun j hj => ⟨colK_zero (hp j hj).1, (hp j hj).2⟩
  rcases (by omega : k = 0 ∨ k = 1 ∨ k = 2 ∨ k = 3 ∨ k = 4) with rfl | rfl | rfl | rfl | rfl
  all_goals
    (try rw [(z 0 (by decide)).1, (z 0 (by decide)).2])
    (try rw [(z 1 (by decide)).1, (z 1 (by decide)).2])
    (try rw [(z 2 (by decide)).1, (z 2 (by decide)).2])
    (try rw [(z 3 (by decide)).1, (z 3 (by decide)).2])
    simp [firstE, hn]
theorem validS_sl {t : Tr} (hf : formB t.items = true) {k : Nat} (hk : k < 5) (hp : passK t k) (hc : ∀ i, i < t.items.length → chkK t.items i k = 0) {x : Int} (hx : slK t k = x) (hn : x ≠ 0) : validS t = x := by
  subst hx
  unfold validS
  rw [if_pos hf]
  have z : ∀ j, j < k → colK t.items j = 0 ∧ slK t j = 0 := fun j hj => ⟨colK_zero (hp j hj).1, (hp j hj).2⟩
  have zk := colK_zero hc
  rcases (by omega : k = 0 ∨ k = 1 ∨ k = 2 ∨ k = 3 ∨ k = 4) with rfl | rfl | rfl | rfl | rfl
  all_goals
    (try rw [(z 0 (by decide)).1, (z 0 (by decide)).2])
    (try rw [(z 1 (by decide)).1, (z 1 (by decide)).2])
    (try rw [(z 2 (by decide)).1, (z 2 (by decide)).2])
    (try rw [(z 3 (by decide)).1, (z 3 (by decide)).2])
    rw [zk]
    simp [firstE, hn]
theorem validS_ok {t : Tr} (hf : formB t.items = true) (hp : passK t 5) : validS t = 0 := by
  unfold validS
  rw [if_pos hf]
  have z : ∀ j, j < 5 → colK t.items j = 0 ∧ slK t j = 0 := fun j hj => ⟨colK_zero (hp j hj).1, (hp j hj).2⟩
  rw [(z 0 (by decide)).1, (z 0 (by decide)).2, (z 1 (by decide)).1, (z 1 (by decide)).2, (z 2 (by decide)).1, (z 2 (by decide)).2, (z 3 (by decide)).1, (z 3 (by decide)).2, (z 4 (by decide)).1, (z 4 (by decide)).2]
  simp [firstE]
theorem passK_snoc {t : Tr} {k : Nat} (h : passK t k) (hc : ∀ i, i < t.items.length → chkK t.items i k = 0) (hs : slK t k = 0) : passK t (k + 1) := by
  intro j hj
  rcases Nat.lt_or_ge j k with h' | h'
  · exact h j h'
  · obtain rfl : j = k := by omega
    exact ⟨hc, hs⟩
theorem pass_itR {t : Tr} (h : passK t 4) : ∀ x ∈ t.items, itR x = true := by
  intro x hx
  obtain ⟨i, hi, rfl⟩ := List.getElem_of_mem hx
  have := chk1_ok ((h 1 (by decide)).1 i hi)
  rw [List.getD, List.getElem?_eq_getElem hi] at this
  exact this.1
theorem checkSlack_c (t : Tr) (v1 v2 : Value) (k : Nat) (hk : k < 5) (W : World) (h2 : RI W v2 t.slack) (hl : t.slack.length ≤ 140737488355328) (hv1 : ∃ p n c, v1 = .slice p n c) :
    Calls Tryz.prog 50 #[.agg #[v1, v2], .int .i64 k] W fun e w' => e = .returned (errOf (slK t k)) ∧ Below W.heap.size W w' := by
  obtain ⟨p1, n1, c1, rfl⟩ := hv1
  obtain ⟨p2, c2, rfl⟩ := RI_form h2
  obtain ⟨w0, hw0⟩ : ∃ w0, w0 = W.alloc (trObj (.slice p1 n1 c1) (.slice p2 t.slack.length c2)) := ⟨_, rfl⟩
  have b0 : Below W.heap.size W w0 := by rw [hw0]; exact (Below.refl _ _).alloc (Nat.le_refl _) _
  have PR := Lib.hid (prios_c t.slack _ w0 (h2.below b0) hl)
  have HW := Lib.hid hw0
  have B0 := Lib.hid b0
  have hli : (t.slack.length : Int) ≤ 140737488355328 := by omega
  have hb2 : Below W.heap.size W (W.alloc (trObj (.slice p1 n1 c1) (.slice p2 t.slack.length c2))) := (Below.refl _ _).alloc (Nat.le_refl _) _
  have BB := Lib.hid hb2
  clear h2 b0 hw0 hl hb2
  rcases (by omega : k = 0 ∨ k = 1 ∨ k = 2 ∨ k = 3 ∨ k = 4) with rfl | rfl | rfl | rfl | rfl
  · have HR : Hid (errOf (slK t 0) = .nilIface) := Lib.hid rfl
    generalize errOf (slK t 0) = R at *
    go_enter Tryz.func50, Tryz.ntmps50
    go_wp2_with fail
    go_ret
    exact ⟨by rw [HR.out]; rfl, BB.out⟩
  · have HR : Hid (errOf (slK t 1) = if prOk t.slack then .nilIface else errN 2) := Lib.hid (errOf_if' (n := 2) (by decide))
    generalize errOf (slK t 1) = R at *
    generalize prOk t.slack = pb at *
    cases pb
    all_goals
      go_enter Tryz.func50, Tryz.ntmps50
      go_wp2_with fail
      rw [← HW.out]
      refine PR.out.mono ?_
      rintro e w' ⟨rfl, rfl⟩
      go_wp2_with fail
      go_ret
      exact ⟨by rw [HR.out]; rfl, B0.out⟩
  · have HR : Hid (errOf (slK t 2) = .nilIface) := Lib.hid rfl
    generalize errOf (slK t 2) = R at *
    go_enter Tryz.func50, Tryz.ntmps50
    go_wp2_with fail
    go_ret
    exact ⟨by rw [HR.out]; rfl, BB.out⟩
  · by_cases h16 : 16 < t.slack.length
    · have HR : Hid (errOf (slK t 3) = errN 30) := Lib.hid (by
        have e : slK t 3 = 30 := by unfold slK; rw [if_neg (by decide), if_pos ⟨rfl, h16⟩]
        rw [e]; rfl)
      generalize errOf (slK t 3) = R at *
      have q1 : (16 : Int) < (t.slack.length : Int) := by omega
      have q2 : decide (16 < t.slack.length) = true := decide_eq_true h16
      clear h16
      go_enter Tryz.func50, Tryz.ntmps50
      go_wp2_with fail
      go_ret
      exact ⟨by rw [HR.out]; rfl, BB.out⟩
    · have HR : Hid (errOf (slK t 3) = .nilIface) := Lib.hid (by
        have e : slK t 3 = 0 := by unfold slK; rw [if_neg (by decide), if_neg (fun h => h16 h.2)]
        rw [e]; rfl)
      generalize errOf (slK t 3) = R at *
      have q1 : ¬ (16 : Int) < (t.slack.length : Int) := by omega
      have q2 : decide (16 < t.slack.length) = false := decide_eq_false h16
      clear h16
      go_enter Tryz.func50, Tryz.ntmps50
      go_wp2_with fail
      go_ret
      exact ⟨by rw [HR.out]; rfl, BB.out⟩
  · have HR : Hid (errOf (slK t 4) = .nilIface) := Lib.hid rfl
    generalize errOf (slK t 4) = R at *
    go_enter Tryz.func50, Tryz.ntmps50
    go_wp2_with fail
    go_ret
    exact ⟨by rw [HR.out]; rfl, BB.out⟩
end Go.Proofs.YtophilmjfdhhaaaGreatDoor
