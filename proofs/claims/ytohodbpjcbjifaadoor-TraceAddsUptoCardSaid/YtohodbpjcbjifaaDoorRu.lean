/- titheref19.New, Add. -/
import Derived.Test.YtohodbpjcbjifaaDoorRt
import Derived.Test.YtohodbpjcbjifaaDoorTc
namespace Go.Proofs.YtohodbpjcbjifaaDoor
open Go Go.RowKit Go.ChangeShapes Go.WideShapes
set_option linter.unusedVariables false
set_option maxRecDepth 100000
set_option maxHeartbeats 800000

/-- The reference's trace as a value. -/
abbrev rtV (keep gone : Int) (lv : Value) (last : Int) : Value := .agg #[.int .i64 keep, .int .i64 gone, lv, .int .i64 last]
abbrev rtC (keep gone : Int) (lv : Value) (last : Int) : Obj := .cells #[.int .i64 keep, .int .i64 gone, lv, .int .i64 last] 30

theorem rnew_ok (W : World) (keep : Int) (h1 : 1 ≤ keep) (h2 : keep ≤ 4096) :
    Calls Tryd.prog 5 #[.int .i64 keep] W fun e w' => e = .returned (.tuple #[rtV keep 0 (.slice none 0 0) 0, .int .i64 0]) ∧ Below W.heap.size W w' := by
  have a : ¬ keep < 1 := by omega
  have b : ¬ 4096 < keep := by omega
  go_enter Tryd.func5, Tryd.ntmps5
  go_wp2_with fail
  refine bodyPost_ret (v := .tuple #[rtV keep 0 (.slice none 0 0) 0, .int .i64 0]) (by simp [results, Tryd.f5, go_sem]) rfl ⟨rfl, (Below.refl _ _).alloc (Nat.le_refl _) _⟩
theorem rnew_bad (W : World) (keep : Int) (h : ¬ (1 ≤ keep ∧ keep ≤ 4096)) :
    Calls Tryd.prog 5 #[.int .i64 keep] W fun e w' => e = .returned (.tuple #[rtV 0 0 (.slice none 0 0) 0, .int .i64 1]) ∧ Below W.heap.size W w' := by
  by_cases h1 : keep < 1
  · clear h
    go_enter Tryd.func5, Tryd.ntmps5
    go_wp2_with fail
    refine bodyPost_ret (v := .tuple #[rtV 0 0 (.slice none 0 0) 0, .int .i64 1]) (by simp [results, Tryd.f5, go_sem]) rfl ⟨rfl, (Below.refl _ _).alloc (Nat.le_refl _) _⟩
  · have h2 : 4096 < keep := by omega
    clear h
    go_enter Tryd.func5, Tryd.ntmps5
    go_wp2_with fail
    refine bodyPost_ret (v := .tuple #[rtV 0 0 (.slice none 0 0) 0, .int .i64 1]) (by simp [results, Tryd.f5, go_sem]) rfl ⟨rfl, (Below.refl _ _).alloc (Nat.le_refl _) _⟩

/-- The four cells of the reference's trace. -/
structure T4 (w : World) (b : Nat) (keep gone : Int) (lv : Value) (last : Int) : Prop where
  lt : b < w.heap.size
  c0 : w.cell? ⟨b, 0, none⟩ = some (.int .i64 keep)
  c1 : w.cell? ⟨b, 1, none⟩ = some (.int .i64 gone)
  c2 : w.cell? ⟨b, 2, none⟩ = some lv
  c3 : w.cell? ⟨b, 3, none⟩ = some (.int .i64 last)
  fr : ∀ o, w.frozen? ⟨b, o, none⟩ = false
theorem T4.of_block {w w' : World} {b : Nat} {k g : Int} {lv : Value} {l : Int} (h : T4 w b k g lv l) (hs : w.heap.size ≤ w'.heap.size) (e : w'.heap[b]? = w.heap[b]?) : T4 w' b k g lv l :=
  ⟨Nat.lt_of_lt_of_le h.lt hs, (World.cell?_of_block (w := w) (a := ⟨b, 0, none⟩) e).trans h.c0, (World.cell?_of_block (w := w) (a := ⟨b, 1, none⟩) e).trans h.c1, (World.cell?_of_block (w := w) (a := ⟨b, 2, none⟩) e).trans h.c2, (World.cell?_of_block (w := w) (a := ⟨b, 3, none⟩) e).trans h.c3, frozen_old h.fr e⟩
theorem T4_new (w : World) (k g : Int) (lv : Value) (l : Int) : T4 (w.alloc (rtC k g lv l)) w.heap.size k g lv l :=
  ⟨by simp, cell_new w _ _ 0 _ rfl, cell_new w _ _ 1 _ rfl, cell_new w _ _ 2 _ rfl, cell_new w _ _ 3 _ rfl, fun o => frozen_new _ _ _ _⟩

/-- The marks are such as may be, in order, so far. -/
def okTo (last : Int) (ms : List Mk) (k : Nat) : Prop := ∀ j, j < k → Ok0 (ms.getD j default) ∧ lastOf last ms j ≤ (ms.getD j default).t
theorem okTo_row {last : Int} {ms : List Mk} (h : okTo last ms ms.length) : okRow last ms := by
  refine ⟨fun m hm => ?_, fun i hi => (h i hi).2⟩
  obtain ⟨j, hj, rfl⟩ := List.getElem_of_mem hm
  have := (h j hj).1
  simpa [List.getD, List.getElem?_eq_getElem hj] using this
theorem row_okTo {last : Int} {ms : List Mk} (h : okRow last ms) (k : Nat) (hk : k < ms.length) : Ok0 (ms.getD k default) ∧ lastOf last ms k ≤ (ms.getD k default).t :=
  ⟨h.1 _ (by rw [List.getD, List.getElem?_eq_getElem hk]; simp), h.2 k hk⟩
theorem okTo_succ {last : Int} {ms : List Mk} {k : Nat} (h : okTo last ms k) (h1 : Ok0 (ms.getD k default)) (h2 : lastOf last ms k ≤ (ms.getD k default).t) : okTo last ms (k + 1) := by
  intro j hj
  rcases Nat.lt_or_ge j k with h' | h'
  · exact h j h'
  · obtain rfl : j = k := by omega
    exact ⟨h1, h2⟩

theorem addAll_eq (keep : Nat) (hk : 1 ≤ keep) (g : Int) (l ms : List Mk) (hl : l.length ≤ keep) :
    addAll keep (g, l) ms = (if keep < l.length + ms.length then (g + ((l.length + ms.length : Nat) : Int) - keep, (l ++ ms).drop (l.length + ms.length - keep)) else (g, l ++ ms)) := by
  induction ms generalizing g l with
  | nil => simp [addAll]; omega
  | cons m r ih =>
    have e : addAll keep (g, l) (m :: r) = addAll keep (addOne keep (g, l) m) r := rfl
    rw [e]
    unfold addOne
    by_cases h : l.length = keep
    · rw [if_pos h]
      obtain ⟨a, l', rfl⟩ : ∃ a l', l = a :: l' := by
        cases l with
        | nil => simp at h; omega
        | cons a l' => exact ⟨a, l', rfl⟩
      rw [ih _ _ (by simp at h ⊢; omega)]
      simp only [List.drop_succ_cons, List.drop_zero, List.length_append, List.length_cons, List.length_nil] at h ⊢
      by_cases h' : keep < l'.length + (0 + 1) + r.length
      · rw [if_pos h', if_pos (show keep < l'.length + 1 + (r.length + 1) by omega)]
        simp only [Prod.mk.injEq]
        refine ⟨by omega, ?_⟩
        have e1 : l'.length + 1 + (r.length + 1) - keep = (l'.length + (0 + 1) + r.length - keep) + 1 := by omega
        rw [e1, List.append_assoc]
        rfl
      · rw [if_neg h', if_pos (show keep < l'.length + 1 + (r.length + 1) by omega)]
        have hr : r = [] := List.eq_nil_of_length_eq_zero (by omega)
        subst hr
        simp only [Prod.mk.injEq]
        refine ⟨by simp; omega, ?_⟩
        have e1 : l'.length + 1 + (([] : List Mk).length + 1) - keep = 1 := by simp; omega
        rw [e1]
        simp
    · rw [if_neg h, ih _ _ (by simp; omega)]
      simp only [List.length_append, List.length_cons, List.length_nil]
      rw [show l.length + (0 + 1) + r.length = l.length + (r.length + 1) by omega, List.append_assoc]
      rfl
end Go.Proofs.YtohodbpjcbjifaaDoor
