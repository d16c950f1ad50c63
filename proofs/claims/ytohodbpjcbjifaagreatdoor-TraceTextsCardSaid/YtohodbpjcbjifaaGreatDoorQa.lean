/- Queues of marks: the small methods of package fifo. -/
import Derived.Test.YtohodbpjcbjifaaGreatDoorMk
import Derived.Deep.QuietTactic
namespace Go.Proofs.YtohodbpjcbjifaaGreatDoor
open Go Go.RowKit Go.ChangeShapes Go.WideShapes
set_option linter.unusedVariables false
set_option maxRecDepth 100000

/-- The four cells of a queue. -/
structure Q4 (w : World) (b : Nat) (rv : Value) (first many lim : Int) : Prop where
  lt : b < w.heap.size
  c0 : w.cell? ⟨b, 0, none⟩ = some rv
  c1 : w.cell? ⟨b, 1, none⟩ = some (.int .i64 first)
  c2 : w.cell? ⟨b, 2, none⟩ = some (.int .i64 many)
  c3 : w.cell? ⟨b, 3, none⟩ = some (.int .i64 lim)
  fr : ∀ o, w.frozen? ⟨b, o, none⟩ = false

theorem Q4.of_block {w w' : World} {b : Nat} {rv : Value} {f m l : Int} (h : Q4 w b rv f m l) (hs : w.heap.size ≤ w'.heap.size) (e : w'.heap[b]? = w.heap[b]?) : Q4 w' b rv f m l :=
  ⟨Nat.lt_of_lt_of_le h.lt hs, (World.cell?_of_block (w := w) (a := ⟨b, 0, none⟩) e).trans h.c0, (World.cell?_of_block (w := w) (a := ⟨b, 1, none⟩) e).trans h.c1, (World.cell?_of_block (w := w) (a := ⟨b, 2, none⟩) e).trans h.c2, (World.cell?_of_block (w := w) (a := ⟨b, 3, none⟩) e).trans h.c3, fun o => (World.frozen?_of_block (w := w) (a := ⟨b, o, none⟩) e).trans (h.fr o)⟩
theorem Q4.alloc {w : World} {b : Nat} {rv : Value} {f m l : Int} (h : Q4 w b rv f m l) (o : Obj) : Q4 (w.alloc o) b rv f m l :=
  h.of_block (by simp) (Below.heap_alloc _ _ _ h.lt)
theorem Q4.qt {w w' : World} {b : Nat} {rv : Value} {f m l : Int} (h : Q4 w b rv f m l) (q : Qt w w') : Q4 w' b rv f m l := by
  obtain ⟨n, rfl⟩ := q
  exact h.of_block (Nat.le_refl _) rfl

theorem limit_t (w : World) (b : Nat) (rv : Value) (f m l : Int) (h : Q4 w b rv f m l) :
    Calls Tryz.prog 75 #[.pointer (some ⟨b, 0, none⟩)] w fun e w' => e = .returned (.int .i64 l) ∧ w = w' := by
  obtain ⟨lt, c0, c1, c2, c3, fr⟩ := h
  go_enter Tryz.func75, Tryz.ntmps75
  go_wp2
  go_ret
  exact ⟨rfl, rfl⟩

theorem len_t (w : World) (b : Nat) (rv : Value) (f m l : Int) (h : Q4 w b rv f m l) :
    Calls Tryz.prog 76 #[.pointer (some ⟨b, 0, none⟩)] w fun e w' => e = .returned (.int .i64 m) ∧ w = w' := by
  obtain ⟨lt, c0, c1, c2, c3, fr⟩ := h
  go_enter Tryz.func76, Tryz.ntmps76
  go_wp2
  go_ret
  exact ⟨rfl, rfl⟩

theorem room_t (w : World) (b : Nat) (rv : Value) (f m l : Int) (h : Q4 w b rv f m l) (hm : 0 ≤ m) (hl : m ≤ l) (hl' : l ≤ 4096) :
    Calls Tryz.prog 52 #[.pointer (some ⟨b, 0, none⟩)] w fun e w' => e = .returned (.int .i64 (l - m)) ∧ w = w' := by
  have L := Lib.hid (limit_t w b rv f m l h)
  have M := Lib.hid (len_t w b rv f m l h)
  go_enter Tryz.func52, Tryz.ntmps52
  go_wp2_with fail
  refine L.out.mono ?_
  rintro e w' ⟨rfl, rfl⟩
  go_wp2_with fail
  refine M.out.mono ?_
  rintro e w' ⟨rfl, rfl⟩
  go_wp2_with fail
  go_ret
  exact ⟨rfl, rfl⟩

theorem has_t (w : World) (b : Nat) (rv : Value) (f m l i : Int) (h : Q4 w b rv f m l) :
    Calls Tryz.prog 77 #[.pointer (some ⟨b, 0, none⟩), .int .i64 i] w fun e w' => e = .returned (.bool (decide (0 ≤ i ∧ i < m))) ∧ w = w' := by
  obtain ⟨lt, c0, c1, c2, c3, fr⟩ := h
  by_cases h0 : 0 ≤ i
  · by_cases h1 : i < m
    · go_enter Tryz.func77, Tryz.ntmps77
      go_wp2
      go_ret
      exact ⟨by simp <;> omega, rfl⟩
    · go_enter Tryz.func77, Tryz.ntmps77
      go_wp2
      go_ret
      exact ⟨by simp <;> omega, rfl⟩
  · go_enter Tryz.func77, Tryz.ntmps77
    go_wp2
    go_ret
    exact ⟨by simp <;> omega, rfl⟩

theorem at_t (w : World) (b : Nat) (p : Option Addr) (f m l : Int) (R c i : Nat) (h : Q4 w b (.slice p R c) f m l) (hR : 0 < R) (hR' : R ≤ 4096) (hf : 0 ≤ f ∧ f ≤ 4096) (hi : i ≤ 4096) :
    Calls Tryz.prog 78 #[.pointer (some ⟨b, 0, none⟩), .int .i64 i] w fun e w' => e = .returned (.int .i64 ((f + i) % R)) ∧ Qt w w' := by
  obtain ⟨lt, c0, c1, c2, c3, fr⟩ := h
  obtain ⟨hf0, hf1⟩ := hf
  have hr0 : ((R : Int) == 0) = false := by simp; omega
  have ht : (f + i).tmod R = (f + i) % R := Int.tmod_eq_emod_of_nonneg (by omega)
  have hb0 : 0 ≤ (f + i) % (R : Int) := Int.emod_nonneg _ (by omega)
  have hb1 : (f + i) % (R : Int) < R := Int.emod_lt_of_pos _ (by omega)
  go_enter Tryz.func78, Tryz.ntmps78
  go_wp2
  go_quiet (fail)
  go_wp2
  go_ret
  exact ⟨rfl, ⟨_, rfl⟩⟩
end Go.Proofs.YtohodbpjcbjifaaGreatDoor
