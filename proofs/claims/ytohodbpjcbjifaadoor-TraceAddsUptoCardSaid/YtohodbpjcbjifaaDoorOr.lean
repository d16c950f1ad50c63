/- Slices of slices of marks that came in; what a small bulk gives. -/
import Derived.Test.YtohodbpjcbjifaaDoorOm
import Derived.Test.YtohodbpjcbjifaaDoorRows
namespace Go.Proofs.YtohodbpjcbjifaaDoor
open Go Go.RowKit Go.ChangeShapes Go.WideShapes
set_option linter.unusedVariables false
set_option maxRecDepth 100000

theorem bulk_pos {H : Type} (d : DataW H) : 1 ≤ Rows.uptoBulk d := by
  cases d with
  | lit l => cases l <;> simp [Rows.uptoBulk]
  | _ => simp [Rows.uptoBulk]
theorem bulk_mem {H : Type} {d : DataW H} {l : List (DataW H)} (h : d ∈ l) : Rows.uptoBulk d ≤ Rows.uptoBulkAll l := by
  induction l with
  | nil => cases h
  | cons x r ih =>
    rw [Rows.uptoBulkAll]
    rcases List.mem_cons.1 h with rfl | e
    · omega
    · have := ih e; omega
theorem bulk_len {H : Type} (l : List (DataW H)) : l.length ≤ Rows.uptoBulkAll l := by
  induction l with
  | nil => simp
  | cons x r ih => have := bulk_pos x; rw [Rows.uptoBulkAll, List.length_cons]; omega
theorem bulk_slice {H : Type} (e s : List (DataW H)) : Rows.uptoBulkAll e + 1 ≤ Rows.uptoBulk (.slice e s) := by
  rw [Rows.uptoBulk]; omega
theorem bulk_small {H : Type} {l : List (DataW H)} (h : Rows.uptoSmall H l = true) {d : DataW H} (hd : d ∈ l) : Rows.uptoBulk d ≤ 1048576 := by
  have h1 : Rows.uptoBulkAll l ≤ 1048576 := by simpa [Rows.uptoSmall] using h
  have := bulk_mem hd
  omega

/-- A slice of slices of marks. -/
def RR (W : World) (v : Value) (ls : List (List Mk)) : Prop :=
  ∃ p c, v = .slice p ls.length c ∧ ∀ i, i < ls.length → ∃ b o u, p = some ⟨b, o, none⟩ ∧ b < W.heap.size ∧ W.cell? ⟨b, o + i, none⟩ = some u ∧ RM W u (ls.getD i [])

/-- What a slice of marks reads as. -/
theorem marks_of_trod {H : Type} {enc : TypeId × Value → H} {W : World} {base : Nat} {sp : Nat → Bool} {held : Bool} {fuel : Nat} {v : Value} {x : DataW H × List MemPlace}
    (hf : DataW.trod enc Tryd.prog W base sp held fuel 28 [v] = some x) : ∃ l : List Mk, RM W v l ∧ (∀ m ∈ l, m.wf) ∧ l.length ≤ Rows.uptoBulk x.1 := by
  rcases Go.Deep.open_slice Tryd.underlying28 hf with ⟨hcs, _⟩ | ⟨x', len, c, m, n, D, Pl, hcs, _, hl, hm, hz, hx, hi⟩
  · simp at hcs
    subst hcs
    exact ⟨[], RM_nil W, (by intro x hx; cases hx), by simp⟩
  · simp at hcs
    subst hcs
    have hml : len ≤ m := by rw [hz]; split <;> omega
    have h5 : Tryd.prog.cellsOf 42 = 5 := by kernel_rfl
    rw [h5] at hi
    have each : ∀ i, i < len → ∃ mk : Mk, mk.wf ∧ W.cells? base (x'.add (i * 5)) 5 = some mk.cells := by
      intro i hil
      obtain ⟨cs', h1, h2⟩ := hi i (by omega)
      obtain ⟨mk, rfl, hw, _⟩ := five_of_trod h2
      exact ⟨mk, hw, h1⟩
    obtain ⟨f, hfm⟩ := Go.Deep.choose_lt each
    refine ⟨(List.range len).map f, ?_, ?_, ?_⟩
    · rcases Nat.eq_zero_or_pos len with h0 | h0
      · subst h0
        exact .inl ⟨rfl, _, _, rfl, fun h => by cases h⟩
      · obtain ⟨b, off, spot⟩ := x'
        have hspot : spot = none := by
          obtain ⟨_, _, hc⟩ := World.cells?_some (hfm 0 h0).2
          have := hc 0 (by decide)
          simp [Addr.add, Mk.cells] at this
          simpa using World.cell?_spot this
        subst hspot
        have at5 : ∀ i, i < len → At5 W b (off + i * 5) (f i) := by
          intro i hil
          have := (hfm i hil).2
          rw [Go.WideShapes.add_plain] at this
          exact at5_of_cells (s := none) this
        refine .inr ⟨b, off, c, by simp, by simpa using hl, block_lt_of_cell (at5 0 h0).c0, fun i hil => ?_⟩
        have hil' : i < len := by simpa using hil
        have e : ((List.range len).map f).getD i default = f i := by simp [List.getD, List.getElem?_range hil']
        rw [e]
        exact at5 i hil'
    · intro mk hmk
      obtain ⟨i, hi', rfl⟩ := List.mem_map.1 hmk
      exact (hfm i (List.mem_range.1 hi')).1
    · rw [hx]
      have h1 := bulk_slice ((List.range len).map D) ((List.range (m - len)).map fun j => D (len + j))
      have h2 := bulk_len ((List.range len).map D)
      simp at h2 ⊢
      omega

/-- What an argument that is a slice of slices of marks holds, where its bulk is small. -/
theorem rows_of_arg {H : Type} {enc : TypeId × Value → H} {W : World} {base : Nat} {sp : Nat → Bool} {held : Bool} {a : Option Addr} {len cap : Nat} {d : DataW H} {p : List MemPlace}
    (h : DataW.Trod enc Tryd.prog W base sp held 22 (.slice a len cap) d p) (hb : Rows.uptoBulk d ≤ 1048576) :
    ∃ ls : List (List Mk), RR W (.slice a len cap) ls ∧ ls.length ≤ 1048576 ∧ ∀ i, i < ls.length → (ls.getD i []).length ≤ 1048576 := by
  obtain ⟨fuel, hf⟩ := h
  rcases Go.Deep.open_slice1 Tryd.underlying22 (by kernel_rfl) hf with ⟨hcs, _⟩ | ⟨x, len', c, m, n, V, D, Pl, hcs, _, hl, hm, hz, hx, hi⟩
  · simp [Value.cells] at hcs
    obtain ⟨rfl, rfl, rfl⟩ := hcs
    exact ⟨[], ⟨none, 0, rfl, fun i hi => by simp at hi⟩, by simp, fun i hi => by simp at hi⟩
  · simp [Value.cells] at hcs
    obtain ⟨rfl, rfl, rfl⟩ := hcs
    have hml : len ≤ m := by rw [hz]; split <;> omega
    obtain ⟨rfl, _⟩ := Prod.mk.inj hx
    have hall := bulk_slice ((List.range len).map D) ((List.range (m - len)).map fun j => D (len + j))
    have hlen := bulk_len ((List.range len).map D)
    simp only [List.length_map, List.length_range] at hlen
    have each : ∀ i, i < len → ∃ l : List Mk, RM W (V i) l ∧ l.length ≤ 1048576 := by
      intro i hil
      obtain ⟨_, h2⟩ := hi i (by omega)
      obtain ⟨l, hr, _, hle⟩ := marks_of_trod h2
      have := bulk_mem (List.mem_map.2 ⟨i, List.mem_range.2 hil, rfl⟩ : D i ∈ (List.range len).map D)
      exact ⟨l, hr, by simp at hle; omega⟩
    obtain ⟨f, hfm⟩ := Go.Deep.choose_lt each
    have gd : ∀ i, i < len → ((List.range len).map f).getD i [] = f i := fun i hil => by simp [List.getD, List.getElem?_range hil]
    refine ⟨(List.range len).map f, ⟨some x, cap, by simp, fun i hil => ?_⟩, by simp; omega, fun i hil => ?_⟩
    · have hil' : i < len := by simpa using hil
      obtain ⟨b, off, spot⟩ := x
      have hspot : spot = none := by
        simpa [Addr.add] using World.cell?_spot (hi 0 (by omega)).1
      subst hspot
      have hc := (hi i (by omega)).1
      rw [Go.WideShapes.add_plain] at hc
      exact ⟨b, off, V i, rfl, block_lt_of_cell hc, hc, by rw [gd i hil']; exact (hfm i hil').1⟩
    · have hil' : i < len := by simpa using hil
      rw [gd i hil']
      exact (hfm i hil').2
end Go.Proofs.YtohodbpjcbjifaaDoor
