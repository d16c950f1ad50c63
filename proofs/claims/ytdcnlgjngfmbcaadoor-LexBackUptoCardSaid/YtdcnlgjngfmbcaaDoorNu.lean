/- Slices of strings that came in, where what is read is of small bulk. -/
import Derived.Test.YtdcnlgjngfmbcaaDoorRows
import Derived.Test.YtdcnlgjngfmbcaaDoorNs
import Derived.Deep.Slices
import Derived.ChangeMaps5
namespace Go.Proofs.YtdcnlgjngfmbcaaDoor
open Go Go.RowKit Go.ChangeShapes Go.WideShapes
set_option linter.unusedVariables false
set_option maxRecDepth 100000

theorem bulk_pos {H : Type} (d : DataW H) : 1 ≤ Rows.uptoBulk d := by
  cases d with
  | lit l => cases l <;> simp [Rows.uptoBulk]
  | _ => simp [Rows.uptoBulk]
theorem bulk_mem {H : Type} {d : DataW H} {l : List (DataW H)} (h : d ∈ l) : Rows.uptoBulk d ≤ Rows.uptoBulkAll l := by
  induction l with
  | nil => cases h
  | cons x r ih =>
    rw [Rows.uptoBulkAll]
    rcases List.mem_cons.1 h with rfl | e
    · omega
    · have := ih e; omega
theorem bulk_small {H : Type} {l : List (DataW H)} (h : Rows.uptoSmall H l = true) {d : DataW H} (hd : d ∈ l) : Rows.uptoBulk d ≤ 1048576 := by
  have h1 : Rows.uptoBulkAll l ≤ 1048576 := by simpa [Rows.uptoSmall] using h
  have := bulk_mem hd
  omega
theorem bulk_strs {H : Type} (l : List (List UInt8)) : Rows.uptoBulkAll (l.map fun s => (DataW.lit (.string s) : DataW H)) = sumB l := by
  induction l with
  | nil => rfl
  | cons a r ih => simp [Rows.uptoBulkAll, Rows.uptoBulk, sumB, ih]
theorem sumB_bounds (l : List (List UInt8)) : l.length ≤ sumB l ∧ ∀ k, k < l.length → (l.getD k []).length ≤ sumB l := by
  induction l with
  | nil => simp
  | cons a r ih =>
    refine ⟨by simp [sumB]; omega, fun k hk => ?_⟩
    cases k with
    | zero => simp [sumB]; omega
    | succ k => have := ih.2 k (by simpa using hk); simp [sumB] at this ⊢; omega
/-- What an argument that is a slice of strings holds, where its bulk is small. -/
theorem strs_of_arg {H : Type} {enc : TypeId × Value → H} {W : World} {base : Nat} {sp : Nat → Bool} {held : Bool} {a : Option Addr} {len cap : Nat} {d : DataW H} {p : List MemPlace}
    (h : DataW.Trod enc Tryd.prog W base sp held 34 (.slice a len cap) d p) (hb : Rows.uptoBulk d ≤ 1048576) :
    ∃ l : List (List UInt8), RS W (.slice a len cap) l ∧ sumB l ≤ 1048576 := by
  obtain ⟨fuel, hf⟩ := h
  rcases Go.Deep.open_slice1 Tryd.underlying34 (by kernel_rfl) hf with ⟨hcs, _⟩ | ⟨x, len', c, m, n, V, D, Pl, hcs, _, hl, hm, hz, hx, hi⟩
  · simp [Value.cells] at hcs
    obtain ⟨rfl, rfl, rfl⟩ := hcs
    exact ⟨[], RS_nil W, by simp [sumB]⟩
  · simp [Value.cells] at hcs
    obtain ⟨rfl, rfl, rfl⟩ := hcs
    have hml : len ≤ m := by rw [hz]; split <;> omega
    obtain ⟨rfl, _⟩ := Prod.mk.inj hx
    have each : ∀ i, i < len → ∃ s : List UInt8, V i = str s ∧ D i = .lit (.string s) := by
      intro i hil
      obtain ⟨_, h2⟩ := hi i (by omega)
      obtain ⟨s, h, hx, hs⟩ := DataW.trod_string Tryd.underlying9 h2
      simp only [List.cons.injEq, and_true] at h
      simp only [Prod.mk.injEq] at hx
      exact ⟨s.data.toList, by rw [h], hx.1⟩
    obtain ⟨f, hfm⟩ := Go.Deep.choose_lt each
    have gd : ∀ i, i < len → ((List.range len).map f).getD i [] = f i := fun i hil => by simp [List.getD, List.getElem?_range hil]
    have hD : (List.range len).map D = ((List.range len).map f).map fun s => (DataW.lit (.string s) : DataW H) := by
      rw [List.map_map]
      apply List.map_congr_left
      intro i hi'
      exact (hfm i (List.mem_range.1 hi')).2
    refine ⟨(List.range len).map f, ?_, ?_⟩
    · rcases Nat.eq_zero_or_pos len with h0 | h0
      · subst h0; exact .inl ⟨rfl, _, _, rfl, fun h => by cases h⟩
      · obtain ⟨b, off, spot⟩ := x
        have hspot : spot = none := by
          simpa [Addr.add] using World.cell?_spot (hi 0 (by omega)).1
        subst hspot
        have hc : ∀ i, i < len → W.cell? ⟨b, off + i, none⟩ = some (str (f i)) := fun i hil => by
          have h1 := (hi i (by omega)).1
          rw [Go.WideShapes.add_plain] at h1
          rw [h1, (hfm i hil).1]
        refine .inr ⟨b, off, cap, by simp, by simpa using hl, block_lt_of_cell (hc 0 h0), fun i hil => ?_⟩
        have hil' : i < len := by simpa using hil
        rw [hc i hil']
        simp [List.getD, hil']
    · rw [← bulk_strs (H := H), ← hD]
      have : Rows.uptoBulkAll ((List.range len).map D) + 1 ≤ Rows.uptoBulk (.slice ((List.range len).map D) ((List.range (m - len)).map fun j => D (len + j)) : DataW H) := by rw [Rows.uptoBulk]; omega
      omega
end Go.Proofs.YtdcnlgjngfmbcaaDoor
