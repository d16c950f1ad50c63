/- Slices of slices of strings that came in, where what is read is of small bulk; rows of several element types. -/
import Derived.Test.YtdcnlgjngfmbcaaDoorNu
namespace Go.Proofs.YtdcnlgjngfmbcaaDoor
open Go Go.RowKit Go.ChangeShapes Go.WideShapes
set_option linter.unusedVariables false
set_option maxRecDepth 100000

theorem strs_of_trod {H : Type} {enc : TypeId × Value → H} {W : World} {base : Nat} {sp : Nat → Bool} {held : Bool} {fuel : Nat} {v : Value} {x : DataW H × List MemPlace}
    (hf : DataW.trod enc Tryd.prog W base sp held fuel 34 [v] = some x) (hb : Rows.uptoBulk x.1 ≤ 1048576) : ∃ l : List (List UInt8), RS W v l ∧ sumB l ≤ 1048576 := by
  have hv : ∃ a len cap, v = .slice a len cap := by
    rcases Go.Deep.open_slice1 Tryd.underlying34 (by kernel_rfl) hf with ⟨hcs, _⟩ | ⟨y, len', c, m, n, V, D, Pl, hcs, _⟩
    · simp at hcs; exact ⟨_, _, _, hcs⟩
    · simp at hcs; exact ⟨_, _, _, hcs⟩
  obtain ⟨a, len, cap, rfl⟩ := hv
  exact strs_of_arg (enc := enc) (base := base) (sp := sp) (held := held) (p := x.2) ⟨fuel, hf⟩ hb
/-- A slice of slices of strings. -/
def RW (W : World) (v : Value) (ls : List (List (List UInt8))) : Prop :=
  ∃ p c, v = .slice p ls.length c ∧ ∀ i, i < ls.length → ∃ b o u, p = some ⟨b, o, none⟩ ∧ b < W.heap.size ∧ W.cell? ⟨b, o + i, none⟩ = some u ∧ RS W u (ls.getD i [])
theorem bulk_len {H : Type} (l : List (DataW H)) : l.length ≤ Rows.uptoBulkAll l := by
  induction l with
  | nil => simp
  | cons x r ih => have := bulk_pos x; rw [Rows.uptoBulkAll, List.length_cons]; omega
/-- What an argument that is a slice of slices of strings holds, where its bulk is small. -/
theorem strrows_of_arg {H : Type} {enc : TypeId × Value → H} {W : World} {base : Nat} {sp : Nat → Bool} {held : Bool} {a : Option Addr} {len cap : Nat} {d : DataW H} {p : List MemPlace}
    (h : DataW.Trod enc Tryd.prog W base sp held 45 (.slice a len cap) d p) (hb : Rows.uptoBulk d ≤ 1048576) :
    ∃ ls : List (List (List UInt8)), RW W (.slice a len cap) ls ∧ ls.length ≤ 1048576 ∧ ∀ i, i < ls.length → sumB (ls.getD i []) ≤ 1048576 := by
  obtain ⟨fuel, hf⟩ := h
  rcases Go.Deep.open_slice1 Tryd.underlying45 (by kernel_rfl) hf with ⟨hcs, _⟩ | ⟨x, len', c, m, n, V, D, Pl, hcs, _, hl, hm, hz, hx, hi⟩
  · simp [Value.cells] at hcs
    obtain ⟨rfl, rfl, rfl⟩ := hcs
    exact ⟨[], ⟨none, 0, rfl, fun i hi => by simp at hi⟩, by simp, fun i hi => by simp at hi⟩
  · simp [Value.cells] at hcs
    obtain ⟨rfl, rfl, rfl⟩ := hcs
    have hml : len ≤ m := by rw [hz]; split <;> omega
    obtain ⟨rfl, _⟩ := Prod.mk.inj hx
    have hall : Rows.uptoBulkAll ((List.range len).map D) + 1 ≤ Rows.uptoBulk (.slice ((List.range len).map D) ((List.range (m - len)).map fun j => D (len + j)) : DataW H) := by rw [Rows.uptoBulk]; omega
    have hlen := bulk_len ((List.range len).map D)
    simp only [List.length_map, List.length_range] at hlen
    have each : ∀ i, i < len → ∃ l : List (List UInt8), RS W (V i) l ∧ sumB l ≤ 1048576 := by
      intro i hil
      obtain ⟨_, h2⟩ := hi i (by omega)
      have := bulk_mem (List.mem_map.2 ⟨i, List.mem_range.2 hil, rfl⟩ : D i ∈ (List.range len).map D)
      exact strs_of_trod h2 (by simp; omega)
    obtain ⟨f, hfm⟩ := Go.Deep.choose_lt each
    have gd : ∀ i, i < len → ((List.range len).map f).getD i [] = f i := fun i hil => by simp [List.getD, List.getElem?_range hil]
    refine ⟨(List.range len).map f, ⟨some x, cap, by simp, fun i hil => ?_⟩, by simp; omega, fun i hil => ?_⟩
    · have hil' : i < len := by simpa using hil
      obtain ⟨b, off, spot⟩ := x
      have hspot : spot = none := by
        simpa [Addr.add] using World.cell?_spot (hi 0 (by omega)).1
      subst hspot
      have hc := (hi i (by omega)).1
      rw [Go.WideShapes.add_plain] at hc
      exact ⟨b, off, V i, rfl, block_lt_of_cell hc, hc, by rw [gd i hil']; exact (hfm i hil').1⟩
    · have hil' : i < len := by simpa using hil
      rw [gd i hil']
      exact (hfm i hil').2

/-- Rows of other element types lie in other blocks. -/
theorem own_apart {w : World} {B B' : Nat} {e e' : TypeId} {s s' : Nat} {v v' : Value} {n n' : Nat} {xs xs' : List Value} (h : w.ownsRow B e s v n xs) (h' : w.ownsRow B' e' s' v' n' xs') (hne : e ≠ e') : ∀ k, v.ownBlock = some k → v'.ownBlock ≠ some k := by
  intro k hk hk'
  rcases h.2 with ⟨rfl, _⟩ | ⟨g, cap, cur, rfl, _, hh, _⟩
  · simp [Value.ownBlock] at hk
  · rcases h'.2 with ⟨rfl, _⟩ | ⟨g', cap', cur', rfl, _, hh', _⟩
    · simp [Value.ownBlock] at hk'
    · simp [Value.ownBlock] at hk hk'
      subst hk hk'
      rw [hh] at hh'
      simp at hh'
      exact hne hh'.2
theorem own_move {w w' : World} {B : Nat} {e : TypeId} {s : Nat} {v : Value} {n : Nat} {xs : List Value} (h : w.ownsRow B e s v n xs) (hb : ∀ k, v.ownBlock = some k → w'.heap[k]? = w.heap[k]?) : w'.ownsRow B e s v n xs := by
  obtain ⟨h1, h2⟩ := h
  refine ⟨h1, ?_⟩
  rcases h2 with h | ⟨g, cap, cur, rfl, hg, hh, r⟩
  · exact .inl h
  · exact .inr ⟨g, cap, cur, rfl, hg, (hb g rfl).trans hh, r⟩
/-- .. so an append to one leaves the others. -/
theorem own_grew {w w' : World} {B B' : Nat} {e e' : TypeId} {s s' : Nat} {v u u' : Value} {n n' : Nat} {xs xs' : List Value} (h : w.ownsRow B e s v n xs) (h' : w.ownsRow B' e' s' u n' xs') (hne : e ≠ e') (g : Grew w w' u u') : w'.ownsRow B e s v n xs :=
  own_move h fun k hk => g.block k (own_lt1 h k hk) (own_apart h h' hne k hk)
theorem own_grown {w w' : World} {B B' : Nat} {e e' : TypeId} {s s' : Nat} {v u : Value} {n n' : Nat} {xs xs' : List Value} (h : w.ownsRow B e s v n xs) (h' : w.ownsRow B' e' s' u n' xs') (hne : e ≠ e') (g : w.grownBy w' u.ownBlock) : w'.ownsRow B e s v n xs :=
  own_move h fun k hk => g.block k (own_lt1 h k hk) (fun e => own_apart h h' hne k hk e.symm)
end Go.Proofs.YtdcnlgjngfmbcaaDoor
