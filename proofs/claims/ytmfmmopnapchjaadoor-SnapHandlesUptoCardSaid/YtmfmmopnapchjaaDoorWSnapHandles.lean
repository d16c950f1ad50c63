/- SnapHandles (its walk is in Yl): slices of numbers that came in, where what is read is of small bulk. -/
import Derived.Test.YtmfmmopnapchjaaDoorRows
import Derived.Test.YtmfmmopnapchjaaDoorRI
import Derived.Test.YtmfmmopnapchjaaDoorYl
namespace Go.Proofs.YtmfmmopnapchjaaDoor
open Go Go.RowKit Go.ChangeShapes Go.WideShapes
set_option linter.unusedVariables false
set_option maxRecDepth 100000

theorem bulk_pos {H : Type} (d : DataW H) : 1 ≤ Rows.uptoBulk d := by
  cases d with
  | lit l => cases l <;> simp [Rows.uptoBulk]
  | _ => simp [Rows.uptoBulk]
theorem bulk_mem {H : Type} {d : DataW H} {l : List (DataW H)} (h : d ∈ l) : Rows.uptoBulk d ≤ Rows.uptoBulkAll l := by
  induction l with
  | nil => cases h
  | cons x r ih =>
    rw [Rows.uptoBulkAll]
    rcases List.mem_cons.1 h with rfl | e
    · omega
    · have := ih e; omega
theorem bulk_small {H : Type} {l : List (DataW H)} (h : Rows.uptoSmall H l = true) {d : DataW H} (hd : d ∈ l) : Rows.uptoBulk d ≤ 1048576 := by
  have h1 : Rows.uptoBulkAll l ≤ 1048576 := by simpa [Rows.uptoSmall] using h
  have := bulk_mem hd
  omega
theorem bulk_len {H : Type} (l : List (DataW H)) : l.length ≤ Rows.uptoBulkAll l := by
  induction l with
  | nil => simp
  | cons x r ih => have := bulk_pos x; rw [Rows.uptoBulkAll, List.length_cons]; omega
theorem ints_small {H : Type} {enc : TypeId × Value → H} {P : Program} {W : World} {base : Nat} {sp : Nat → Bool} {held : Bool} {t e : TypeId} {a : Option Addr} {len cap : Nat} {d : DataW H} {p : List MemPlace} {l : List Int}
    (ht : P.underlying t = some (.slice e)) (he : P.underlying e = some (.int .i64)) (hc : P.cellsOf e = 1) (h : DataW.Trod enc P W base sp held t (.slice a len cap) d p) (hb : Rows.uptoBulk d ≤ 1048576) (hl' : RI W (.slice a len cap) l) : l.length ≤ 1048576 := by
  have hlen : l.length = len := by
    rcases hl' with ⟨rfl, _, _, e, _⟩ | ⟨_, _, _, e, _⟩ <;> injection e with _ e2 <;> simp [e2]
  rw [hlen]
  obtain ⟨fuel, hf⟩ := h
  rcases open_ints ht he hc hf with ⟨hcs, _⟩ | ⟨x, l, c, zs, hcs, _, hl, hm, hz, hx, hcell, hwz⟩
  · simp [Value.cells] at hcs
    obtain ⟨rfl, rfl, rfl⟩ := hcs
    simp
  · simp [Value.cells] at hcs
    obtain ⟨rfl, rfl, rfl⟩ := hcs
    obtain ⟨hx, _⟩ := Prod.mk.inj hx
    subst hx
    rw [Rows.uptoBulk] at hb
    have h1 := bulk_len (lits (H := H) .i64 (zs.take len))
    have hl2 : len ≤ zs.length := by rw [hz]; split <;> omega
    have h2 : (lits (H := H) .i64 (zs.take len)).length = len := by simp [lits]; omega
    omega
end Go.Proofs.YtmfmmopnapchjaaDoor
