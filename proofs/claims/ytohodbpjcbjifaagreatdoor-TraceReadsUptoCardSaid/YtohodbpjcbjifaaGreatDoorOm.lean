/- Marks that came in: an argument that is a slice of marks; a mark by value. -/
import Derived.Test.YtohodbpjcbjifaaGreatDoorMk
import Derived.Deep.Slices
import Derived.Deep.Fields
import Derived.OpenShut
import Derived.SizedLaws
namespace Go.Proofs.YtohodbpjcbjifaaGreatDoor
open Go Go.RowKit Go.ChangeShapes Go.WideShapes
set_option linter.unusedVariables false
set_option maxRecDepth 100000

def isI64 (x : Int) : Prop := -9223372036854775808 ≤ x ∧ x ≤ 9223372036854775807
/-- A mark whose numbers are such. -/
structure Mk.wf (m : Mk) : Prop where
  t : isI64 m.t
  k : isI64 m.k
  h : isI64 m.h
  j : isI64 m.j
  n : isI64 m.n

theorem wf_i64 {x : Int} (h : (Lit.int .i64 x).wf = true) : isI64 x := by
  unfold isI64
  simpa [Lit.wf, IntKind.min, IntKind.max, IntKind.bits, IntKind.signed] using h

/-- The five cells of a struct of five numbers. -/
theorem five_of_trod {H : Type} {enc : TypeId × Value → H} {W : World} {base : Nat} {sp : Nat → Bool} {held : Bool} {fuel : Nat} {cs : List Value} {x : DataW H × List MemPlace} (h : DataW.trod enc Tryz.prog W base sp held fuel 24 cs = some x) :
    ∃ m : Mk, cs = m.cells ∧ m.wf ∧ x = (.agg [.lit (.int .i64 m.t), .lit (.int .i64 m.k), .lit (.int .i64 m.h), .lit (.int .i64 m.j), .lit (.int .i64 m.n)], []) := by
  have hu : Tryz.prog.underlying 24 = some (.struct (Tryz.prog.fieldsOf 24)) := rfl
  obtain ⟨ys, n, rfl, hx, hl, hyl, hf⟩ := DataW.trod_struct hu h
  have hl5 : cs.length = 5 := hl
  have hy5 : ys.length = 5 := hyl
  obtain ⟨c0, c1, c2, c3, c4, rfl⟩ : ∃ a b c d e, cs = [a, b, c, d, e] := by
    rcases cs with _ | ⟨a, _ | ⟨b, _ | ⟨c, _ | ⟨d, _ | ⟨e, _ | ⟨f, r⟩⟩⟩⟩⟩⟩ <;> simp at hl5
    exact ⟨a, b, c, d, e, rfl⟩
  obtain ⟨y0, y1, y2, y3, y4, rfl⟩ : ∃ a b c d e, ys = [a, b, c, d, e] := by
    rcases ys with _ | ⟨a, _ | ⟨b, _ | ⟨c, _ | ⟨d, _ | ⟨e, _ | ⟨f, r⟩⟩⟩⟩⟩⟩ <;> simp at hy5
    exact ⟨a, b, c, d, e, rfl⟩
  have g0 : DataW.trod enc Tryz.prog W base sp held n 3 [c0] = some y0 := hf 0 _ rfl
  have g1 : DataW.trod enc Tryz.prog W base sp held n 3 [c1] = some y1 := hf 1 _ rfl
  have g2 : DataW.trod enc Tryz.prog W base sp held n 22 [c2] = some y2 := hf 2 _ rfl
  have g3 : DataW.trod enc Tryz.prog W base sp held n 22 [c3] = some y3 := hf 3 _ rfl
  have g4 : DataW.trod enc Tryz.prog W base sp held n 3 [c4] = some y4 := hf 4 _ rfl
  obtain ⟨z0, e0, rfl, w0⟩ := DataW.trod_int Tryz.underlying3 g0
  obtain ⟨z1, e1, rfl, w1⟩ := DataW.trod_int Tryz.underlying3 g1
  obtain ⟨z2, e2, rfl, w2⟩ := DataW.trod_int Tryz.underlying22 g2
  obtain ⟨z3, e3, rfl, w3⟩ := DataW.trod_int Tryz.underlying22 g3
  obtain ⟨z4, e4, rfl, w4⟩ := DataW.trod_int Tryz.underlying3 g4
  simp only [List.cons.injEq, and_true] at e0 e1 e2 e3 e4
  subst e0 e1 e2 e3 e4
  exact ⟨⟨z0, z1, z2, z3, z4⟩, rfl, ⟨wf_i64 w0, wf_i64 w1, wf_i64 w2, wf_i64 w3, wf_i64 w4⟩, hx⟩

theorem at5_of_cells {W : World} {base b off : Nat} {s : Option Nat} {m : Mk} (h : W.cells? base ⟨b, off, none⟩ 5 = some m.cells) : At5 W b off m := by
  obtain ⟨_, _, hc⟩ := World.cells?_some h
  have one : ∀ i v, i < 5 → m.cells[i]? = some v → W.cell? ⟨b, off + i, none⟩ = some v := by
    intro i v hi hv
    rw [← hv, ← hc i hi, Go.WideShapes.add_plain]
  exact ⟨one 0 _ (by decide) rfl, one 1 _ (by decide) rfl, one 2 _ (by decide) rfl, one 3 _ (by decide) rfl, one 4 _ (by decide) rfl⟩

/-- What an argument that is a slice of marks holds. -/
theorem marks_of_arg {H : Type} {enc : TypeId × Value → H} {W : World} {base : Nat} {sp : Nat → Bool} {held : Bool} {a : Option Addr} {len cap : Nat} {d : DataW H} {p : List MemPlace} {ts : List TypeId} {ds : List (DataW H)} {j : Nat}
    (hsz : (DataW.weightsEach Tryz.prog ts ds).all (· ≤ reachBytes) = true) (ht' : ts[j]? = some 53) (hd : ds[j]? = some d)
    (h : DataW.Trod enc Tryz.prog W base sp held 53 (.slice a len cap) d p) :
    ∃ l : List Mk, RM W (.slice a len cap) l ∧ (∀ m ∈ l, m.wf) ∧ l.length * 40 ≤ 140737488351232 := by
  obtain ⟨fuel, hf⟩ := h
  rcases Go.Deep.open_slice Tryz.underlying53 hf with ⟨hcs, _⟩ | ⟨x, len', c, m, n, D, Pl, hcs, _, hl, hm, hz, hx, hi⟩
  · simp [Value.cells] at hcs
    obtain ⟨rfl, rfl, rfl⟩ := hcs
    exact ⟨[], RM_nil W, (by intro x hx; cases hx), by simp⟩
  · simp [Value.cells] at hcs
    obtain ⟨rfl, rfl, rfl⟩ := hcs
    have hml : len ≤ m := by rw [hz]; split <;> omega
    have h5 : Tryz.prog.cellsOf 24 = 5 := by kernel_rfl
    rw [h5] at hi
    have each : ∀ i, i < len → ∃ mk : Mk, mk.wf ∧ W.cells? base (x.add (i * 5)) 5 = some mk.cells := by
      intro i hil
      obtain ⟨cs', h1, h2⟩ := hi i (by omega)
      obtain ⟨mk, rfl, hw, _⟩ := five_of_trod h2
      exact ⟨mk, hw, h1⟩
    obtain ⟨f, hfm⟩ := Go.Deep.choose_lt each
    have hsize : len * 40 ≤ 140737488351232 := by
      obtain ⟨hx, _⟩ := Prod.mk.inj hx
      subst hx
      have z := sized_slice hsz ht' hd Tryz.underlying53
      have hb : Tryz.prog.bytesOf 24 = 40 := by kernel_rfl
      rw [hb] at z
      simp only [List.length_map, List.length_range] at z
      have e3 : reachBytes = 140737488351232 := rfl
      omega
    refine ⟨(List.range len).map f, ?_, ?_, by simpa using hsize⟩
    · rcases Nat.eq_zero_or_pos len with h0 | h0
      · subst h0
        exact .inl ⟨rfl, _, _, rfl, fun h => by cases h⟩
      · obtain ⟨b, off, spot⟩ := x
        have hspot : spot = none := by
          obtain ⟨_, _, hc⟩ := World.cells?_some (hfm 0 h0).2
          have := hc 0 (by decide)
          simp [Addr.add, Mk.cells] at this
          simpa using World.cell?_spot this
        subst hspot
        have at5 : ∀ i, i < len → At5 W b (off + i * 5) (f i) := by
          intro i hil
          have := (hfm i hil).2
          rw [Go.WideShapes.add_plain] at this
          exact at5_of_cells (s := none) this
        refine .inr ⟨b, off, cap, by simp, by simpa using hl, block_lt_of_cell (at5 0 h0).c0, fun i hil => ?_⟩
        have hil' : i < len := by simpa using hil
        have e : ((List.range len).map f).getD i default = f i := by simp [List.getD, List.getElem?_range hil']
        rw [e]
        exact at5 i hil'
    · intro mk hmk
      obtain ⟨i, hi', rfl⟩ := List.mem_map.1 hmk
      exact (hfm i (List.mem_range.1 hi')).1
end Go.Proofs.YtohodbpjcbjifaaGreatDoor
