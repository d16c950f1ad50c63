/- Trees that came in, where what is read is of small bulk. -/
import Derived.Test.YtophilmjfdhhaaaGreatDoorRows
import Derived.Test.YtophilmjfdhhaaaGreatDoorId
import Derived.Deep.Slices
import Derived.ChangeMaps5
namespace Go.Proofs.YtophilmjfdhhaaaGreatDoor
open Go Go.RowKit Go.ChangeShapes Go.WideShapes
set_option linter.unusedVariables false
set_option linter.unusedSimpArgs false
set_option maxRecDepth 100000

theorem bulk_pos {H : Type} (d : DataW H) : 1 ≤ Rows.uptoBulk d := by
  cases d with
  | lit l => cases l <;> simp [Rows.uptoBulk]
  | _ => simp [Rows.uptoBulk]
theorem bulk_mem {H : Type} {d : DataW H} {l : List (DataW H)} (h : d ∈ l) : Rows.uptoBulk d ≤ Rows.uptoBulkAll l := by
  induction l with
  | nil => cases h
  | cons x r ih =>
    rw [Rows.uptoBulkAll]
    rcases List.mem_cons.1 h with rfl | e
    · omega
    · have := ih e; omega
theorem bulk_small {H : Type} {l : List (DataW H)} (h : Rows.uptoSmall H l = true) {d : DataW H} (hd : d ∈ l) : Rows.uptoBulk d ≤ 1048576 := by
  have h1 : Rows.uptoBulkAll l ≤ 1048576 := by simpa [Rows.uptoSmall] using h
  have := bulk_mem hd
  omega
theorem bulk_len {H : Type} (l : List (DataW H)) : l.length ≤ Rows.uptoBulkAll l := by
  induction l with
  | nil => simp
  | cons x r ih => have := bulk_pos x; rw [Rows.uptoBulkAll, List.length_cons]; omega
theorem ints_of_trod {H : Type} {enc : TypeId × Value → H} {W : World} {base : Nat} {sp : Nat → Bool} {held : Bool} {fuel : Nat} {v : Value} {x : DataW H × List MemPlace}
    (hf : DataW.trod enc Tryz.prog W base sp held fuel 23 [v] = some x) (hb : Rows.uptoBulk x.1 ≤ 1048576) : ∃ l : List Int, RI W v l ∧ l.length ≤ 1048576 := by
  rcases Go.Deep.open_slice1 Tryz.underlying23 (by kernel_rfl) hf with ⟨hcs, _⟩ | ⟨y, len, c, m, n, V, D, Pl, hcs, _, _, _, _, hx, _⟩
  · simp at hcs
    subst hcs
    exact ⟨[], RI_nil W, by simp⟩
  · simp at hcs
    subst hcs
    obtain ⟨l, hl, _⟩ := ints_of_arg (P := Tryz.prog) (enc := enc) (W := W) (base := base) (sp := sp) (held := held) (p := x.2) (d := x.1) Tryz.underlying23 Tryz.underlying3 (by kernel_rfl) ⟨fuel, hf⟩
    refine ⟨l, hl, ?_⟩
    have hlen : l.length = len := by
      rcases hl with ⟨rfl, _, _, e, _⟩ | ⟨_, _, _, e, _⟩ <;> injection e with _ e2 <;> simp [e2]
    rw [hx] at hb
    have hall : Rows.uptoBulkAll ((List.range len).map D) + 1 ≤ Rows.uptoBulk (.slice ((List.range len).map D) ((List.range (m - len)).map fun j => D (len + j)) : DataW H) := by rw [Rows.uptoBulk]; omega
    have h2 := bulk_len ((List.range len).map D)
    simp only [List.length_map, List.length_range] at h2
    simp only at hb
    omega
theorem two_of_trod {H : Type} {enc : TypeId × Value → H} {W : World} {base : Nat} {sp : Nat → Bool} {held : Bool} {fuel : Nat} {cs : List Value} {x : DataW H × List MemPlace} (h : DataW.trod enc Tryz.prog W base sp held fuel 43 cs = some x) : ∃ q p : Int, cs = [.int .i64 q, .int .i64 p] := by
  have hu : Tryz.prog.underlying 43 = some (.struct (Tryz.prog.fieldsOf 43)) := rfl
  obtain ⟨ys, n, rfl, hx, hl, hyl, hf⟩ := DataW.trod_struct hu h
  have hl5 : cs.length = 2 := hl
  have hy5 : ys.length = 2 := hyl
  obtain ⟨c0, c1, rfl⟩ : ∃ a b, cs = [a, b] := by
    rcases cs with _ | ⟨a, _ | ⟨b, _ | ⟨c, r⟩⟩⟩ <;> simp at hl5
    exact ⟨a, b, rfl⟩
  obtain ⟨y0, y1, rfl⟩ : ∃ a b, ys = [a, b] := by
    rcases ys with _ | ⟨a, _ | ⟨b, _ | ⟨c, r⟩⟩⟩ <;> simp at hy5
    exact ⟨a, b, rfl⟩
  have g0 : DataW.trod enc Tryz.prog W base sp held n 3 [c0] = some y0 := hf 0 _ rfl
  have g1 : DataW.trod enc Tryz.prog W base sp held n 3 [c1] = some y1 := hf 1 _ rfl
  obtain ⟨z0, e0, rfl, w0⟩ := DataW.trod_int Tryz.underlying3 g0
  obtain ⟨z1, e1, rfl, w1⟩ := DataW.trod_int Tryz.underlying3 g1
  simp only [List.cons.injEq, and_true] at e0 e1
  subst e0 e1
  exact ⟨z0, z1, rfl⟩
theorem item_of_trod {H : Type} {enc : TypeId × Value → H} {W : World} {base : Nat} {sp : Nat → Bool} {held : Bool} {fuel : Nat} {cs : List Value} {x : DataW H × List MemPlace} (h : DataW.trod enc Tryz.prog W base sp held fuel 73 cs = some x) (hb : Rows.uptoBulk x.1 ≤ 1048576) :
    ∃ (y : It) (u : Value), cs = [str y.nm, .int .i64 y.par, .int .i64 y.q, .int .i64 y.p, u] ∧ RI W u y.pr ∧ y.nm.length ≤ 1048576 ∧ y.pr.length ≤ 1048576 := by
  have hu : Tryz.prog.underlying 73 = some (.struct (Tryz.prog.fieldsOf 73)) := rfl
  obtain ⟨ys, n, rfl, hx, hl, hyl, hf⟩ := DataW.trod_struct hu h
  have hl5 : cs.length = 5 := hl
  have hy5 : ys.length = 4 := hyl
  obtain ⟨c0, c1, c2, c3, c4, rfl⟩ : ∃ a b c d e, cs = [a, b, c, d, e] := by
    rcases cs with _ | ⟨a, _ | ⟨b, _ | ⟨c, _ | ⟨d, _ | ⟨e, _ | ⟨f, r⟩⟩⟩⟩⟩⟩ <;> simp at hl5
    exact ⟨a, b, c, d, e, rfl⟩
  obtain ⟨y0, y1, y2, y3, rfl⟩ : ∃ a b c d, ys = [a, b, c, d] := by
    rcases ys with _ | ⟨a, _ | ⟨b, _ | ⟨c, _ | ⟨d, _ | ⟨e, r⟩⟩⟩⟩⟩ <;> simp at hy5
    exact ⟨a, b, c, d, rfl⟩
  have g0 : DataW.trod enc Tryz.prog W base sp held n 9 [c0] = some y0 := hf 0 _ rfl
  have g1 : DataW.trod enc Tryz.prog W base sp held n 3 [c1] = some y1 := hf 1 _ rfl
  have g2 : DataW.trod enc Tryz.prog W base sp held n 43 [c2, c3] = some y2 := hf 2 _ rfl
  have g3 : DataW.trod enc Tryz.prog W base sp held n 23 [c4] = some y3 := hf 3 _ rfl
  subst hx
  have b0 : Rows.uptoBulk y0.1 ≤ 1048576 ∧ Rows.uptoBulk y3.1 ≤ 1048576 := by
    simp [Rows.uptoBulk, Rows.uptoBulkAll] at hb
    omega
  obtain ⟨s, e0, hx0, _⟩ := DataW.trod_string Tryz.underlying9 g0
  obtain ⟨z1, e1, _, _⟩ := DataW.trod_int Tryz.underlying3 g1
  obtain ⟨q, p, e2⟩ := two_of_trod g2
  obtain ⟨pr, hpr, hpl⟩ := ints_of_trod g3 b0.2
  simp only [List.cons.injEq, and_true] at e0 e1 e2
  obtain ⟨rfl, rfl⟩ := e2
  subst e0 e1
  refine ⟨⟨s.data.toList, z1, q, p, pr⟩, c4, rfl, hpr, ?_, hpl⟩
  have := b0.1
  rw [hx0] at this
  simp [Rows.uptoBulk] at this ⊢
  omega
theorem itAt_of_cells {W : World} {base b off : Nat} {y : It} {u : Value} (h : W.cells? base ⟨b, off, none⟩ 5 = some [str y.nm, .int .i64 y.par, .int .i64 y.q, .int .i64 y.p, u]) (hr : RI W u y.pr) : ItAt W b off y := by
  obtain ⟨_, _, hc⟩ := World.cells?_some h
  have one : ∀ i v, i < 5 → [str y.nm, Value.int .i64 y.par, .int .i64 y.q, .int .i64 y.p, u][i]? = some v → W.cell? ⟨b, off + i, none⟩ = some v := by
    intro i v hi hv
    rw [← hv, ← hc i hi, Go.WideShapes.add_plain]
  exact ⟨one 0 _ (by decide) rfl, one 1 _ (by decide) rfl, one 2 _ (by decide) rfl, one 3 _ (by decide) rfl, u, one 4 _ (by decide) rfl, hr⟩
theorem items_of_trod {H : Type} {enc : TypeId × Value → H} {W : World} {base : Nat} {sp : Nat → Bool} {held : Bool} {fuel : Nat} {v : Value} {x : DataW H × List MemPlace}
    (hf : DataW.trod enc Tryz.prog W base sp held fuel 30 [v] = some x) (hb : Rows.uptoBulk x.1 ≤ 1048576) : ∃ l : List It, RT W v l ∧ l.length ≤ 1048576 ∧ ∀ y ∈ l, y.nm.length ≤ 1048576 ∧ y.pr.length ≤ 1048576 := by
  rcases Go.Deep.open_slice Tryz.underlying30 hf with ⟨hcs, _⟩ | ⟨a, len, c, m, n, D, Pl, hcs, _, hl, hm, hz, hx, hi⟩
  · simp at hcs
    subst hcs
    exact ⟨[], RT_nil W, by simp, by simp⟩
  · simp at hcs
    subst hcs
    have hml : len ≤ m := by rw [hz]; split <;> omega
    have h5 : Tryz.prog.cellsOf 73 = 5 := by kernel_rfl
    rw [h5] at hi
    subst hx
    have hall : Rows.uptoBulkAll ((List.range len).map D) + 1 ≤ 1048576 := by simp only [Rows.uptoBulk] at hb; omega
    have h2 := bulk_len ((List.range len).map D)
    simp only [List.length_map, List.length_range] at h2
    have each : ∀ i, i < len → ∃ y : It, (∃ u, W.cells? base (a.add (i * 5)) 5 = some [str y.nm, .int .i64 y.par, .int .i64 y.q, .int .i64 y.p, u] ∧ RI W u y.pr) ∧ y.nm.length ≤ 1048576 ∧ y.pr.length ≤ 1048576 := by
      intro i hil
      obtain ⟨cs', h1, h2⟩ := hi i (by omega)
      have hbi := bulk_mem (List.mem_map.2 ⟨i, List.mem_range.2 hil, rfl⟩ : D i ∈ (List.range len).map D)
      obtain ⟨y, u, rfl, g1, g2, g3⟩ := item_of_trod h2 (by simp only; omega)
      exact ⟨y, ⟨u, h1, g1⟩, g2, g3⟩
    obtain ⟨f, hfm⟩ := Go.Deep.choose_lt each
    have gd : ∀ i, i < len → ((List.range len).map f).getD i default = f i := fun i hil => by simp [List.getD, List.getElem?_range hil]
    refine ⟨(List.range len).map f, ⟨some a, c, by simp, by simpa using hl, hm, fun i hil => ?_⟩, by simp; omega, ?_⟩
    · have hil' : i < len := by simpa using hil
      obtain ⟨b, off, spot⟩ := a
      have hspot : spot = none := by
        obtain ⟨u, hc0, _⟩ := (hfm 0 (by omega)).1
        obtain ⟨_, _, hc⟩ := World.cells?_some hc0
        have := hc 0 (by decide)
        simp [Addr.add] at this
        simpa using World.cell?_spot this
      subst hspot
      obtain ⟨u, hc0, hru⟩ := (hfm i hil').1
      rw [Go.WideShapes.add_plain] at hc0
      have ha := itAt_of_cells hc0 hru
      exact ⟨b, off, rfl, block_lt_of_cell ha.c0, by rw [gd i hil']; exact ha⟩
    · intro y hy
      obtain ⟨i, hi', rfl⟩ := List.mem_map.1 hy
      exact (hfm i (List.mem_range.1 hi')).2
/-- What an argument that is a tree holds, where its bulk is small. -/
theorem tree_of_arg {H : Type} {enc : TypeId × Value → H} {W : World} {base : Nat} {sp : Nat → Bool} {held : Bool} {cs : Array Value} {d : DataW H} {p : List MemPlace}
    (h : DataW.Trod enc Tryz.prog W base sp held 32 (.agg cs) d p) (hb : Rows.uptoBulk d ≤ 1048576) :
    ∃ (t : Tr) (v1 v2 : Value), cs = #[v1, v2] ∧ RT W v1 t.items ∧ RI W v2 t.slack ∧ t.items.length ≤ 1048576 ∧ t.slack.length ≤ 1048576 ∧ ∀ y ∈ t.items, y.nm.length ≤ 1048576 ∧ y.pr.length ≤ 1048576 := by
  obtain ⟨fuel, hf⟩ := h
  have hu : Tryz.prog.underlying 32 = some (.struct (Tryz.prog.fieldsOf 32)) := rfl
  obtain ⟨ys, n, rfl, hx, hl, hyl, hf⟩ := DataW.trod_struct hu hf
  have hl2 : cs.size = 2 := hl
  have hy2 : ys.length = 2 := hyl
  obtain ⟨c0, c1, rfl⟩ : ∃ a b, cs = #[a, b] := by
    obtain ⟨l⟩ := cs
    rcases l with _ | ⟨a, _ | ⟨b, _ | ⟨c, r⟩⟩⟩ <;> simp at hl2
    exact ⟨a, b, rfl⟩
  obtain ⟨y0, y1, rfl⟩ : ∃ a b, ys = [a, b] := by
    rcases ys with _ | ⟨a, _ | ⟨b, _ | ⟨c, r⟩⟩⟩ <;> simp at hy2
    exact ⟨a, b, rfl⟩
  have g0 : DataW.trod enc Tryz.prog W base sp held n 30 [c0] = some y0 := hf 0 _ rfl
  have g1 : DataW.trod enc Tryz.prog W base sp held n 23 [c1] = some y1 := hf 1 _ rfl
  obtain ⟨rfl, _⟩ := Prod.mk.inj hx
  have hbb : Rows.uptoBulk y0.1 ≤ 1048576 ∧ Rows.uptoBulk y1.1 ≤ 1048576 := by
    simp [Rows.uptoBulk, Rows.uptoBulkAll] at hb
    omega
  obtain ⟨l, k1, k2, k3⟩ := items_of_trod g0 hbb.1
  obtain ⟨s, k4, k5⟩ := ints_of_trod g1 hbb.2
  exact ⟨⟨l, s⟩, c0, c1, rfl, k1, k4, k2, k5, k3⟩
end Go.Proofs.YtophilmjfdhhaaaGreatDoor
