/- Queues of marks: List. -/
import Derived.Test.YtmfmmopnapchjaaDoorQb
import Derived.Test.YtmfmmopnapchjaaDoorQt
import Derived.Deep.QuietTactic
import Derived.Deep.RegionHeld3
import Derived.Deep.RegionLaw
import Derived.Laws.AppendOwn
namespace Go.Proofs.YtmfmmopnapchjaaDoor
open Go Go.RowKit Go.ChangeShapes Go.WideShapes
set_option linter.unusedVariables false
set_option maxRecDepth 100000
set_option maxHeartbeats 800000

/-- The cells of marks, one behind the other. -/
def flat (l : List Mk) : List Value := l.flatMap Mk.cells
theorem flat_nil : flat [] = [] := rfl
theorem flat_snoc (l : List Mk) (m : Mk) : flat (l ++ [m]) = flat l ++ m.cells := by simp [flat]
theorem flat_length (l : List Mk) : (flat l).length = l.length * 5 := by
  induction l with
  | nil => rfl
  | cons a l ih => simp only [flat, List.flatMap_cons, List.length_append, List.length_cons] at *; rw [ih]; simp [Mk.cells]; omega
theorem flat_get (l : List Mk) (i c : Nat) (hi : i < l.length) (hc : c < 5) : (flat l)[i * 5 + c]? = (l.getD i default).cells[c]? := by
  induction l generalizing i with
  | nil => simp at hi
  | cons a l ih =>
    have e : flat (a :: l) = a.cells ++ flat l := rfl
    cases i with
    | zero =>
      rw [e, List.getElem?_append_left (by simp [Mk.cells]; omega)]
      simp
    | succ i =>
      rw [e, List.getElem?_append_right (by simp [Mk.cells]; omega)]
      have : (i + 1) * 5 + c - a.cells.length = i * 5 + c := by simp [Mk.cells]; omega
      rw [this, ih i (by simpa using hi)]
      simp
theorem cells_one (m : Mk) : ∀ u ∈ m.cells, u.oneCell' = true := by
  intro u hu
  simp [Mk.cells] at hu
  rcases hu with rfl | rfl | rfl | rfl | rfl <;> rfl

/-- A row of the call's own reads as the marks that it holds. -/
theorem RM_own {w : World} {B : Nat} {e : TypeId} {v : Value} {n : Nat} {l : List Mk} (h : w.ownsRow B e 5 v n (flat l)) : RM w v l ∧ l.length = n := by
  obtain ⟨hl, h⟩ := h
  rw [flat_length] at hl
  have hl' : l.length = n := by omega
  refine ⟨?_, hl'⟩
  rcases h with ⟨rfl, rfl⟩ | ⟨g, cap, cur, rfl, hg, hh, hn, hc, hs, ht⟩
  · obtain rfl : l = [] := List.eq_nil_of_length_eq_zero hl'
    exact RM_nil w
  · refine .inr ⟨g, 0, cap, by rw [hl'], by omega, ?_, fun i hi => ?_⟩
    · rcases Nat.lt_or_ge g w.heap.size with h | h
      · exact h
      · rw [Array.getElem?_eq_none h] at hh; cases hh
    · have one : ∀ c v, c < 5 → (l.getD i default).cells[c]? = some v → w.cell? ⟨g, 0 + i * 5 + c, none⟩ = some v := by
        intro c v hc5 hv
        have e1 : cur.toList[i * 5 + c]? = (flat l)[i * 5 + c]? := by rw [← ht, List.getElem?_take, if_pos (by omega)]
        rw [flat_get l i c hi hc5, hv] at e1
        simp only [World.cell?, hh, Nat.zero_add]
        simpa using e1
      exact ⟨one 0 _ (by decide) rfl, one 1 _ (by decide) rfl, one 2 _ (by decide) rfl, one 3 _ (by decide) rfl, one 4 _ (by decide) rfl⟩

/-- 'append(s, m)' of a mark, onto a row of the call's own. -/
theorem append5 {ops : Array Oper} {rest : List Oper} {o : Oper} {a : Act} {Q : Exit → Act → World → Prop} {W w0 : World} (hgd : o.guard = none) (s x : Operand) (t : TypeId)
    (ho : o.op = .call { callee := .builtin .append, args := #[s, x], argTypes := #[t, t] })
    (base : Nat) (e : TypeId) (i : TypeInfo) (z : Value) (ht : Tryd.prog.underlying t = some (.slice e)) (hi : Tryd.prog.info? e = some i) (hz : i.zero = some z)
    (hsize : i.size = 5) (hby : i.bytes = 40) (hzs : z.cells.size = 5)
    (v : Value) (n : Nat) (l : List Mk) (hs : a.eval s = v) (hown : w0.ownsRow base e 5 v n (flat l))
    (c : Nat) (m : Mk) (hx : a.eval x = .slice (some ⟨w0.heap.size, 0, none⟩) 1 c)
    (h63 : n + 1 ≤ 3518437208883) (hbase : base ≤ w0.heap.size) (hb : Below base W w0)
    (h : ∀ v' w', w'.ownsRow base e 5 v' (n + 1) (flat (l ++ [m])) → Below base W w' → Ch (fun k => v.ownBlock = some k) w0 w' → wpList Tryd.prog ops Q rest (a.put o.dst v') w') :
    wpList Tryd.prog ops Q (o :: rest) a (w0.alloc (.cells #[.int .i64 m.t, .int .i64 m.k, .int .i64 m.h, .int .i64 m.j, .int .i64 m.n] e)) := by
  refine wpList_append_own _ hgd s x t ho base e i z 5 40 ht hi hz hsize hby hzs (by decide) v n (flat l) hs (hown.alloc _) ⟨w0.heap.size, 0, none⟩ 1 c m.cells hx rfl ?_ (cells_one m) (by unfold maxLen; omega) (by omega) (by simp; omega) ?_
  · intro j y hj
    have hp : (⟨w0.heap.size, 0, none⟩ : Addr).add j = ⟨w0.heap.size, j, none⟩ := by unfold Addr.add; split <;> simp_all
    rw [hp]
    exact cell_new w0 _ _ j y (by simpa [Mk.cells] using hj)
  · intro v' w' ho' hg' _
    refine h v' w' (by rw [flat_snoc]; exact ho') (below_own (hb.alloc hbase _) (by simp; omega) (hown.alloc _) hg') ?_
    exact ⟨hg'.os, hg'.tape, hg'.output, by have := hg'.size; simp at this; omega, fun k hk hS => (hg'.block k (by simp; omega) (fun e => hS e.symm)).trans (Below.heap_alloc _ _ _ hk)⟩

/-- .. met in a region that draws its order. -/
theorem step_append5 {ops : Array Oper} {o : Oper} {a : Act} {K : Act → World → Prop} {Q : Exit → Act → World → Prop} {E : Prop} {W w0 : World} (hgd : o.guard = none) (s x : Operand) (t : TypeId)
    (ho : o.op = .call { callee := .builtin .append, args := #[s, x], argTypes := #[t, t] })
    (base : Nat) (e : TypeId) (i : TypeInfo) (z : Value) (ht : Tryd.prog.underlying t = some (.slice e)) (hi : Tryd.prog.info? e = some i) (hz : i.zero = some z)
    (hsize : i.size = 5) (hby : i.bytes = 40) (hzs : z.cells.size = 5)
    (v : Value) (n : Nat) (l : List Mk) (hs : a.eval s = v) (hown : w0.ownsRow base e 5 v n (flat l))
    (c : Nat) (m : Mk) (hx : a.eval x = .slice (some ⟨w0.heap.size, 0, none⟩) 1 c)
    (h63 : n + 1 ≤ 3518437208883) (hbase : base ≤ w0.heap.size) (hb : Below base W w0)
    (h : ∀ v' w', w'.ownsRow base e 5 v' (n + 1) (flat (l ++ [m])) → Below base W w' → Ch (fun k => v.ownBlock = some k) w0 w' → K (a.put o.dst v') w') :
    if Region.wanted o (yielded ops a.tmps) = true then o.wp Tryd.prog a (w0.alloc (.cells #[.int .i64 m.t, .int .i64 m.k, .int .i64 m.h, .int .i64 m.j, .int .i64 m.n] e)) K Q else E := by
  have hw : Region.wanted o (yielded ops a.tmps) = true := by simp [Region.wanted, hgd]
  rw [if_pos hw]
  refine wp_append_own _ s x t ho base e i z 5 40 ht hi hz hsize hby hzs (by decide) v n (flat l) hs (hown.alloc _) ⟨w0.heap.size, 0, none⟩ 1 c m.cells hx rfl ?_ (cells_one m) (by unfold maxLen; omega) (by omega) (by simp; omega) ?_
  · intro j y hj
    have hp : (⟨w0.heap.size, 0, none⟩ : Addr).add j = ⟨w0.heap.size, j, none⟩ := by unfold Addr.add; split <;> simp_all
    rw [hp]
    exact cell_new w0 _ _ j y (by simpa [Mk.cells] using hj)
  · intro v' w' ho' hg' _
    refine h v' w' (by rw [flat_snoc]; exact ho') (below_own (hb.alloc hbase _) (by simp; omega) (hown.alloc _) hg') ?_
    exact ⟨hg'.os, hg'.tape, hg'.output, by have := hg'.size; simp at this; omega, fun k hk hS => (hg'.block k (by simp; omega) (fun e => hS e.symm)).trans (Below.heap_alloc _ _ _ hk)⟩

theorem RM.drewN {w : World} {v : Value} {l : List Mk} (h : RM w v l) (n : Nat) : RM (w.drewN n) v l := h.of_block (Nat.le_refl _) (fun _ _ => rfl)
theorem own_drewN {w : World} {B : Nat} {e : TypeId} {s : Nat} {v : Value} {n : Nat} {l : List Value} (h : w.ownsRow B e s v n l) (k : Nat) : (w.drewN k).ownsRow B e s v n l := h

theorem own_qt {w w' : World} {B : Nat} {e : TypeId} {s : Nat} {v : Value} {n : Nat} {l : List Value} (h : w.ownsRow B e s v n l) (q : Qt w.drew w') : w'.ownsRow B e s v n l := by
  obtain ⟨n, rfl⟩ := q
  exact h

/-- The marks of a ring, from a place on. -/
def ringList (ms : Nat → Mk) (f R n : Nat) : List Mk := (List.range n).map fun i => ms ((f + i) % R)
theorem ringList_succ (ms : Nat → Mk) (f R n : Nat) : ringList ms f R (n + 1) = ringList ms f R n ++ [ms ((f + n) % R)] := by
  simp [ringList, List.range_succ]
theorem ringList_length (ms : Nat → Mk) (f R n : Nat) : (ringList ms f R n).length = n := by simp [ringList]

theorem info_of {P : Program} {e : TypeId} {z : Value} {s b : Nat} (h : (P.info? e).map (fun i => (i.zero, i.size, i.bytes)) = some (some z, s, b)) : ∃ i, P.info? e = some i ∧ i.zero = some z ∧ i.size = s ∧ i.bytes = b := by
  cases hi : P.info? e with
  | none => rw [hi] at h; cases h
  | some i => rw [hi] at h; simp at h; exact ⟨i, rfl, h.1, h.2.1, h.2.2⟩

end Go.Proofs.YtmfmmopnapchjaaDoor
