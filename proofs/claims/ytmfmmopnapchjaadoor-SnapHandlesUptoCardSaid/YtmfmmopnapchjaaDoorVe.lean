/- Books: the map of accounts; ledger.New, find, Of. -/
import Derived.Test.YtmfmmopnapchjaaDoorUab
import Derived.Maps.OwnSet
namespace Go.Proofs.YtmfmmopnapchjaaDoor
open Go Go.RowKit Go.ChangeShapes Go.WideShapes Go.Maps
set_option linter.unusedVariables false
set_option linter.unusedSimpArgs false
set_option maxRecDepth 100000
set_option maxHeartbeats 800000

/-- An open account. -/
structure EntD where
  parent : Int
  acc : Acc6
  closed : Acc6
deriving DecidableEq
def EntD.nums (e : EntD) : List Int := [e.parent, e.acc.gv, e.acc.own, e.acc.lent, e.acc.done, e.acc.cut, e.acc.late, e.closed.gv, e.closed.own, e.closed.lent, e.closed.done, e.closed.cut, e.closed.late]
def EntD.val (e : EntD) : Value := .agg #[.int .i64 e.parent, .int .i64 e.acc.gv, .int .i64 e.acc.own, .int .i64 e.acc.lent, .int .i64 e.acc.done, .int .i64 e.acc.cut, .int .i64 e.acc.late, .int .i64 e.closed.gv, .int .i64 e.closed.own, .int .i64 e.closed.lent, .int .i64 e.closed.done, .int .i64 e.closed.cut, .int .i64 e.closed.late]
def EntD.zero : EntD := ⟨0, Acc6.zero, Acc6.zero⟩
def EntD.dat (e : EntD) : DataW Unit := .agg (e.nums.map fun n => .lit (.int .i64 n))
theorem EntD.dat_inj {e f : EntD} (h : e.dat = f.dat) : e = f := by
  obtain ⟨p, ⟨a1, a2, a3, a4, a5, a6⟩, ⟨c1, c2, c3, c4, c5, c6⟩⟩ := e
  obtain ⟨q, ⟨b1, b2, b3, b4, b5, b6⟩, ⟨d1, d2, d3, d4, d5, d6⟩⟩ := f
  simp [EntD.dat, EntD.nums] at h
  simp [h]
theorem EntD.val_inj {e f : EntD} (h : e.val = f.val) : e = f := by
  obtain ⟨p, ⟨a1, a2, a3, a4, a5, a6⟩, ⟨c1, c2, c3, c4, c5, c6⟩⟩ := e
  obtain ⟨q, ⟨b1, b2, b3, b4, b5, b6⟩, ⟨d1, d2, d3, d4, d5, d6⟩⟩ := f
  simp [EntD.val] at h
  simp [h]
open Classical in
/-- How an entry's value reads. -/
noncomputable def entR (v : Value) : Option (DataW Unit × List MemPlace) := if h : ∃ e : EntD, v = e.val then some ((Classical.choose h).dat, []) else none
theorem entR_mk (e : EntD) : entR e.val = some (e.dat, []) := by
  have h : ∃ f : EntD, e.val = f.val := ⟨e, rfl⟩
  unfold entR
  rw [dif_pos h]
  rw [← EntD.val_inj (Classical.choose_spec h)]
theorem entR_inv {v : Value} {z : DataW Unit × List MemPlace} (h : entR v = some z) : ∃ e : EntD, v = e.val ∧ z = (e.dat, []) := by
  unfold entR at h
  split at h
  · next c =>
    injection h with h
    exact ⟨_, Classical.choose_spec c, h.symm⟩
  · cases h
/-- A map of accounts in a block. -/
def MapAt (w : World) (m N : Nat) (f : Int → Option EntD) : Prop :=
  ∃ D, w.ownsMap Tryd.prog 34 entR m N D ∧ ∀ h : Int, Maps.has D (.int .i64 h) = (f h).isSome ∧ ∀ e, f h = some e → D.atKey (.int .i64 h) EntD.zero.dat = e.dat
theorem MapAt.of_block {w w' : World} {m N : Nat} {f : Int → Option EntD} (h : MapAt w m N f) (e : w'.heap[m]? = w.heap[m]?) : MapAt w' m N f := by
  obtain ⟨D, ⟨es, clock, hb, r⟩, hf⟩ := h
  exact ⟨D, ⟨es, clock, e.trans hb, r⟩, hf⟩
theorem MapAt.lt {w : World} {m N : Nat} {f : Int → Option EntD} (h : MapAt w m N f) : m < w.heap.size := by
  obtain ⟨D, o, hf⟩ := h
  exact o.lt
theorem MapAt.mono {w : World} {m N M : Nat} {f : Int → Option EntD} (h : MapAt w m N f) (hn : N ≤ M) : MapAt w m M f := by
  obtain ⟨D, o, hf⟩ := h
  exact ⟨D, o.mono hn, hf⟩
theorem MapAt.below {w w' : World} {m N : Nat} {f : Int → Option EntD} (h : MapAt w m N f) (hb : Below w.heap.size w w') : MapAt w' m N f := h.of_block (hb.block _ h.lt)
theorem MapAt.new (w : World) : MapAt (w.alloc (.map #[] 0)) w.heap.size 0 (fun _ => none) :=
  ⟨.map [], World.ownsMap_made w _ _ _, fun h => ⟨rfl, fun e he => by cases he⟩⟩
theorem Tryd.keyedH : Keyed Tryd.prog 34 := int_keyed Tryd.underlying34
theorem MapAt.congr {w : World} {m N : Nat} {f g : Int → Option EntD} (h : MapAt w m N f) (e : ∀ x, f x = g x) : MapAt w m N g := by
  have : f = g := funext e
  rwa [← this]
/-- An entry laid into a map. -/
theorem MapAt.put {w : World} {m N : Nat} {f : Int → Option EntD} (h : MapAt w m N f) (hN : N < maxLen) (k : Int) (hk : -9223372036854775808 ≤ k ∧ k ≤ 9223372036854775807) (e : EntD) :
    ∃ w', (Instr.mapUpdate 110 (.map (some m)) (.int .i64 k) e.val).run Tryd.prog w = .ok () w' ∧ MapAt w' m (N + 1) (fun x => if x = k then some e else f x) ∧ w.mapTurned w' m := by
  obtain ⟨D, o, hf⟩ := h
  have hw : (Lit.int .i64 k).wf = true := by simp [Lit.wf, IntKind.min, IntKind.max, IntKind.bits, IntKind.signed]; omega
  obtain ⟨w', hr, o', ht⟩ := o.store (t := 110) Tryd.keyedH Tryd.underlying110 hN (keyOf_int_mk Tryd.underlying34 hw) (entR_mk e)
  refine ⟨w', hr, ⟨_, o', fun x => ?_⟩, ht⟩
  have hkl : WideAt.IsKeyLit (.int .i64 k) := trivial
  show has _ _ = (if x = k then some e else f x).isSome ∧ ∀ e2, (if x = k then some e else f x) = some e2 → _
  by_cases e1 : x = k
  · subst e1
    rw [if_pos rfl]
    refine ⟨has_put_same o.isMap hkl _, fun e2 he => ?_⟩
    injection he with he
    subst he
    exact atKey_put_same o.isMap hkl _ _
  · have hne : (Lit.int .i64 x) ≠ .int .i64 k := fun c => e1 (by injection c)
    rw [if_neg e1, has_put_other hne]
    refine ⟨(hf x).1, fun e2 he => ?_⟩
    rw [atKey_put_other hne]
    exact (hf x).2 e2 he
/-- 'v, ok := m[k]'. -/
theorem MapAt.look {w : World} {m N : Nat} {f : Int → Option EntD} (h : MapAt w m N f) (k : Int) (hk : -9223372036854775808 ≤ k ∧ k ≤ 9223372036854775807) :
    (Instr.lookup 110 (.map (some m)) (.int .i64 k) true).run Tryd.prog w = .ok (.tuple #[((f k).getD EntD.zero).val, .bool (f k).isSome]) w := by
  obtain ⟨D, o, hf⟩ := h
  have hw : (Lit.int .i64 k).wf = true := by simp [Lit.wf, IntKind.min, IntKind.max, IntKind.bits, IntKind.signed]; omega
  have hz : (zeroValue 109).run Tryd.prog w = .ok EntD.zero.val w := rfl
  obtain ⟨v, ps, hr, hv⟩ := o.look_ok (t := 110) Tryd.keyedH Tryd.underlying110 hz (entR_mk _) (keyOf_int_mk Tryd.underlying34 hw)
  obtain ⟨e, rfl, he⟩ := entR_inv hv
  rw [hr, (hf k).1]
  have h2 : (f k).getD EntD.zero = e := by
    injection he with he _
    cases hfk : f k with
    | none =>
      have : has D (.int .i64 k) = false := by rw [(hf k).1, hfk]; rfl
      rw [atKey_of_not_has this] at he
      exact EntD.dat_inj he
    | some e2 =>
      rw [(hf k).2 e2 hfk] at he
      exact EntD.dat_inj he
  rw [h2]
theorem mapTurned_below {w w' : World} {m B : Nat} (h : w.mapTurned w' m) (hB : B ≤ m) : Below B w w' := by
  have g := h.grown
  exact ⟨g.os, g.tape, g.output, g.size, fun k hk => g.block k (by have := (show m < w.heap.size from by obtain ⟨es, c, _, _, hb, _⟩ := h; exact kb_lt hb); omega) (by intro e; injection e with e; omega)⟩
/-- A literal's entry. -/
theorem wpList_insert_in {P : Program} {ops : Array Oper} {rest : List Oper} {o : Oper} {a : Act} {Q : Exit → Act → World → Prop} {w w' : World} (hg : o.guard = none) (m x v : Operand) (t : TypeId) (hop : o.op = Op.insert t m x v)
    (hrun : (Instr.mapUpdate t (a.eval m) (a.eval x) (a.eval v)).run P w = .ok () w') (hK : wpList P ops Q rest (a.put o.dst undef) w') : wpList P ops Q (o :: rest) a w := by
  refine wpList_plain hg fun K' hK' => ?_
  unfold Oper.wp
  simp [execOp, hop, hrun, Result.andThen]
  exact hK' _ _ hK
theorem ledNew_c (w : World) (h : Int) (h0 : h ≠ 0) (hr : -9223372036854775808 ≤ h ∧ h ≤ 9223372036854775807) : Calls Tryd.prog 19 #[.int .i64 h] w fun e w' => ∃ b m, e = .returned (.pointer (some ⟨b, 0, none⟩)) ∧ w.heap.size ≤ b ∧ w.heap.size ≤ m ∧ w'.heap[b]? = some (.cells #[.int .i64 h, .map (some m)] 112) ∧ MapAt w' m 1 (fun x => if x = h then some EntD.zero else none) ∧ Below w.heap.size w w' := by
  have hz : (h == 0) = false := by simpa using h0
  obtain ⟨w1, hw1⟩ : ∃ w1, w1 = w.alloc (.map #[] 0) := ⟨_, rfl⟩
  have M1 : MapAt w1 w.heap.size 0 (fun _ => none) := hw1 ▸ MapAt.new w
  have B1 : Below w.heap.size w w1 := hw1 ▸ (Below.refl _ w).alloc (Nat.le_refl _) _
  obtain ⟨w2, hr2, M2, T2⟩ := M1.put (by unfold maxLen; omega) h hr EntD.zero
  have B2 := B1.trans (mapTurned_below T2 (Nat.le_refl _))
  have MM := Lib.hid M2
  have BB := Lib.hid B2
  have HW := Lib.hid hw1
  have hmm := @run_makeMap Tryd.prog
  simp only [EntD.val, EntD.zero, Acc6.zero] at hr2
  clear M1 M2 B1 B2 T2 h0
  go_enter Tryd.func19, Tryd.ntmps19
  go_wp2_with fail
  rw [← HW.out, hr2]
  simp only [Result.andThen]
  rw [Oper.upon_skip]
  go_wp2_with fail
  go_ret
  have b3 := (Below.refl _ w2).alloc (Nat.le_refl _) (.cells #[.int .i64 h, .map (some w.heap.size)] 112)
  exact ⟨_, w.heap.size, rfl, BB.out.size, Nat.le_refl _, kb_new w2 _, (MM.out.below b3).mono (Nat.le_refl _) |>.congr fun x => by by_cases e : x = h <;> simp [e], BB.out.trans (b3.mono BB.out.size)⟩
end Go.Proofs.YtmfmmopnapchjaaDoor
