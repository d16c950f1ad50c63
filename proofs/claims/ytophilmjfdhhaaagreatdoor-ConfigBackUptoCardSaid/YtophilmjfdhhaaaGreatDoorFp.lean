/- A line of a node, layer 25: what it says; the parser's state; config.parser.node. -/
import Derived.Test.YtophilmjfdhhaaaGreatDoorFo
import Derived.Deep.RegionHeld3
import Derived.Deep.AppendLies
namespace Go.Proofs.YtophilmjfdhhaaaGreatDoor
open Go Go.RowKit Go.Shelf Go.Sort
set_option linter.unusedVariables false
set_option linter.unusedSimpArgs false
set_option maxRecDepth 100000
set_option maxHeartbeats 3200000

/-- .. met in a region that draws its order. -/
theorem step_appendN2 {P : Program} {ops : Array Oper} {o : Oper} {a : Act} {K : Act → World → Prop} {Q : Exit → Act → World → Prop} {E : Prop} {W w0 : World} (hgd : o.guard = none) (s x : Operand) (t : TypeId)
    (ho : o.op = .call { callee := .builtin .append, args := #[s, x], argTypes := #[t, t] })
    (base : Nat) (e : TypeId) (i : TypeInfo) (z : Value) (size bytes : Nat) (ht : P.underlying t = some (.slice e)) (hi : P.info? e = some i) (hz : i.zero = some z)
    (hsize : i.size = size) (hby : i.bytes = bytes) (hzs : z.cells.size = size) (hpos : 0 < size)
    (v : Value) (n : Nat) (xs : List Value) (hs : a.eval s = v) (hown : w0.ownsRow base e size v n xs)
    (c : Nat) (cs : List Value) (bx : Nat) (hx : a.eval x = .slice (some ⟨bx, 0, none⟩) 1 c) (hbx : bx = w0.heap.size) (hcl : cs.length = size) (hu : ∀ u ∈ cs, u.oneCell' = true)
    (h63 : n + 1 ≤ maxLen) (hbytes : (n + 1) * bytes ≤ 140737488355328) (hbase : base ≤ w0.heap.size) (hb : Below base W w0)
    (h : ∀ v' w', w'.ownsRow base e size v' (n + 1) (xs ++ cs) → Below base W w' → Grew w0 w' v v' → K (a.put o.dst v') w') :
    if Region.wanted o (yielded ops a.tmps) = true then o.wp P a (w0.alloc (.cells cs.toArray e)) K Q else E := by
  subst hbx
  refine step_append_lies (w := w0.alloc (.cells cs.toArray e)) hgd s x t ho base e i z size bytes ht hi hz hsize hby hzs hpos v n xs hs (hown.alloc _) ⟨w0.heap.size, 0, none⟩ 1 c cs hx (by omega) ?_ hu (by decide) h63 hbytes (by simp; omega) (w0.heap.size + 1) (by simp) ?_
  · intro j y hj
    have hp : (⟨w0.heap.size, 0, none⟩ : Addr).add j = ⟨w0.heap.size, j, none⟩ := by unfold Addr.add; split <;> simp_all
    rw [hp]
    exact cell_new1 w0 _ _ j y (by simpa using hj)
  · intro g cap w' ho' hg' hv' _
    refine h _ w' ho' (below_own (hb.alloc hbase _) (by simp; omega) (hown.alloc _) hg') ⟨by have := hg'.size; simp at this; omega, fun k hk hS => (hg'.block k (by simp; omega) (fun e => hS e.symm)).trans (Below.heap_alloc _ _ _ hk), ?_⟩
    intro x hx
    simp only [Value.ownBlock, Option.some.injEq] at hx
    subst hx
    rcases hv' with h | h
    · exact .inl h
    · exact .inr (by omega)
/-- What a node's line asks for. -/
def nodeI (t : Tr) (ws : List (List UInt8)) (n : Nat) : Option It :=
  if n % 2 = 1 ∨ depS t.items ((t.items.length : Int) - 1) < n / 2 ∨ ws.length < 2 ∨ nameS (ws.getD 0 []) = false then none
  else if (cutAt 47 (ws.getD 1 [])).2.isSome = false then none
  else match numsS [(cutAt 47 (ws.getD 1 [])).1, (cutAt 47 (ws.getD 1 [])).2.getD []] with
    | none => none
    | some r => if ws.length = 2 then some ⟨ws.getD 0 [], climbS t.items (n / 2) ((t.items.length : Int) - 1), r.getD 0 0, r.getD 1 0, []⟩
      else if ws.getD 2 [] = wTasks then match numsS (ws.drop 3) with
        | none => none
        | some pr => some ⟨ws.getD 0 [], climbS t.items (n / 2) ((t.items.length : Int) - 1), r.getD 0 0, r.getD 1 0, pr⟩
      else none
def nodeS (t : Tr) (ws : List (List UInt8)) (n : Nat) : Tr × Int :=
  match nodeI t ws n with
  | none => (t, 250)
  | some x => (⟨t.items ++ [x], t.slack⟩, chkI (t.items ++ [x]) t.items.length)
/-- The parser as it lies in memory. -/
structure PS (w : World) (B P : Nat) (t : Tr) (first : Bool) : Prop where
  out : ∃ v1 v2 cs, w.heap[P]? = some (.cells #[v1, v2, .bool first] 68) ∧ w.ownsRow B 45 5 v1 t.items.length cs ∧ IC w (fun k => v1.ownBlock = some k ∨ k ≤ P) cs t.items ∧ RI w v2 t.slack ∧ (∀ k, v2.ownBlock = some k → ¬ (v1.ownBlock = some k ∨ k ≤ P) ∧ k < w.heap.size) ∧ v1.ownBlock ≠ some P
  base : B ≤ P
theorem Tryz.infoItem : (Tryz.prog.info? 45).map (fun i => (i.zero, i.size, i.bytes)) = some (some (.agg #[.string ⟨#[]⟩, .int .i64 0, .int .i64 0, .int .i64 0, .slice none 0 0]), 5, 64) := by kernel_rfl
end Go.Proofs.YtophilmjfdhhaaaGreatDoor
