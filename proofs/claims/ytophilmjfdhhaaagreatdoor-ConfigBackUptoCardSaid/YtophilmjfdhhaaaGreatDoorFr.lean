/- config.parser.node, behind its first test: the parent's place. -/
import Derived.Test.YtophilmjfdhhaaaGreatDoorFs
namespace Go.Proofs.YtophilmjfdhhaaaGreatDoor
open Go Go.RowKit Go.Shelf Go.Sort
set_option linter.unusedVariables false
set_option linter.unusedSimpArgs false
set_option maxRecDepth 100000
set_option maxHeartbeats 2000000

theorem RS_two (w : World) (a b : List UInt8) (ty : TypeId) : RS (w.alloc (.cells #[str a, str b] ty)) (.slice (some ⟨w.heap.size, 0, none⟩) 2 2) [a, b] := by
  refine .inr ⟨w.heap.size, 0, 2, rfl, by simp, by simp, fun i hi => ?_⟩
  rw [Nat.zero_add]
  refine cell_new1 w _ _ i _ ?_
  match i, hi with
  | 0, _ => rfl
  | 1, _ => rfl
/-- What config.parser.node leaves. -/
def NodeP (t : Tr) (ws : List (List UInt8)) (n B P : Nat) (f : Bool) (W : World) (e : Ending) (w' : World) : Prop :=
  e = .returned (errOf (nodeS t ws n).2) ∧ Below B W w' ∧ ((nodeS t ws n).2 = 0 → PS w' B P (nodeS t ws n).1 f)
theorem NodeP.bad {t : Tr} {ws : List (List UInt8)} {n B P : Nat} {f : Bool} {W w' : World} (h : nodeI t ws n = none) (hB : B ≤ W.heap.size) (hb : Below W.heap.size W w') : NodeP t ws n B P f W (.returned (errN 250)) w' := by
  have e : nodeS t ws n = (t, 250) := by unfold nodeS; rw [h]
  refine ⟨by rw [e]; rfl, hb.mono hB, fun h0 => ?_⟩
  rw [e] at h0
  exact absurd h0 (by simp)
theorem NodeP.good {t : Tr} {ws : List (List UInt8)} {n B P : Nat} {f : Bool} {W w' : World} {x : It} (h : nodeI t ws n = some x) (hb : Below B W w') (hps : PS w' B P ⟨t.items ++ [x], t.slack⟩ f) : NodeP t ws n B P f W (.returned (errOf (chkI (t.items ++ [x]) t.items.length))) w' := by
  have e : nodeS t ws n = (⟨t.items ++ [x], t.slack⟩, chkI (t.items ++ [x]) t.items.length) := by unfold nodeS; rw [h]
  refine ⟨by rw [e], hb, fun _ => ?_⟩
  rw [e]
  exact hps
theorem PS.lt {w : World} {B P : Nat} {t : Tr} {f : Bool} (h : PS w B P t f) : P < w.heap.size := by
  obtain ⟨v1, v2, cs, h1, _⟩ := h.out
  exact blk_lt h1
theorem PS.below {w w' : World} {B P : Nat} {t : Tr} {f : Bool} (h : PS w B P t f) (hb : Below w.heap.size w w') : PS w' B P t f := by
  obtain ⟨v1, v2, cs, h1, h2, h3, h4, h5, h6⟩ := h.out
  exact ⟨⟨v1, v2, cs, blk_below h1 hb, own_below1 h2 hb, h3.move hb.size (fun k hk _ => hb.block k hk) (fun k _ hn => hn), h4.below hb, fun k hk => ⟨(h5 k hk).1, Nat.lt_of_lt_of_le (h5 k hk).2 hb.size⟩, h6⟩, h.base⟩
/-- A row grown by an item, and stored back. -/
theorem PS.snoc {w w1 : World} {B P : Nat} {t : Tr} {f : Bool} {v1 v2 v' u : Value} {cs : List Value} {x : It}
    (h1 : w.heap[P]? = some (.cells #[v1, v2, .bool f] 68)) (h3 : IC w (fun k => v1.ownBlock = some k ∨ k ≤ P) cs t.items) (h4 : RI w v2 t.slack) (h5 : ∀ k, v2.ownBlock = some k → ¬ (v1.ownBlock = some k ∨ k ≤ P) ∧ k < w.heap.size) (h6 : v1.ownBlock ≠ some P) (hB : B ≤ P)
    (hu : RI w u x.pr) (hu2 : ∀ k, u.ownBlock = some k → ¬ (v1.ownBlock = some k ∨ k ≤ P) ∧ k < w.heap.size)
    (hg : Grew w w1 v1 v') (ho : w1.ownsRow B 45 5 v' (t.items.length + 1) (cs ++ [str x.nm, .int .i64 x.par, .int .i64 x.q, .int .i64 x.p, u])) :
    PS (w1.setCell ⟨P, 0, none⟩ v') B P ⟨t.items ++ [x], t.slack⟩ f := by
  have hP := blk_lt h1
  have hvP : v'.ownBlock ≠ some P := fun e => by rcases hg.own P e with h | h; exact h6 h; omega
  have N1 : ∀ k, k < w.heap.size → ¬ (v1.ownBlock = some k ∨ k ≤ P) → ¬ (v'.ownBlock = some k ∨ k ≤ P) := by
    rintro k hk hn (h | h)
    · rcases hg.own k h with h | h
      · exact hn (.inl h)
      · omega
    · exact hn (.inr h)
  have MV : ∀ k, k < w.heap.size → ¬ (v1.ownBlock = some k ∨ k ≤ P) → (w1.setCell ⟨P, 0, none⟩ v').heap[k]? = w.heap[k]? := fun k hk hn => by
    rw [blk_set_other (fun e => hn (.inr (Nat.le_of_eq e)))]
    exact hg.block k hk (fun e => hn (.inl e))
  have SZ : w.heap.size ≤ (w1.setCell ⟨P, 0, none⟩ v').heap.size := by simpa using hg.size
  refine ⟨⟨v', v2, _, ?_, by simpa using ownsRow_setCell_other ho (a := ⟨P, 0, none⟩) hvP v', ?_, ?_, ?_, hvP⟩, hB⟩
  · exact blk_set ((hg.block P hP h6).trans h1) 0 v'
  · exact (h3.move SZ MV N1).snoc (hu.of_block SZ (fun k hk => MV k (hu2 k hk).2 (hu2 k hk).1)) (fun k hk => ⟨N1 k (hu2 k hk).2 (hu2 k hk).1, by have := (hu2 k hk).2; omega⟩)
  · exact h4.of_block SZ (fun k hk => MV k (h5 k hk).2 (h5 k hk).1)
  · exact fun k hk => ⟨N1 k (h5 k hk).2 (h5 k hk).1, by have := (h5 k hk).2; omega⟩
/-- The rest of a node's line: what its number and its priorities come to. -/
theorem nodeI_tail {t : Tr} {ws : List (List UInt8)} {n : Nat} (ha : n % 2 = 0) (hb : ¬ depS t.items ((t.items.length : Int) - 1) < n / 2) (hc : 2 ≤ ws.length) (hd : nameS (ws.getD 0 []) = true) :
    nodeI t ws n = if (cutAt 47 (ws.getD 1 [])).2.isSome = false then none
      else match numsS [(cutAt 47 (ws.getD 1 [])).1, (cutAt 47 (ws.getD 1 [])).2.getD []] with
      | none => none
      | some r => if ws.length = 2 then some ⟨ws.getD 0 [], climbS t.items (n / 2) ((t.items.length : Int) - 1), r.getD 0 0, r.getD 1 0, []⟩
        else if ws.getD 2 [] = wTasks then match numsS (ws.drop 3) with
          | none => none
          | some pr => some ⟨ws.getD 0 [], climbS t.items (n / 2) ((t.items.length : Int) - 1), r.getD 0 0, r.getD 1 0, pr⟩
        else none := by
  unfold nodeI
  refine if_neg ?_
  rintro (h | h | h | h)
  · omega
  · exact hb h
  · omega
  · rw [hd] at h; cases h
end Go.Proofs.YtophilmjfdhhaaaGreatDoor
