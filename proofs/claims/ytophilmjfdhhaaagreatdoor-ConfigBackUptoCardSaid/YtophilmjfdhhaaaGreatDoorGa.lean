/- Copies of rows of items; lines of layer 25 in the reference's words. -/
import Derived.Test.YtophilmjfdhhaaaGreatDoorFz
import Derived.Laws.AppendOwnNone
namespace Go.Proofs.YtophilmjfdhhaaaGreatDoor
open Go Go.RowKit Go.Shelf Go.Sort
set_option linter.unusedVariables false
set_option linter.unusedSimpArgs false
set_option maxRecDepth 100000
set_option maxHeartbeats 1600000

/-- Cells that read as items. -/
def IR (w : World) : List Value → List It → Prop
  | [], [] => True
  | a :: b :: c :: d :: e :: cs, x :: xs => a = str x.nm ∧ b = .int .i64 x.par ∧ c = .int .i64 x.q ∧ d = .int .i64 x.p ∧ RI w e x.pr ∧ IR w cs xs
  | _, _ => False
theorem IR.len {w : World} : ∀ {cs : List Value} {o : List It}, IR w cs o → cs.length = o.length * 5
  | [], [], _ => rfl
  | [], _ :: _, h => by cases h
  | [_], o, h => by cases o <;> cases h
  | [_, _], o, h => by cases o <;> cases h
  | [_, _, _], o, h => by cases o <;> cases h
  | [_, _, _, _], o, h => by cases o <;> cases h
  | _ :: _ :: _ :: _ :: _ :: _, [], h => by cases h
  | a :: b :: c :: d :: e :: cs, x :: xs, h => by have := IR.len h.2.2.2.2.2; simp; omega
theorem IR.snoc {w : World} {u : Value} {x : It} (hu : RI w u x.pr) : ∀ {cs : List Value} {o : List It}, IR w cs o → IR w (cs ++ [str x.nm, .int .i64 x.par, .int .i64 x.q, .int .i64 x.p, u]) (o ++ [x])
  | [], [], _ => ⟨rfl, rfl, rfl, rfl, hu, trivial⟩
  | [], _ :: _, h => by cases h
  | [_], o, h => by cases o <;> cases h
  | [_, _], o, h => by cases o <;> cases h
  | [_, _, _], o, h => by cases o <;> cases h
  | [_, _, _, _], o, h => by cases o <;> cases h
  | _ :: _ :: _ :: _ :: _ :: _, [], h => by cases h
  | a :: b :: c :: d :: e :: cs, y :: ys, h => ⟨h.1, h.2.1, h.2.2.1, h.2.2.2.1, h.2.2.2.2.1, IR.snoc hu h.2.2.2.2.2⟩
theorem IR.below {w w' : World} (hb : Below w.heap.size w w') : ∀ {cs : List Value} {o : List It}, IR w cs o → IR w' cs o
  | [], [], _ => trivial
  | [], _ :: _, h => by cases h
  | [_], o, h => by cases o <;> cases h
  | [_, _], o, h => by cases o <;> cases h
  | [_, _, _], o, h => by cases o <;> cases h
  | [_, _, _, _], o, h => by cases o <;> cases h
  | _ :: _ :: _ :: _ :: _ :: _, [], h => by cases h
  | a :: b :: c :: d :: e :: cs, y :: ys, h => ⟨h.1, h.2.1, h.2.2.1, h.2.2.2.1, h.2.2.2.2.1.below hb, IR.below hb h.2.2.2.2.2⟩
theorem IR.get {w : World} : ∀ {cs : List Value} {o : List It} (i : Nat), IR w cs o → i < o.length → cs[i * 5]? = some (str (o.getD i default).nm) ∧ cs[i * 5 + 1]? = some (.int .i64 (o.getD i default).par) ∧ cs[i * 5 + 2]? = some (.int .i64 (o.getD i default).q) ∧ cs[i * 5 + 3]? = some (.int .i64 (o.getD i default).p) ∧ ∃ u, cs[i * 5 + 4]? = some u ∧ RI w u (o.getD i default).pr
  | [], [], i, _, hi => by simp at hi
  | [], _ :: _, _, h, _ => by cases h
  | [_], o, _, h, _ => by cases o <;> cases h
  | [_, _], o, _, h, _ => by cases o <;> cases h
  | [_, _, _], o, _, h, _ => by cases o <;> cases h
  | [_, _, _, _], o, _, h, _ => by cases o <;> cases h
  | _ :: _ :: _ :: _ :: _ :: _, [], _, h, _ => by cases h
  | a :: b :: c :: d :: e :: cs, x :: xs, 0, h, _ => ⟨by simp [h.1], by simp [h.2.1], by simp [h.2.2.1], by simp [h.2.2.2.1], e, by simp, h.2.2.2.2.1⟩
  | a :: b :: c :: d :: e :: cs, x :: xs, i + 1, h, hi => by
    obtain ⟨h1, h2, h3, h4, u, h5, h6⟩ := IR.get i h.2.2.2.2.2 (by simpa using hi)
    refine ⟨?_, ?_, ?_, ?_, u, ?_, by simpa using h6⟩
    · rw [show (i + 1) * 5 = i * 5 + 1 + 1 + 1 + 1 + 1 by omega]; simpa using h1
    · rw [show (i + 1) * 5 + 1 = i * 5 + 1 + 1 + 1 + 1 + 1 + 1 by omega]; simpa using h2
    · rw [show (i + 1) * 5 + 2 = i * 5 + 2 + 1 + 1 + 1 + 1 + 1 by omega]; simpa using h3
    · rw [show (i + 1) * 5 + 3 = i * 5 + 3 + 1 + 1 + 1 + 1 + 1 by omega]; simpa using h4
    · rw [show (i + 1) * 5 + 4 = i * 5 + 4 + 1 + 1 + 1 + 1 + 1 by omega]; simpa using h5
theorem IR.one {w : World} : ∀ {cs : List Value} {o : List It}, IR w cs o → ∀ y ∈ cs, y.oneCell' = true
  | [], [], _, y, hy => by simp at hy
  | [], _ :: _, h, _, _ => by cases h
  | [_], o, h, _, _ => by cases o <;> cases h
  | [_, _], o, h, _, _ => by cases o <;> cases h
  | [_, _, _], o, h, _, _ => by cases o <;> cases h
  | [_, _, _, _], o, h, _, _ => by cases o <;> cases h
  | _ :: _ :: _ :: _ :: _ :: _, [], h, _, _ => by cases h
  | a :: b :: c :: d :: e :: cs, x :: xs, h, y, hy => by
    obtain ⟨h1, h2, h3, h4, h5, h6⟩ := h
    obtain ⟨p, k, he⟩ := RI_form h5
    simp only [List.mem_cons] at hy
    rcases hy with rfl | rfl | rfl | rfl | rfl | hy
    · rw [h1]; rfl
    · rw [h2]; rfl
    · rw [h3]; rfl
    · rw [h4]; rfl
    · rw [he]; rfl
    · exact IR.one h6 y hy
theorem RT_ownR {w : World} {B : Nat} {e : TypeId} {v : Value} {n : Nat} {cs : List Value} {L : List It} (h : w.ownsRow B e 5 v n cs) (hl : IR w cs L) : RT w v L ∧ n = L.length := by
  have hcl := hl.len
  obtain ⟨h1, h2⟩ := h
  have hn : n = L.length := by omega
  subst hn
  refine ⟨?_, rfl⟩
  rcases h2 with ⟨rfl, h0⟩ | ⟨g, cap, cur, rfl, hg, hh, hnc, hc, hs, ht⟩
  · rw [List.eq_nil_of_length_eq_zero h0]; exact RT_nil w
  · refine ⟨_, cap, rfl, by omega, by omega, fun i hi => ⟨g, 0, rfl, (Array.getElem?_eq_some_iff.1 hh).1, ?_⟩⟩
    obtain ⟨g1, g2, g3, g4, u, g5, g6⟩ := hl.get i hi
    have at_ : ∀ j v, j < L.length * 5 → cs[j]? = some v → w.cell? ⟨g, 0 + j, none⟩ = some v := by
      intro j v hj hv
      have e1 : cur.toList[j]? = cs[j]? := by rw [← ht, List.getElem?_take, if_pos hj]
      simp only [World.cell?, hh, Nat.zero_add]
      rw [hv] at e1
      simpa using e1
    exact ⟨at_ _ _ (by omega) g1, at_ _ _ (by omega) g2, at_ _ _ (by omega) g3, at_ _ _ (by omega) g4, u, at_ _ _ (by omega) g5, g6⟩
theorem IR_of {w : World} {b : Nat} : ∀ (xs : List It) (o : Nat), (∀ i, i < xs.length → ItAt w b (o + i * 5) (xs.getD i default)) → ∃ cs, IR w cs xs ∧ ∀ j y, cs[j]? = some y → w.cell? ⟨b, o + j, none⟩ = some y
  | [], o, _ => ⟨[], trivial, fun j y hy => by simp at hy⟩
  | x :: xs, o, h => by
    obtain ⟨cs, h1, h2⟩ := IR_of xs (o + 5) (fun i hi => by
      have := h (i + 1) (by simpa using hi)
      rw [show o + (i + 1) * 5 = o + 5 + i * 5 by omega] at this
      simpa using this)
    have h0 := h 0 (by simp)
    simp only [Nat.zero_mul, Nat.add_zero, List.getD_cons_zero] at h0
    obtain ⟨u, hu, hr⟩ := h0.c4
    refine ⟨str x.nm :: .int .i64 x.par :: .int .i64 x.q :: .int .i64 x.p :: u :: cs, ⟨rfl, rfl, rfl, rfl, hr, h1⟩, fun j y hy => ?_⟩
    match j, hy with
    | 0, hy => simp at hy; subst hy; exact h0.c0
    | 1, hy => simp at hy; subst hy; exact h0.c1
    | 2, hy => simp at hy; subst hy; exact h0.c2
    | 3, hy => simp at hy; subst hy; exact h0.c3
    | 4, hy => simp at hy; subst hy; exact hu
    | j + 5, hy =>
      have := h2 j y (by simpa using hy)
      rwa [show o + (j + 5) = o + 5 + j by omega]
/-- nil reads so: no address, no room. -/
def NilOk (v : Value) : Prop := ∀ n c, v = .slice none n c → c = 0
/-- 'append(nil, l...)' of items. -/
theorem appendRT {P : Program} {ops : Array Oper} {rest : List Oper} {o : Oper} {a : Act} {Q : Exit → Act → World → Prop} {W w0 : World} (hgd : o.guard = none) (s x : Operand) (t : TypeId)
    (ho : o.op = .call { callee := .builtin .append, args := #[s, x], argTypes := #[t, t] })
    (base : Nat) (e : TypeId) (i : TypeInfo) (z : Value) (bytes : Nat) (ht : P.underlying t = some (.slice e)) (hi : P.info? e = some i) (hz : i.zero = some z)
    (hsize : i.size = 5) (hby : i.bytes = bytes) (hzs : z.cells.size = 5)
    (hs : a.eval s = .slice none 0 0)
    (W1 : World) (u : Value) (l : List It) (hx : a.eval x = u) (hu : RT W1 u l) (hW1 : Below W1.heap.size W1 w0) (hn : NilOk u)
    (h63 : l.length ≤ maxLen) (hbytes : l.length * bytes ≤ 140737488355328) (hbase : base ≤ w0.heap.size) (hb : Below base W w0)
    (h : ∀ v' w' cs, w'.ownsRow base e 5 v' l.length cs → Below base W w' → Below w0.heap.size w0 w' → IR W1 cs l → wpList P ops Q rest (a.put o.dst v') w') :
    wpList P ops Q (o :: rest) a w0 := by
  have hown : w0.ownsRow base e 5 (.slice none 0 0) 0 [] := World.ownsRow_nil _ _ _ _
  have bw : ∀ w', w0.grownBy w' (Value.slice none 0 0).ownBlock → Below w0.heap.size w0 w' := fun w' hg => below_own (Below.refl _ _) (Nat.le_refl _) (World.ownsRow_nil w0 w0.heap.size e 5) hg
  obtain ⟨p, c, rfl, hlc, hcm, hit⟩ := hu
  rcases Nat.eq_zero_or_pos l.length with h0 | h0
  · have hl : l = [] := List.eq_nil_of_length_eq_zero h0
    subst hl
    rcases p with _ | ad
    · have := hn _ _ rfl
      subst this
      refine wpList_append_own_none hgd s x t ho base e i 5 ht hi _ 0 [] hs hown hx ?_
      exact h _ w0 [] hown hb (Below.refl _ _) trivial
    · refine wpList_append_own _ hgd s x t ho base e i z 5 bytes ht hi hz hsize hby hzs (by decide) _ 0 [] hs hown ad 0 c [] hx rfl (by intro j y hj; simp at hj) (by intro y hy; simp at hy) (by simp) (by simp) hbase ?_
      intro v' w' ho' hg' _
      exact h v' w' [] (by simpa using ho') (below_own hb hbase hown hg') (bw w' hg') trivial
  · obtain ⟨b, off, rfl, hlt, _⟩ := hit 0 h0
    have hit' : ∀ i, i < l.length → ItAt W1 b (off + i * 5) (l.getD i default) := fun i hi => by
      obtain ⟨b', o', he, _, hx⟩ := hit i hi
      injection he with he
      injection he with e1 e2
      subst e1; subst e2
      exact hx
    obtain ⟨cs, hcs, hcell⟩ := IR_of l off hit'
    refine wpList_append_own _ hgd s x t ho base e i z 5 bytes ht hi hz hsize hby hzs (by decide) _ 0 [] hs hown ⟨b, off, none⟩ l.length c cs hx hcs.len ?_ hcs.one (by simpa using h63) (by simpa using hbytes) hbase ?_
    · intro j y hj
      have hp : (⟨b, off, none⟩ : Addr).add j = ⟨b, off + j, none⟩ := by unfold Addr.add; split <;> simp_all
      rw [hp]
      exact (hW1.cell (p := ⟨b, off + j, none⟩) hlt).trans (hcell j y hj)
    · intro v' w' ho' hg' _
      have hbw := bw w' hg'
      exact h v' w' cs (by simpa using ho') (below_own hb hbase hown hg') hbw hcs
theorem NilOk_own {w : World} {B : Nat} {e : TypeId} {s : Nat} {v : Value} {n : Nat} {cs : List Value} (h : w.ownsRow B e s v n cs) : NilOk v := by
  intro m c hv
  rcases h.2 with ⟨rfl, _⟩ | ⟨g, cap, cur, rfl, _⟩
  · injection hv with _ _ h3; exact h3.symm
  · injection hv with h1; cases h1
end Go.Proofs.YtophilmjfdhhaaaGreatDoor
