/- Strings and slices of strings, as they lie in memory. Over any program. -/
import Derived.Test.YtmfmmopnapchjaaDoorOwn
import Derived.Maps.AppendAt
import Derived.Laws.AppendOwnNone
import Derived.Lib.Hide
import Derived.WalkKit
namespace Go.Proofs.YtmfmmopnapchjaaDoor
open Go Go.RowKit
set_option linter.unusedVariables false

/-- A string of these bytes. -/
abbrev str (s : List UInt8) : Value := .string ⟨s.toArray⟩

theorem cell_new1 (w : World) (cs : Array Value) (t : TypeId) (i : Nat) (v : Value) (h : cs[i]? = some v) : (w.alloc (.cells cs t)).cell? ⟨w.heap.size, i, none⟩ = some v := by
  simp only [World.cell?, heap_alloc_new]
  exact h

/-- A slice value whose elements, of one cell each, hold these values. -/
def RG (w : World) (v : Value) (l : List Value) : Prop :=
  (l = [] ∧ ∃ a cap, v = .slice a 0 cap ∧ (a = none → cap = 0)) ∨
  ∃ b off cap, v = .slice (some ⟨b, off, none⟩) l.length cap ∧ l.length ≤ cap ∧ b < w.heap.size ∧ ∀ i, i < l.length → w.cell? ⟨b, off + i, none⟩ = some (l.getD i undef)
theorem RG_nil (w : World) : RG w (.slice none 0 0) [] := .inl ⟨rfl, none, 0, rfl, fun _ => rfl⟩
theorem RG.out {w : World} {v : Value} {l : List Value} (h : RG w v l) : ∃ p cap, v = .slice p l.length cap ∧ (0 < l.length → ∃ b off, p = some ⟨b, off, none⟩ ∧ l.length ≤ cap ∧ b < w.heap.size ∧ ∀ i, i < l.length → w.cell? ⟨b, off + i, none⟩ = some (l.getD i undef)) := by
  rcases h with ⟨rfl, a, cap, rfl, _⟩ | ⟨b, off, cap, rfl, hcap, hb, hc⟩
  · exact ⟨a, cap, rfl, fun h => by simp at h⟩
  · exact ⟨_, cap, rfl, fun _ => ⟨b, off, rfl, hcap, hb, hc⟩⟩
theorem RG.of_block {w w' : World} {v : Value} {l : List Value} (h : RG w v l) (hs : w.heap.size ≤ w'.heap.size) (e : ∀ k, v.ownBlock = some k → l ≠ [] → w'.heap[k]? = w.heap[k]?) : RG w' v l := by
  rcases h with h | ⟨b, off, cap, rfl, hcap, hb, hc⟩
  · exact .inl h
  · refine .inr ⟨b, off, cap, rfl, hcap, by omega, fun i hi => ?_⟩
    have hl : l ≠ [] := fun e => by subst e; simp at hi
    exact (World.cell?_of_block (w := w) (w' := w') (a := ⟨b, off + i, none⟩) (e b rfl hl)).trans (hc i hi)
theorem RG.lt {w : World} {v : Value} {l : List Value} (h : RG w v l) : ∀ x, v.ownBlock = some x → l ≠ [] → x < w.heap.size := by
  intro x hx hl
  rcases h with ⟨rfl, _⟩ | ⟨b, off, cap, rfl, hcap, hb, hc⟩
  · exact absurd rfl hl
  · simp [Value.ownBlock] at hx; subst hx; exact hb
theorem RG.below {w w' : World} {v : Value} {l : List Value} (h : RG w v l) (hb : Below w.heap.size w w') : RG w' v l := h.of_block hb.size (fun k hk hl => hb.block k (h.lt k hk hl))
/-- A row of the call's own reads as what it holds. -/
theorem RG_own {w : World} {B : Nat} {e : TypeId} {v : Value} {n : Nat} {l : List Value} (h : w.ownsRow B e 1 v n l) : RG w v l ∧ l.length = n := by
  obtain ⟨hl, h⟩ := h
  have hl' : l.length = n := by simpa using hl
  refine ⟨?_, hl'⟩
  rcases h with ⟨rfl, rfl⟩ | ⟨g, cap, cur, rfl, hg, hh, hn, hc, hs, ht⟩
  · obtain rfl : l = [] := List.eq_nil_of_length_eq_zero hl'
    exact RG_nil w
  · refine .inr ⟨g, 0, cap, by rw [hl'], by omega, (Array.getElem?_eq_some_iff.1 hh).1, fun i hi => ?_⟩
    have e1 : cur.toList[i]? = l[i]? := by rw [← ht, List.getElem?_take, if_pos (by omega)]
    simp only [World.cell?, hh, Nat.zero_add]
    rw [List.getD, List.getElem?_eq_getElem hi]
    rw [List.getElem?_eq_getElem hi] at e1
    simpa using e1
theorem own_drewN1 {w : World} {B : Nat} {e : TypeId} {s : Nat} {v : Value} {n : Nat} {l : List Value} (h : w.ownsRow B e s v n l) (k : Nat) : (w.drewN k).ownsRow B e s v n l := h
theorem own_below1 {w w' : World} {B : Nat} {e : TypeId} {s : Nat} {v : Value} {n : Nat} {xs : List Value} (h : w.ownsRow B e s v n xs) (c : Below w.heap.size w w') : w'.ownsRow B e s v n xs := by
  obtain ⟨h1, h2⟩ := h
  refine ⟨h1, ?_⟩
  rcases h2 with h | ⟨g, cap, cur, rfl, hg, hh, r⟩
  · exact .inl h
  · exact .inr ⟨g, cap, cur, rfl, hg, (c.block g (Array.getElem?_eq_some_iff.1 hh).1).trans hh, r⟩
theorem own_form1 {w : World} {B n s : Nat} {e : TypeId} {v : Value} {xs : List Value} (h : w.ownsRow B e s v n xs) : ∃ p c, v = .slice p n c := by
  rcases h.2 with ⟨rfl, rfl⟩ | ⟨g, cap, cur, rfl, _⟩
  · exact ⟨none, 0, rfl⟩
  · exact ⟨_, cap, rfl⟩
theorem own_mono1 {w : World} {B B' : Nat} {e : TypeId} {s : Nat} {v : Value} {n : Nat} {xs : List Value} (h : w.ownsRow B e s v n xs) (hB : B' ≤ B) : w.ownsRow B' e s v n xs := by
  obtain ⟨h1, h2⟩ := h
  refine ⟨h1, ?_⟩
  rcases h2 with h | ⟨g, cap, cur, rfl, hg, r⟩
  · exact .inl h
  · exact .inr ⟨g, cap, cur, rfl, Nat.le_trans hB hg, r⟩

/-- 'append(s, x)' of elements of any size; the new elements lie in a block of their own that the statement has just made. -/
theorem appendN {P : Program} {ops : Array Oper} {rest : List Oper} {o : Oper} {a : Act} {Q : Exit → Act → World → Prop} {W w0 : World} (hgd : o.guard = none) (s x : Operand) (t : TypeId)
    (ho : o.op = .call { callee := .builtin .append, args := #[s, x], argTypes := #[t, t] })
    (base : Nat) (e : TypeId) (i : TypeInfo) (z : Value) (size bytes : Nat) (ht : P.underlying t = some (.slice e)) (hi : P.info? e = some i) (hz : i.zero = some z)
    (hsize : i.size = size) (hby : i.bytes = bytes) (hzs : z.cells.size = size) (hpos : 0 < size)
    (v : Value) (n : Nat) (xs : List Value) (hs : a.eval s = v) (hown : w0.ownsRow base e size v n xs)
    (c : Nat) (cs : List Value) (bx : Nat) (hx : a.eval x = .slice (some ⟨bx, 0, none⟩) 1 c) (hbx : bx = w0.heap.size) (hcl : cs.length = size) (hu : ∀ u ∈ cs, u.oneCell' = true)
    (h63 : n + 1 ≤ maxLen) (hbytes : (n + 1) * bytes ≤ 140737488355328) (hbase : base ≤ w0.heap.size) (hb : Below base W w0)
    (h : ∀ v' w', w'.ownsRow base e size v' (n + 1) (xs ++ cs) → Below base W w' → wpList P ops Q rest (a.put o.dst v') w') :
    wpList P ops Q (o :: rest) a (w0.alloc (.cells cs.toArray e)) := by
  subst hbx
  refine wpList_append_own _ hgd s x t ho base e i z size bytes ht hi hz hsize hby hzs hpos v n xs hs (hown.alloc _) ⟨w0.heap.size, 0, none⟩ 1 c cs hx (by omega) ?_ hu h63 hbytes (by simp; omega) ?_
  · intro j y hj
    have hp : (⟨w0.heap.size, 0, none⟩ : Addr).add j = ⟨w0.heap.size, j, none⟩ := by unfold Addr.add; split <;> simp_all
    rw [hp]
    exact cell_new1 w0 _ _ j y (by simpa using hj)
  · intro v' w' ho' hg' _
    exact h v' w' ho' (below_own (hb.alloc hbase _) (by simp; omega) (hown.alloc _) hg')

theorem own_ge1 {w : World} {B n : Nat} {e : TypeId} {s : Nat} {v : Value} {xs : List Value} (h : w.ownsRow B e s v n xs) : ∀ k, v.ownBlock = some k → B ≤ k := by
  intro k hk
  rcases h.2 with ⟨rfl, _⟩ | ⟨g, cap, cur, rfl, hb, _⟩
  · simp [Value.ownBlock] at hk
  · simp [Value.ownBlock] at hk; omega
theorem own_lt1 {w : World} {B : Nat} {e : TypeId} {s : Nat} {v : Value} {n : Nat} {xs : List Value} (h : w.ownsRow B e s v n xs) : ∀ k, v.ownBlock = some k → k < w.heap.size := by
  intro k hk
  obtain ⟨h1, h2⟩ := h
  rcases h2 with ⟨rfl, _⟩ | ⟨g, cap, cur, rfl, hg, hh, r⟩
  · simp [Value.ownBlock] at hk
  · simp [Value.ownBlock] at hk
    subst hk
    exact (Array.getElem?_eq_some_iff.1 hh).1
/-- What an append leaves: all blocks but the row's are as they were; the row lies where it lay, or in a new block. -/
structure Grew (w w' : World) (v v' : Value) : Prop where
  size : w.heap.size ≤ w'.heap.size
  block : ∀ k, k < w.heap.size → v.ownBlock ≠ some k → w'.heap[k]? = w.heap[k]?
  own : ∀ x, v'.ownBlock = some x → v.ownBlock = some x ∨ w.heap.size ≤ x
/-- .. it tells where the new row lies. -/
theorem appendN2 {P : Program} {ops : Array Oper} {rest : List Oper} {o : Oper} {a : Act} {Q : Exit → Act → World → Prop} {W w0 : World} (hgd : o.guard = none) (s x : Operand) (t : TypeId)
    (ho : o.op = .call { callee := .builtin .append, args := #[s, x], argTypes := #[t, t] })
    (base : Nat) (e : TypeId) (i : TypeInfo) (z : Value) (size bytes : Nat) (ht : P.underlying t = some (.slice e)) (hi : P.info? e = some i) (hz : i.zero = some z)
    (hsize : i.size = size) (hby : i.bytes = bytes) (hzs : z.cells.size = size) (hpos : 0 < size)
    (v : Value) (n : Nat) (xs : List Value) (hs : a.eval s = v) (hown : w0.ownsRow base e size v n xs)
    (c : Nat) (cs : List Value) (bx : Nat) (hx : a.eval x = .slice (some ⟨bx, 0, none⟩) 1 c) (hbx : bx = w0.heap.size) (hcl : cs.length = size) (hu : ∀ u ∈ cs, u.oneCell' = true)
    (h63 : n + 1 ≤ maxLen) (hbytes : (n + 1) * bytes ≤ 140737488355328) (hbase : base ≤ w0.heap.size) (hb : Below base W w0)
    (h : ∀ v' w', w'.ownsRow base e size v' (n + 1) (xs ++ cs) → Below base W w' → Grew w0 w' v v' → wpList P ops Q rest (a.put o.dst v') w') :
    wpList P ops Q (o :: rest) a (w0.alloc (.cells cs.toArray e)) := by
  subst hbx
  refine wpList_append_own_at _ hgd s x t ho base e i z size bytes ht hi hz hsize hby hzs hpos v n xs hs (hown.alloc _) ⟨w0.heap.size, 0, none⟩ 1 c cs hx (by omega) ?_ hu h63 hbytes (by simp; omega) ?_
  · intro j y hj
    have hp : (⟨w0.heap.size, 0, none⟩ : Addr).add j = ⟨w0.heap.size, j, none⟩ := by unfold Addr.add; split <;> simp_all
    rw [hp]
    exact cell_new1 w0 _ _ j y (by simpa using hj)
  · intro v' w' ho' hg' _ hv'
    refine h v' w' ho' (below_own (hb.alloc hbase _) (by simp; omega) (hown.alloc _) hg') ⟨by have := hg'.size; simp at this; omega, fun k hk hS => (hg'.block k (by simp; omega) (fun e => hS e.symm)).trans (Below.heap_alloc _ _ _ hk), ?_⟩
    intro x hx
    rcases hv' with h | h
    · exact .inl (h ▸ hx)
    · rw [h] at hx; simp at hx; omega

/-- 'append(s, l...)', l a slice of one-cell elements that is read, onto a row of the call's own. -/
theorem appendRG {P : Program} {ops : Array Oper} {rest : List Oper} {o : Oper} {a : Act} {Q : Exit → Act → World → Prop} {W w0 : World} (hgd : o.guard = none) (s x : Operand) (t : TypeId)
    (ho : o.op = .call { callee := .builtin .append, args := #[s, x], argTypes := #[t, t] })
    (base : Nat) (e : TypeId) (i : TypeInfo) (z : Value) (bytes : Nat) (ht : P.underlying t = some (.slice e)) (hi : P.info? e = some i) (hz : i.zero = some z)
    (hsize : i.size = 1) (hby : i.bytes = bytes) (hzs : z.cells.size = 1)
    (v : Value) (n : Nat) (xs : List Value) (hs : a.eval s = v) (hown : w0.ownsRow base e 1 v n xs)
    (u : Value) (l : List Value) (hx : a.eval x = u) (hu : RG w0 u l) (one : ∀ y ∈ l, y.oneCell' = true)
    (h63 : n + l.length ≤ maxLen) (hbytes : (n + l.length) * bytes ≤ 140737488355328) (hbase : base ≤ w0.heap.size) (hb : Below base W w0)
    (h : ∀ v' w', w'.ownsRow base e 1 v' (n + l.length) (xs ++ l) → Below base W w' → wpList P ops Q rest (a.put o.dst v') w') :
    wpList P ops Q (o :: rest) a w0 := by
  have fin : ∀ v' w', w'.ownsRow base e 1 v' (n + l.length) (xs ++ l) → w0.grownBy w' v.ownBlock → wpList P ops Q rest (a.put o.dst v') w' :=
    fun v' w' ho' hg' => h v' w' ho' (below_own hb hbase hown hg')
  rcases hu with ⟨rfl, ad, cap, rfl, hn⟩ | ⟨b, off, cap, rfl, hcap, hlt, hc⟩
  · rcases ad with _ | ad
    · obtain rfl := hn rfl
      refine wpList_append_own_none hgd s x t ho base e i 1 ht hi v n xs hs hown hx ?_
      exact fin v w0 (by simpa using hown) (World.grownBy.refl w0 _)
    · refine wpList_append_own _ hgd s x t ho base e i z 1 bytes ht hi hz hsize hby hzs (by decide) v n xs hs hown ad 0 cap [] hx rfl (by intro j y hj; simp at hj) (by intro y hy; simp at hy) (by simpa using h63) (by simpa using hbytes) hbase ?_
      intro v' w' ho' hg' _
      exact fin v' w' (by simpa using ho') hg'
  · refine wpList_append_own _ hgd s x t ho base e i z 1 bytes ht hi hz hsize hby hzs (by decide) v n xs hs hown ⟨b, off, none⟩ l.length cap l hx (by simp) ?_ one h63 hbytes hbase ?_
    · intro j y hj
      have hjl : j < l.length := by
        rcases Nat.lt_or_ge j l.length with h | h
        · exact h
        · rw [List.getElem?_eq_none h] at hj; cases hj
      have hp : (⟨b, off, none⟩ : Addr).add j = ⟨b, off + j, none⟩ := by unfold Addr.add; split <;> simp_all
      rw [hp, hc j hjl, List.getD, hj]
      rfl
    · intro v' w' ho' hg' _
      exact fin v' w' ho' hg'

/-- A slice of strings. -/
def RS (w : World) (v : Value) (l : List (List UInt8)) : Prop := RG w v (l.map str)
theorem RS_nil (w : World) : RS w (.slice none 0 0) [] := RG_nil w
theorem RS.below {w w' : World} {v : Value} {l : List (List UInt8)} (h : RS w v l) (hb : Below w.heap.size w w') : RS w' v l := RG.below h hb
theorem RS_own {w : World} {B : Nat} {e : TypeId} {v : Value} {n : Nat} {l : List (List UInt8)} (h : w.ownsRow B e 1 v n (l.map str)) : RS w v l ∧ l.length = n := by
  have := RG_own h
  exact ⟨this.1, by simpa using this.2⟩
theorem RS.out {w : World} {v : Value} {l : List (List UInt8)} (h : RS w v l) : ∃ p cap, v = .slice p l.length cap ∧ ∀ i, i < l.length → ∃ b off, p = some ⟨b, off, none⟩ ∧ b < w.heap.size ∧ w.cell? ⟨b, off + i, none⟩ = some (str (l.getD i [])) := by
  obtain ⟨p, c, hv, hr⟩ := RG.out h
  simp only [List.length_map] at hv hr
  refine ⟨p, c, hv, fun i hi => ?_⟩
  obtain ⟨b, off, hp, _, hb, hc⟩ := hr (by omega)
  refine ⟨b, off, hp, hb, ?_⟩
  rw [hc i hi]
  simp [List.getD, hi]
theorem str_one (l : List (List UInt8)) : ∀ y ∈ l.map str, y.oneCell' = true := by
  intro y hy
  obtain ⟨q, _, rfl⟩ := List.mem_map.1 hy
  rfl

theorem sz (l : List UInt8) : (⟨l.toArray⟩ : ByteArray).size = l.length := by simp [ByteArray.size]
theorem str_inj {a b : List UInt8} : ((⟨a.toArray⟩ : ByteArray) = ⟨b.toArray⟩) ↔ a = b := by
  constructor
  · intro h
    have := congrArg (fun x => x.data.toList) h
    simpa using this
  · rintro rfl; rfl
theorem of_str (s : ByteArray) : s = ⟨s.data.toList.toArray⟩ := by cases s; simp
end Go.Proofs.YtmfmmopnapchjaaDoor
