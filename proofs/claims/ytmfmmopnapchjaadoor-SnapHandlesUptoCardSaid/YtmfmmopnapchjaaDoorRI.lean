/- Slices of whole numbers that are read; over the seat's slice type of handles. -/
import Derived.Test.YtmfmmopnapchjaaDoorOwn
import Derived.Test.YtmfmmopnapchjaaDoorProg
import Derived.ProofKit
import Derived.OpenShut
import Derived.SizedLaws
import Derived.Laws.AppendOwnNone
namespace Go.Proofs.YtmfmmopnapchjaaDoor
open Go Go.RowKit Go.ChangeShapes Go.WideShapes
set_option linter.unusedVariables false

/-- A slice value that reads as a list of ints. -/
def RI (w : World) (v : Value) (l : List Int) : Prop :=
  (l = [] ∧ ∃ a cap, v = .slice a 0 cap ∧ (a = none → cap = 0)) ∨
  ∃ b off cap, v = .slice (some ⟨b, off, none⟩) l.length cap ∧ b < w.heap.size ∧ ∀ i, i < l.length → w.cell? ⟨b, off + i, none⟩ = some (.int .i64 (l.getD i 0))

theorem RI.below {w w' : World} {v : Value} {l : List Int} (h : RI w v l) (hb : Below w.heap.size w w') : RI w' v l := by
  rcases h with h | ⟨b, off, cap, e, hlt, hc⟩
  · exact .inl h
  · exact .inr ⟨b, off, cap, e, Nat.lt_of_lt_of_le hlt hb.size, fun i hi => (hb.cell (by exact hlt)).trans (hc i hi)⟩
theorem RI_nil (w : World) : RI w (.slice none 0 0) [] := .inl ⟨rfl, none, 0, rfl, fun _ => rfl⟩
theorem RI_new (w : World) (x : Int) (t : TypeId) (c : Nat) : RI (w.alloc (.cells #[.int .i64 x] t)) (.slice (some ⟨w.heap.size, 0, none⟩) 1 c) [x] := by
  refine .inr ⟨_, 0, c, rfl, by simp, ?_⟩
  intro i hi
  obtain rfl : i = 0 := by simp at hi; exact hi
  exact cell_one_new _ _ _ 0 _ rfl
/-- A row of the call's own reads as what it holds. -/
theorem RI_own {w : World} {B : Nat} {e : TypeId} {v : Value} {n : Nat} {l : List Int} (h : w.ownsRow B e 1 v n (l.map (Value.int .i64))) : RI w v l := by
  obtain ⟨hl, h⟩ := h
  have hl' : l.length = n := by simpa using hl
  rcases h with ⟨rfl, rfl⟩ | ⟨g, cap, cur, rfl, hg, hh, hn, hc, hs, ht⟩
  · obtain rfl : l = [] := List.eq_nil_of_length_eq_zero hl'
    exact RI_nil w
  · refine .inr ⟨g, 0, cap, by rw [hl'], ?_, fun i hi => ?_⟩
    · rcases Nat.lt_or_ge g w.heap.size with h | h
      · exact h
      · rw [Array.getElem?_eq_none h] at hh; cases hh
    · have e1 : cur.toList[i]? = (l.map (Value.int .i64))[i]? := by rw [← ht, List.getElem?_take, if_pos (by omega)]
      have e2 : (l.map (Value.int .i64))[i]? = some (.int .i64 (l.getD i 0)) := by
        rw [List.getElem?_map, List.getD, List.getElem?_eq_getElem (by omega)]; rfl
      simp only [World.cell?, hh]
      rw [e2] at e1
      simpa using e1

/-- 'append(s, l...)', l a slice of ints that is read, onto a row of the call's own. -/
theorem appendRI {P : Program} {ops : Array Oper} {rest : List Oper} {o : Oper} {a : Act} {Q : Exit → Act → World → Prop} {W w0 : World} (hgd : o.guard = none) (s x : Operand) (t : TypeId)
    (ho : o.op = .call { callee := .builtin .append, args := #[s, x], argTypes := #[t, t] })
    (base : Nat) (e : TypeId) (i : TypeInfo) (z : Value) (ht : P.underlying t = some (.slice e)) (hi : P.info? e = some i) (hz : i.zero = some z)
    (hsize : i.size = 1) (hby : i.bytes = 8) (hzs : z.cells.size = 1)
    (v : Value) (n : Nat) (xs : List Value) (hs : a.eval s = v) (hown : w0.ownsRow base e 1 v n xs)
    (u : Value) (l : List Int) (hx : a.eval x = u) (hu : RI w0 u l)
    (hbytes : (n + l.length) * 8 ≤ 140737488355328) (hbase : base ≤ w0.heap.size) (hb : Below base W w0)
    (h : ∀ v' w', w'.ownsRow base e 1 v' (n + l.length) (xs ++ l.map (Value.int .i64)) → Below base W w' → wpList P ops Q rest (a.put o.dst v') w') :
    wpList P ops Q (o :: rest) a w0 := by
  have one : ∀ y ∈ l.map (Value.int .i64), y.oneCell' = true := by
    intro y hy
    obtain ⟨q, _, rfl⟩ := List.mem_map.1 hy
    rfl
  have fin : ∀ v' w', w'.ownsRow base e 1 v' (n + l.length) (xs ++ l.map (Value.int .i64)) → w0.grownBy w' v.ownBlock → wpList P ops Q rest (a.put o.dst v') w' :=
    fun v' w' ho' hg' => h v' w' ho' (below_own hb hbase hown hg')
  rcases hu with ⟨rfl, ad, cap, rfl, hn⟩ | ⟨b, off, cap, rfl, hlt, hc⟩
  · rcases ad with _ | ad
    · obtain rfl := hn rfl
      refine wpList_append_own_none hgd s x t ho base e i 1 ht hi v n xs hs hown hx ?_
      have hown' : w0.ownsRow base e 1 v (n + ([] : List Int).length) (xs ++ ([] : List Int).map (Value.int .i64)) := by simpa using hown
      exact fin v w0 hown' (World.grownBy.refl w0 _)
    · refine wpList_append_own _ hgd s x t ho base e i z 1 8 ht hi hz hsize hby hzs (by decide) v n xs hs hown ad 0 cap [] hx rfl (by intro j y hj; simp at hj) (by intro y hy; simp at hy) (by unfold maxLen; simp at hbytes; omega) (by simpa using hbytes) hbase ?_
      intro v' w' ho' hg' _
      exact fin v' w' (by simpa using ho') hg'
  · refine wpList_append_own _ hgd s x t ho base e i z 1 8 ht hi hz hsize hby hzs (by decide) v n xs hs hown ⟨b, off, none⟩ l.length cap (l.map (Value.int .i64)) hx (by simp) ?_ one (by unfold maxLen; omega) hbytes hbase ?_
    · intro j y hj
      have hjl : j < l.length := by
        rcases Nat.lt_or_ge j l.length with h | h
        · exact h
        · rw [List.getElem?_eq_none (by simpa using h)] at hj; cases hj
      rw [List.getElem?_map, List.getElem?_eq_getElem hjl] at hj
      simp at hj
      subst hj
      have hp : (⟨b, off, none⟩ : Addr).add j = ⟨b, off + j, none⟩ := by unfold Addr.add; split <;> simp_all
      rw [hp, hc j hjl, List.getD, List.getElem?_eq_getElem hjl]
      rfl
    · intro v' w' ho' hg' _
      exact fin v' w' ho' hg'

/-- What an argument that is a slice of ints holds. -/
theorem ints_of_arg {H : Type} {enc : TypeId × Value → H} {P : Program} {W : World} {base : Nat} {sp : Nat → Bool} {held : Bool} {t e : TypeId} {a : Option Addr} {len cap : Nat} {d : DataW H} {p : List MemPlace}
    (ht : P.underlying t = some (.slice e)) (he : P.underlying e = some (.int .i64)) (hc : P.cellsOf e = 1) (h : DataW.Trod enc P W base sp held t (.slice a len cap) d p) :
    ∃ l : List Int, RI W (.slice a len cap) l ∧ ∀ x ∈ l, -9223372036854775808 ≤ x ∧ x ≤ 9223372036854775807 := by
  obtain ⟨fuel, hf⟩ := h
  rcases open_ints ht he hc hf with ⟨hcs, _⟩ | ⟨x, l, c, zs, hcs, _, hl, hm, hz, _, hcell, hwz⟩
  · simp [Value.cells] at hcs
    obtain ⟨rfl, rfl, rfl⟩ := hcs
    exact ⟨[], RI_nil W, by intro x hx; cases hx⟩
  · simp [Value.cells] at hcs
    obtain ⟨rfl, rfl, rfl⟩ := hcs
    have hzl : len ≤ zs.length := by rw [hz]; split <;> omega
    refine ⟨zs.take len, ?_, fun y hy => ?_⟩
    · rcases Nat.eq_zero_or_pos len with h0 | h0
      · subst h0; exact .inl ⟨by simp, _, _, rfl, fun h => by cases h⟩
      · obtain ⟨b, off, rfl, hcc⟩ := ints_at hcell (by omega)
        have hb0 := block_lt_of_cell (hcc 0 (by omega))
        refine .inr ⟨b, off, cap, by simp [List.length_take]; omega, hb0, fun i hi => ?_⟩
        have hi' : i < len := by simp at hi; omega
        rw [hcc i (by omega)]
        simp [List.getD, hi']
    · have := hwz y (List.mem_of_mem_take hy)
      simpa [Lit.wf, IntKind.min, IntKind.max, IntKind.bits, IntKind.signed] using this

/-- .. and that it is within the form's reach. -/
theorem ints_sized {H : Type} {enc : TypeId × Value → H} {P : Program} {W : World} {base : Nat} {sp : Nat → Bool} {held : Bool} {t e : TypeId} {a : Option Addr} {len cap : Nat} {d : DataW H} {p : List MemPlace} {ts : List TypeId} {ds : List (DataW H)} {j : Nat} {l : List Int}
    (hsz : (DataW.weightsEach P ts ds).all (· ≤ reachBytes) = true) (ht' : ts[j]? = some t) (hd : ds[j]? = some d)
    (ht : P.underlying t = some (.slice e)) (he : P.underlying e = some (.int .i64)) (hc : P.cellsOf e = 1) (h8 : P.bytesOf e = 8) (h : DataW.Trod enc P W base sp held t (.slice a len cap) d p) (hl' : RI W (.slice a len cap) l) : l.length * 8 ≤ 140737488351232 := by
  have hlen : l.length = len := by
    rcases hl' with ⟨rfl, _, _, e, _⟩ | ⟨_, _, _, e, _⟩ <;> injection e with _ e2 <;> simp [e2]
  rw [hlen]
  obtain ⟨fuel, hf⟩ := h
  rcases open_ints ht he hc hf with ⟨hcs, _⟩ | ⟨x, l, c, zs, hcs, _, hl, hm, hz, hx, hcell, hwz⟩
  · simp [Value.cells] at hcs
    obtain ⟨rfl, rfl, rfl⟩ := hcs
    simp
  · simp [Value.cells] at hcs
    obtain ⟨rfl, rfl, rfl⟩ := hcs
    obtain ⟨hx, _⟩ := Prod.mk.inj hx
    subst hx
    have z := sized_slice hsz ht' hd ht
    rw [h8] at z
    have hl2 : len ≤ zs.length := by rw [hz]; split <;> omega
    have h1 : (lits (H := H) .i64 (zs.take len)).length + (lits (H := H) .i64 (zs.drop len)).length = zs.length := by
      simp [lits]; omega
    rw [h1] at z
    have e3 : reachBytes = 140737488351232 := rfl
    omega
end Go.Proofs.YtmfmmopnapchjaaDoor
