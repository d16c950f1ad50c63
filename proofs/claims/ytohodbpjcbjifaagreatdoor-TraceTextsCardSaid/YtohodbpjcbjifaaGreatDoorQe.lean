/- Queues of marks: the state of a queue; List; a copy of rows of marks. -/
import Derived.Test.YtohodbpjcbjifaaGreatDoorQd
import Derived.Laws.CopyRow
import Derived.Laws.MakeOwn
namespace Go.Proofs.YtohodbpjcbjifaaGreatDoor
open Go Go.RowKit Go.ChangeShapes Go.WideShapes
set_option linter.unusedVariables false
set_option maxRecDepth 100000
set_option maxHeartbeats 800000

/-- A queue that lies at b holds these marks; its ring lies in gs. -/
def QS (w : World) (b : Nat) (gs : List Nat) (lim : Nat) (l : List Mk) : Prop :=
  (gs = [] ∧ l = [] ∧ Q4 w b (.slice none 0 0) 0 0 lim) ∨
  ∃ g R c f ms, gs = [g] ∧ g ≠ b ∧ Q4 w b (.slice (some ⟨g, 0, none⟩) R c) (f : Nat) (l.length : Nat) lim ∧ 0 < R ∧ R ≤ c ∧ f < R ∧ l.length ≤ R ∧ R ≤ lim ∧ Ring w g R ms ∧ l = ringList ms f R l.length

theorem QS.q4 {w : World} {b : Nat} {gs : List Nat} {lim : Nat} {l : List Mk} (h : QS w b gs lim l) : ∃ rv f, Q4 w b rv f (l.length : Nat) lim := by
  rcases h with ⟨_, rfl, h⟩ | ⟨g, R, c, f, ms, _, _, h, _⟩
  · exact ⟨_, _, h⟩
  · exact ⟨_, _, h⟩
theorem QS.of_block {w w' : World} {b : Nat} {gs : List Nat} {lim : Nat} {l : List Mk} (h : QS w b gs lim l) (hs : w.heap.size ≤ w'.heap.size) (e : ∀ k, (k = b ∨ k ∈ gs) → w'.heap[k]? = w.heap[k]?) : QS w' b gs lim l := by
  rcases h with ⟨h1, h2, h⟩ | ⟨g, R, c, f, ms, rfl, h2, h, h3, h4, h5, h6, h7, h8, h9⟩
  · exact .inl ⟨h1, h2, h.of_block hs (e b (.inl rfl))⟩
  · exact .inr ⟨g, R, c, f, ms, rfl, h2, h.of_block hs (e b (.inl rfl)), h3, h4, h5, h6, h7, h8.of_block hs (e g (.inr (by simp))), h9⟩
theorem QS.lt {w : World} {b : Nat} {gs : List Nat} {lim : Nat} {l : List Mk} (h : QS w b gs lim l) : ∀ k, (k = b ∨ k ∈ gs) → k < w.heap.size := by
  rcases h with ⟨rfl, _, h⟩ | ⟨g, R, c, f, ms, rfl, h2, h, h3, h4, h5, h6, h7, h8, h9⟩
  · rintro k (rfl | h'); exact h.lt; cases h'
  · rintro k (rfl | h')
    · exact h.lt
    · simp at h'; subst h'; exact h8.lt

theorem list_none (W : World) (b : Nat) (f l : Int) (h : Q4 W b (.slice none 0 0) f 0 l) :
    Calls Tryz.prog 55 #[.pointer (some ⟨b, 0, none⟩)] W fun e w' => e = .returned (.slice none 0 0) ∧ W = w' := by
  have LN := Lib.hid (len_t W b _ _ _ _ h)
  clear h
  go_enter Tryz.func55, Tryz.ntmps55
  go_wp2_with fail
  refine LN.out.mono ?_
  rintro e w' ⟨rfl, rfl⟩
  go_wp2_with fail
  go_loop [3, 7] (fun v i => i = .int .i64 0 ∧ v = .slice none 0 0) (fun _ i => 0)
  case atStart => exact ⟨rfl, rfl⟩
  case round =>
    obtain ⟨rfl, rfl⟩ := hrel
    go_wp2
    go_ret
    exact ⟨rfl, rfl⟩

theorem list_q (W : World) (b : Nat) (gs : List Nat) (lim : Nat) (l : List Mk) (h : QS W b gs lim l) (hl : lim ≤ 4096) :
    Calls Tryz.prog 55 #[.pointer (some ⟨b, 0, none⟩)] W fun e w' => ∃ v, e = .returned v ∧ w'.ownsRow W.heap.size 24 5 v l.length (flat l) ∧ Below W.heap.size W w' := by
  rcases h with ⟨_, rfl, h⟩ | ⟨g, R, c, f, ms, _, h2, h, h3, h4, h5, h6, h7, h8, h9⟩
  · refine (list_none W b _ _ h).mono ?_
    rintro e w' ⟨rfl, rfl⟩
    exact ⟨_, rfl, World.ownsRow_nil _ _ _ _, Below.refl _ _⟩
  · have := list_t W b g R c f l.length lim ms h h3 (by omega) h4 h5 h6 h8
    rwa [← h9] at this

/-- 'copy' of marks onto a row of the call's own, from its start on. -/
theorem run_copy5 {P : Program} (w : World) (dT sT ty elem : TypeId) (g dLen dCap : Nat) (a : Addr) (sLen sCap : Nat) (cur : Array Value) (t : TypeId) (cs : List Value)
    (hu : P.underlying dT = some (.slice elem)) (hs : (P.info? elem).map (·.size) = some 5)
    (hg : w.heap[g]? = some (.cells cur t (0, 0))) (hn : cs.length = Nat.min sLen dLen * 5)
    (hsrc : ∀ j v, cs[j]? = some v → w.cell? (a.add j) = some v) (hfit : cs.length ≤ cur.size) (h1 : ∀ v ∈ cs, v.oneCell' = true) :
    (Builtin.copy_ #[dT, sT] ty #[.slice (some ⟨g, 0, none⟩) dLen dCap, .slice (some a) sLen sCap]).run P w =
      .ok (goInt (Nat.min sLen dLen)) (w.setRow g (cs ++ cur.toList.drop cs.length).toArray) := by
  have hl := run_loadCells_list (P := P) w a cs hsrc
  have hst := run_storeCells_at P g 0 t cs 0 cur w hg (by simpa using hfit) h1
  cases hq : P.info? elem with
  | none => simp [hq] at hs
  | some i =>
    have hi : i.size = 5 := by simpa [hq] using hs
    simp [Builtin.copy_, run_underlying hu, Builtin.lenOf, Builtin.firstCells, sizeOf, typeInfo, hq, hi, ← hn, hl, hst]
theorem run_copy5_none {P : Program} (w : World) (dT sT ty elem : TypeId) (d : Addr) (dLen dCap sCap : Nat) (hu : P.underlying dT = some (.slice elem)) (hs : (P.info? elem).map (·.size) = some 5) :
    (Builtin.copy_ #[dT, sT] ty #[.slice (some d) dLen dCap, .slice none 0 sCap]).run P w = .ok (goInt 0) w := by
  cases hq : P.info? elem with
  | none => simp [hq] at hs
  | some i =>
    simp [Builtin.copy_, run_underlying hu, Builtin.lenOf, Builtin.firstCells, sizeOf, typeInfo, hq, storeCells]
/-- Noughts, and marks laid over the first of them: what the five cells at each place hold. -/
theorem zeros5 (n : Nat) : (madeCells Mk.zero.val.cells (n * 5)).toList = flat (List.replicate n Mk.zero) := by
  apply List.ext_getElem?
  intro i
  by_cases h : i < n * 5
  · have hd : i / 5 < n := by omega
    have hm : i % 5 < 5 := Nat.mod_lt _ (by decide)
    have hg := flat_get (List.replicate n Mk.zero) (i / 5) (i % 5) (by simpa using hd) hm
    rw [show i / 5 * 5 + i % 5 = i by omega] at hg
    rw [hg]
    have e1 : (List.replicate n Mk.zero).getD (i / 5) default = Mk.zero := by simp [List.getD, hd]
    rw [e1]
    simp only [madeCells, Array.toList_map, List.getElem?_map, Array.toList_range]
    rw [List.getElem?_range h]
    simp only [Option.map_some]
    have : i % 5 = 0 ∨ i % 5 = 1 ∨ i % 5 = 2 ∨ i % 5 = 3 ∨ i % 5 = 4 := by omega
    have hz : Mk.zero.val.cells.size = 5 := rfl
    rw [hz]
    rcases this with h | h | h | h | h <;> rw [h] <;> rfl
  · rw [List.getElem?_eq_none (by simp [size_madeCells]; omega), List.getElem?_eq_none (by rw [flat_length]; simp; omega)]
/-- A ring that was laid anew. -/
theorem Ring_of_row {w : World} {g R : Nat} {t : TypeId} {l : List Mk} (h : w.heap[g]? = some (.cells (flat l).toArray t (0, 0))) (hl : l.length = R) : Ring w g R (fun j => l.getD j default) := by
  refine ⟨(Array.getElem?_eq_some_iff.1 h).1, fun o => by simp [World.frozen?, h], fun j hj => ?_⟩
  have one : ∀ c v, c < 5 → (l.getD j default).cells[c]? = some v → w.cell? ⟨g, j * 5 + c, none⟩ = some v := by
    intro c v hc hv
    have := flat_get l j c (by omega) hc
    rw [hv] at this
    simp only [World.cell?, h]
    simpa using this
  exact ⟨one 0 _ (by decide) rfl, one 1 _ (by decide) rfl, one 2 _ (by decide) rfl, one 3 _ (by decide) rfl, one 4 _ (by decide) rfl⟩
theorem flat_app (a b : List Mk) : flat (a ++ b) = flat a ++ flat b := by simp [flat]
theorem flat_drop (l : List Mk) (n : Nat) : (flat l).drop (n * 5) = flat (l.drop n) := by
  induction n generalizing l with
  | zero => simp
  | succ n ih =>
    cases l with
    | nil => simp [flat]
    | cons a l =>
      have e : flat (a :: l) = a.cells ++ flat l := rfl
      rw [e, show (n + 1) * 5 = a.cells.length + n * 5 by simp [Mk.cells]; omega, List.drop_append, Nat.add_sub_cancel_left, ih, List.drop_eq_nil_of_le (by omega)]
      simp

/-- .. for the walk. -/
theorem wpList_copied {P : Program} {w : World} {ops : Array Oper} {rest : List Oper} {o : Oper} {a : Act} {Q : Exit → Act → World → Prop} (hgd : o.guard = none) (d s : Operand) (t t' : TypeId)
    (ho : o.op = .call { callee := .builtin .copy, args := #[d, s], argTypes := #[t, t'] }) (v u : Value) (hd : a.eval d = v) (hs : a.eval s = u) {v' : Value} {w' : World}
    (hr : (Builtin.copy_ #[t, t'] o.type #[v, u]).run P w = .ok v' w') (h : wpList P ops Q rest (a.put o.dst v') w') : wpList P ops Q (o :: rest) a w := by
  refine wpList_plain hgd fun K hK => ?_
  unfold Oper.wp
  simp [execOp, ho, resolve, invoke, builtin, hd, hs, hr, Result.andThen]
  exact hK _ _ h

theorem copy_marks {P : Program} (w : World) (T ty : TypeId) (g R B : Nat) (v : Value) (l : List Mk) (hu : P.underlying T = some (.slice 24)) (hs : (P.info? 24).map (·.size) = some 5)
    (hown : w.ownsRow B 24 5 v l.length (flat l)) (hg : w.heap[g]? = some (.cells (flat (List.replicate R Mk.zero)).toArray 24 (0, 0))) (hl : l.length ≤ R) :
    ∃ k w', (Builtin.copy_ #[T, T] ty #[.slice (some ⟨g, 0, none⟩) R R, v]).run P w = .ok (goInt k) w' ∧ w'.heap[g]? = some (.cells (flat (l ++ List.replicate (R - l.length) Mk.zero)).toArray 24 (0, 0)) ∧ Ch (fun k => k = g) w w' := by
  have fl := flat_length l
  rcases hown.2 with ⟨rfl, h0⟩ | ⟨b, cap, cur, rfl, hb, hh, hn, hc, hsz, ht⟩
  · obtain rfl := List.eq_nil_of_length_eq_zero h0
    exact ⟨0, w, run_copy5_none w T T ty _ _ R R 0 hu hs, by simpa using hg, Ch.refl _ _⟩
  · refine ⟨_, _, run_copy5 w T T ty _ g R R ⟨b, 0, none⟩ l.length cap _ _ (flat l) hu hs hg ?_ ?_ ?_ ?_, ?_, ?_⟩
    · rw [fl, show Nat.min l.length R = l.length from Nat.min_eq_left hl]
    · intro j u hj
      have hp : (⟨b, 0, none⟩ : Addr).add j = ⟨b, j, none⟩ := by unfold Addr.add; split <;> simp_all
      have hjl : j < l.length * 5 := by
        rcases Nat.lt_or_ge j (flat l).length with h | h
        · omega
        · rw [List.getElem?_eq_none h] at hj; cases hj
      rw [hp]
      simp only [World.cell?, hh]
      rw [← ht, List.getElem?_take, if_pos hjl] at hj
      simpa using hj
    · rw [fl]; simp [flat_length]; omega
    · intro u hu
      obtain ⟨m, _, hm⟩ := List.mem_flatMap.1 hu
      exact cells_one m u hm
    · rw [setRow_heap w g _ _ _ _ hg]
      congr 3
      rw [flat_app]
      congr 1
      simp only []
      rw [fl, flat_drop, List.drop_replicate]
    · exact ⟨rfl, rfl, rfl, by simp [World.setRow], fun k hk hS => setRow_other w g k _ (by simpa using hS)⟩
end Go.Proofs.YtohodbpjcbjifaaGreatDoor
