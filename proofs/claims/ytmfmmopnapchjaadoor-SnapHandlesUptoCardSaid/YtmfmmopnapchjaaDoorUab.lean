/- Stores of several cells into a row of structs. -/
import Derived.Test.YtmfmmopnapchjaaDoorUaa
namespace Go.Proofs.YtmfmmopnapchjaaDoor
open Go Go.RowKit
set_option linter.unusedVariables false
set_option linter.unusedSimpArgs false

/-- Values laid into cells, one behind the other. -/
def putL (w : World) (b : Nat) : Nat → List Value → World
  | _, [] => w
  | o, v :: vs => putL (w.setCell ⟨b, o, none⟩ v) b (o + 1) vs
theorem putL_other {b m : Nat} (hm : m ≠ b) (vs : List Value) : ∀ (w : World) (o : Nat), (putL w b o vs).heap[m]? = w.heap[m]? := by
  induction vs with
  | nil => intro w o; rfl
  | cons v vs ih => intro w o; rw [putL, ih, kb_other hm]
theorem putL_size {b : Nat} (vs : List Value) : ∀ (w : World) (o : Nat), (putL w b o vs).heap.size = w.heap.size := by
  induction vs with
  | nil => intro w o; rfl
  | cons v vs ih => intro w o; rw [putL, ih]; simp [World.setCell]
theorem Ch.putL {S : Nat → Prop} {a : World} {b : Nat} (hp : S b ∨ a.heap.size ≤ b) (vs : List Value) : ∀ {w : World} (o : Nat), Ch S a w → Ch S a (putL w b o vs) := by
  induction vs with
  | nil => intro w o h; exact h
  | cons v vs ih => intro w o h; exact ih (o + 1) (h.set ⟨b, o, none⟩ hp v)
theorem Row.putL {b : Nat} {T : TypeId} {S N i : Nat} (hi : i < N) (vs : List Value) : ∀ {w : World} {f : Nat → List Value} (c : Nat), Row w b T S N f → c + vs.length ≤ S →
    Row (putL w b (i * S + c) vs) b T S N (upd f i ((f i).take c ++ vs ++ (f i).drop (c + vs.length))) := by
  induction vs with
  | nil =>
    intro w f c h _
    refine Row.congr h fun j hj => ?_
    by_cases e : j = i
    · subst e; rw [upd_same]; simp
    · rw [upd_other _ _ e]
  | cons v vs ih =>
    intro w f c h hc
    simp only [List.length_cons] at hc ⊢
    have h1 := ih (c + 1) (h.set i c hi (by omega) v) (by omega)
    have hl := h.len i hi
    refine Row.congr (show Row (Go.Proofs.YtmfmmopnapchjaaDoor.putL w b (i * S + c) (v :: vs)) b T S N _ from h1) fun j hj => ?_
    by_cases e : j = i
    · subst e
      rw [upd_same, upd_same, upd_same]
      have e1 : ((f j).set c v).take (c + 1) = (f j).take c ++ [v] := by
        rw [List.take_add_one, List.take_set_of_le (Nat.le_refl _)]
        simp [List.getElem?_set, show c < (f j).length by omega]
      have e2 : ((f j).set c v).drop (c + 1 + vs.length) = (f j).drop (c + (vs.length + 1)) := by
        rw [List.drop_set_of_lt (by omega), show c + 1 + vs.length = c + (vs.length + 1) by omega]
      rw [e1, e2]
      simp
    · rw [upd_other _ _ e, upd_other _ _ e, upd_other _ _ e]
/-- A whole struct. -/
theorem Row.putAll {w : World} {b : Nat} {T : TypeId} {S N i : Nat} {f : Nat → List Value} (h : Row w b T S N f) (hi : i < N) (vs : List Value) (hl : vs.length = S) : Row (Go.Proofs.YtmfmmopnapchjaaDoor.putL w b (i * S) vs) b T S N (upd f i vs) := by
  have h1 := Row.putL hi vs 0 h (by omega)
  refine Row.congr h1 fun j hj => ?_
  by_cases e : j = i
  · subst e
    have := h.len j hi
    rw [upd_same, upd_same]
    simp [hl, this]
  · rw [upd_other _ _ e, upd_other _ _ e]
/-- A struct's end. -/
theorem Row.putFrom {w : World} {b : Nat} {T : TypeId} {S N i : Nat} {f : Nat → List Value} (h : Row w b T S N f) (hi : i < N) (c : Nat) (vs : List Value) (hl : c + vs.length = S) : Row (Go.Proofs.YtmfmmopnapchjaaDoor.putL w b (i * S + c) vs) b T S N (upd f i ((f i).take c ++ vs)) := by
  have h1 := Row.putL hi vs c h (by omega)
  refine Row.congr h1 fun j hj => ?_
  by_cases e : j = i
  · subst e
    have := h.len j hi
    rw [upd_same, upd_same]
    simp [hl, this]
  · rw [upd_other _ _ e, upd_other _ _ e]
theorem TabAt.ne {w : World} {b r : Nat} {TT TS : TypeId} {S N k : Nat} {f : Nat → List Value} (h : TabAt w b r TT TS S N k f) (hT : TT ≠ TS) : b ≠ r := by
  intro e
  subst e
  obtain ⟨arr, h1, _⟩ := h.row.blk
  have := h.tb.symm.trans h1
  injection this with this
  injection this with _ e2 _
  exact hT e2
theorem own_qt2 {w w' : World} {B : Nat} {e : TypeId} {s : Nat} {v : Value} {n : Nat} {l : List Value} (h : w.ownsRow B e s v n l) (q : Qt w w') : w'.ownsRow B e s v n l := by
  obtain ⟨n, rfl⟩ := q
  exact h
/-- The handles of the taken slots below a number. -/
def hnds (k : Nat) (g : Nat → Nat) (tk : Nat → Bool) (m : Nat) : List Value := ((List.range m).filter tk).map fun i => .int .i64 (hnd k i (g i))
theorem hnds_succ (k : Nat) (g : Nat → Nat) (tk : Nat → Bool) (m : Nat) : hnds k g tk (m + 1) = if tk m = true then hnds k g tk m ++ [.int .i64 (hnd k m (g m))] else hnds k g tk m := by
  unfold hnds
  rw [List.range_succ, List.filter_append, List.map_append]
  by_cases h : tk m = true <;> simp [h]
theorem hnds_length (k : Nat) (g : Nat → Nat) (tk : Nat → Bool) (m : Nat) : (hnds k g tk m).length ≤ m := by
  unfold hnds
  rw [List.length_map]
  exact Nat.le_trans (List.length_filter_le _ _) (by simp)
theorem Tryd.infoHandle : (Tryd.prog.info? 34).map (fun i => (i.zero, i.size, i.bytes)) = some (some (.int .i64 0), 1, 8) := by kernel_rfl
theorem putL_below {B b : Nat} (hb : B ≤ b) (vs : List Value) : ∀ {a w : World} (o : Nat), Below B a w → Below B a (putL w b o vs) := by
  induction vs with
  | nil => intro a w o h; exact h
  | cons v vs ih => intro a w o h; exact ih (o + 1) (h.setCell hb v)
end Go.Proofs.YtmfmmopnapchjaaDoor
