/- Marks and slices of marks, as they lie in memory; whether two such slices are the same. -/
import Derived.Test.YtohodbpjcbjifaaDoorOwn
import Derived.Test.YtohodbpjcbjifaaDoorProg
import Derived.ProofKit
import Derived.BigQuiet
import Derived.Lib.Hide
import Derived.Laws.StructEq
namespace Go.Proofs.YtohodbpjcbjifaaDoor
open Go Go.RowKit Go.ChangeShapes Go.WideShapes
set_option linter.unusedVariables false
set_option maxRecDepth 100000

/-- A mark: its five numbers. -/
structure Mk where
  t : Int
  k : Int
  h : Int
  j : Int
  n : Int
deriving DecidableEq, Inhabited

def Mk.val (m : Mk) : Value := .agg #[.int .i64 m.t, .int .i64 m.k, .int .i64 m.h, .int .i64 m.j, .int .i64 m.n]
def Mk.cells (m : Mk) : List Value := [.int .i64 m.t, .int .i64 m.k, .int .i64 m.h, .int .i64 m.j, .int .i64 m.n]
theorem Mk.val_inj {a b : Mk} (h : a.val = b.val) : a = b := by
  cases a; cases b; simp [Mk.val] at h; simp [h]

/-- Five cells hold a mark. -/
structure At5 (w : World) (b o : Nat) (m : Mk) : Prop where
  c0 : w.cell? ⟨b, o, none⟩ = some (.int .i64 m.t)
  c1 : w.cell? ⟨b, o + 1, none⟩ = some (.int .i64 m.k)
  c2 : w.cell? ⟨b, o + 2, none⟩ = some (.int .i64 m.h)
  c3 : w.cell? ⟨b, o + 3, none⟩ = some (.int .i64 m.j)
  c4 : w.cell? ⟨b, o + 4, none⟩ = some (.int .i64 m.n)

theorem At5.of_block {w w' : World} {b o : Nat} {m : Mk} (h : At5 w b o m) (e : w'.heap[b]? = w.heap[b]?) : At5 w' b o m :=
  ⟨(World.cell?_of_block (w := w) (a := ⟨b, o, none⟩) e).trans h.c0, (World.cell?_of_block (w := w) (a := ⟨b, o + 1, none⟩) e).trans h.c1, (World.cell?_of_block (w := w) (a := ⟨b, o + 2, none⟩) e).trans h.c2, (World.cell?_of_block (w := w) (a := ⟨b, o + 3, none⟩) e).trans h.c3, (World.cell?_of_block (w := w) (a := ⟨b, o + 4, none⟩) e).trans h.c4⟩

/-- A slice value that reads as a list of marks. -/
def RM (w : World) (v : Value) (l : List Mk) : Prop :=
  (l = [] ∧ ∃ a cap, v = .slice a 0 cap ∧ (a = none → cap = 0)) ∨
  ∃ b off cap, v = .slice (some ⟨b, off, none⟩) l.length cap ∧ l.length ≤ cap ∧ b < w.heap.size ∧ ∀ i, i < l.length → At5 w b (off + i * 5) (l.getD i default)

theorem RM_nil (w : World) : RM w (.slice none 0 0) [] := .inl ⟨rfl, none, 0, rfl, fun _ => rfl⟩

theorem RM.out {w : World} {v : Value} {l : List Mk} (h : RM w v l) : ∃ p cap, v = .slice p l.length cap ∧ (0 < l.length → ∃ b off, p = some ⟨b, off, none⟩ ∧ l.length ≤ cap ∧ b < w.heap.size ∧ ∀ i, i < l.length → At5 w b (off + i * 5) (l.getD i default)) := by
  rcases h with ⟨rfl, a, cap, rfl, _⟩ | ⟨b, off, cap, rfl, hcap, hb, hc⟩
  · exact ⟨a, cap, rfl, fun h => by simp at h⟩
  · exact ⟨_, cap, rfl, fun _ => ⟨b, off, rfl, hcap, hb, hc⟩⟩
theorem RM.of_block {w w' : World} {v : Value} {l : List Mk} (h : RM w v l) (hs : w.heap.size ≤ w'.heap.size) (e : ∀ k, v.ownBlock = some k → w'.heap[k]? = w.heap[k]?) : RM w' v l := by
  rcases h with h | ⟨b, off, cap, rfl, hcap, hb, hc⟩
  · exact .inl h
  · exact .inr ⟨b, off, cap, rfl, hcap, by omega, fun i hi => (hc i hi).of_block (e b rfl)⟩
theorem RM.below {w w' : World} {v : Value} {l : List Mk} (h : RM w v l) (hb : Below w.heap.size w w') : RM w' v l := by
  rcases h with h | ⟨b, off, cap, rfl, hcap, hlt, hc⟩
  · exact .inl h
  · exact .inr ⟨b, off, cap, rfl, hcap, Nat.lt_of_lt_of_le hlt hb.size, fun i hi => (hc i hi).of_block (hb.block b hlt)⟩

/-- A mark held against a mark. -/
theorem mk_neq (a b : Mk) (w : World) : (binOp .neq 42 (.agg #[.int .i64 a.t, .int .i64 a.k, .int .i64 a.h, .int .i64 a.j, .int .i64 a.n]) (.agg #[.int .i64 b.t, .int .i64 b.k, .int .i64 b.h, .int .i64 b.j, .int .i64 b.n])).run Tryd.prog w = .ok (.bool (!decide (a = b))) w := by
  have e : (decide (a = b)) = (a.t == b.t && (a.k == b.k && (a.h == b.h && (a.j == b.j && a.n == b.n)))) := by
    cases a; cases b; simp
    rw [Bool.eq_iff_iff]; simp
  have p1 : Tryd.prog.stoodInHeld 42 = false := by kernel_rfl
  have p2 : Tryd.prog.underlying 42 = some (.struct (Tryd.prog.fieldsOf 42)) := rfl
  rw [e, run_neq_struct, run_equalIn_struct w 9999 _ _ _ p2 p1]
  simp [go_sem, Tryd.underlying42, Tryd.underlying3, Tryd.underlying40]
  by_cases h0 : a.t = b.t <;> simp [h0]
  by_cases h1 : a.k = b.k <;> simp [h1]
  by_cases h2 : a.h = b.h <;> simp [h2]
  by_cases h3 : a.j = b.j <;> simp [h3]
  by_cases h4 : a.n = b.n <;> simp [h4]

theorem same_no (na nb : Nat) (p q : Option Addr) (c d : Nat) (W : World) (h : na ≠ nb) :
    Calls Tryd.prog 11 #[.slice p na c, .slice q nb d] W fun e w' => e = .returned (.bool false) ∧ W = w' := by
  have h' : ((na : Int) != (nb : Int)) = true := by simp; omega
  clear h
  go_enter Tryd.func11, Tryd.ntmps11
  go_wp2
  go_ret
  exact ⟨rfl, rfl⟩

theorem same_nil (p q : Option Addr) (c d : Nat) (W : World) :
    Calls Tryd.prog 11 #[.slice p 0 c, .slice q 0 d] W fun e w' => e = .returned (.bool true) ∧ W = w' := by
  go_enter Tryd.func11, Tryd.ntmps11
  go_wp2
  go_loop [5] (fun i => i = .int .i64 0) (fun i => 0)
  case atStart => rfl
  case round =>
    obtain rfl := hrel
    go_wp2
    go_ret
    exact ⟨rfl, rfl⟩

/-- Nothing has turned but the tape of draws. -/
def Qt (W w : World) : Prop := ∃ m, w = W.drewN m
theorem Qt.refl (W : World) : Qt W W := ⟨0, rfl⟩
theorem Qt.below {W w : World} {B : Nat} (h : Qt W w) : Below B W w := by
  obtain ⟨m, rfl⟩ := h
  exact ⟨rfl, rfl, rfl, Nat.le_refl _, fun _ _ => rfl⟩
theorem Qt.drew {W w : World} (h : Qt W w) (n : Nat) : Qt W (w.drewN n) := by
  obtain ⟨m, rfl⟩ := h
  exact ⟨m + n, World.drewN_drewN _ _ _⟩

theorem same_row (l r : List Mk) (b o c d q e : Nat) (W : World) (hl : ∀ i, i < l.length → At5 W b (o + i * 5) (l.getD i default)) (hr : ∀ i, i < l.length → At5 W d (q + i * 5) (r.getD i default)) (he : r.length = l.length) (hlen : l.length ≤ 9000000000000000000) (hc : l.length ≤ c) (hd : l.length ≤ e) :
    Calls Tryd.prog 11 #[.slice (some ⟨b, o, none⟩) l.length c, .slice (some ⟨d, q, none⟩) l.length e] W fun e w' => e = .returned (.bool (decide (l = r))) ∧ Qt W w' := by
  have LL := Lib.hid hl
  have RR := Lib.hid hr
  have HE := Lib.hid he
  clear hl hr he
  go_enter Tryd.func11, Tryd.ntmps11
  go_wp2
  go_loopw [5] (fun i wr => ∃ k : Nat, k ≤ l.length ∧ i = .int .i64 k ∧ Hid (∀ j, j < k → l.getD j default = r.getD j default) ∧ Qt W wr) (fun i _ => l.length - (intOf i).toNat)
  case atStart => exact ⟨0, by omega, by go_num, Lib.hid (fun j hj => by omega), Qt.refl _⟩
  case round =>
    obtain ⟨k, hk, rfl, hh, nq, rfl⟩ := hrel
    by_cases hlt : k < l.length
    · obtain ⟨a0, a1, a2, a3, a4⟩ := LL.out k hlt
      obtain ⟨b0, b1, b2, b3, b4⟩ := RR.out k hlt
      have e1 : ((k : Int)) < (l.length : Int) := by omega
      obtain ⟨x, hx⟩ : ∃ m, m = l.getD k default := ⟨_, rfl⟩
      obtain ⟨y, hy⟩ : ∃ m, m = r.getD k default := ⟨_, rfl⟩
      rw [← hx] at a0 a1 a2 a3 a4
      rw [← hy] at b0 b1 b2 b3 b4
      have HX := Lib.hid hx
      have HY := Lib.hid hy
      clear hx hy
      have hq := mk_neq x y
      by_cases hxy : x = y
      · have hd : decide (x = y) = true := by simpa using hxy
        simp only [hd, Bool.not_true] at hq
        have HD := Lib.hid hxy
        clear hd hxy
        go_wp2
        go_quiet (fail)
        go_wp2
        go_roundw
        case rel => 
          refine ⟨k + 1, by omega, by go_num, Lib.hid (fun j hj => ?_), ⟨_, rfl⟩⟩
          rcases Nat.lt_or_ge j k with h | h
          · exact hh.out j h
          · obtain rfl : j = k := by omega
            rw [← HX.out, ← HY.out, HD.out]
        case measure => simp [intOf]; omega
      · have hd : decide (x = y) = false := by simpa using hxy
        simp only [hd, Bool.not_false] at hq
        have HD := Lib.hid hxy
        clear hd hxy
        have HL : Hid (l ≠ r) := Lib.hid (fun h => HD.out (by rw [HX.out, HY.out, h]))
        go_wp2
        go_quiet (fail)
        go_wp2
        go_ret
        exact ⟨by rw [decide_eq_false HL.out]; rfl, Qt.drew ⟨_, rfl⟩ _⟩
    · obtain rfl : k = l.length := by omega
      have HL : Hid (l = r) := Lib.hid (List.ext_getElem HE.out.symm (fun i h1 h2 => by have := hh.out i h1; simpa [List.getD, h1, h2] using this))
      go_wp2
      go_ret
      exact ⟨by rw [decide_eq_true HL.out]; rfl, ⟨_, rfl⟩⟩

/-- Whether two rows of marks are the same. -/
theorem same_s (l r : List Mk) (v u : Value) (W : World) (hv : RM W v l) (hu : RM W u r) (hlen : l.length ≤ 9000000000000000000) :
    Calls Tryd.prog 11 #[v, u] W fun e w' => e = .returned (.bool (decide (l = r))) ∧ Qt W w' := by
  obtain ⟨p, c, rfl, h1⟩ := hv.out
  obtain ⟨q, d, rfl, h2⟩ := hu.out
  by_cases he : r.length = l.length
  · by_cases h0 : l.length = 0
    · obtain rfl := List.eq_nil_of_length_eq_zero h0
      obtain rfl := List.eq_nil_of_length_eq_zero he
      exact (same_nil p q c d W).mono fun _ _ ⟨a, b⟩ => ⟨a, b ▸ Qt.refl _⟩
    · obtain ⟨b, o, rfl, hc, _, hl⟩ := h1 (by omega)
      obtain ⟨b', o', rfl, hc', _, hr⟩ := h2 (by omega)
      rw [he] at hr hc' ⊢
      exact same_row l r b o c b' o' d W hl hr he hlen hc hc'
  · exact (same_no _ _ p q c d W (fun h => he h.symm)).mono fun _ _ ⟨a, b⟩ => ⟨by rw [a, decide_eq_false (fun h => he (by rw [h]))], b ▸ Qt.refl _⟩
end Go.Proofs.YtohodbpjcbjifaaDoor
