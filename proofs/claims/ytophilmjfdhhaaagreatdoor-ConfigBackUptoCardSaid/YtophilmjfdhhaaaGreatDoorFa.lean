/- Trees of layer 25: items, as plain data and as they lie in memory; depth. -/
import Derived.Test.YtophilmjfdhhaaaGreatDoorSa
import Derived.Test.YtophilmjfdhhaaaGreatDoorRI
import Derived.Test.YtophilmjfdhhaaaGreatDoorEnv
import Derived.Test.YtophilmjfdhhaaaGreatDoorBa
import Derived.BigQuiet
import Derived.Outline
import Derived.Deep.DeepCutAuto
import Derived.Laws.ResultCell
import Derived.Lib.QuietBelow
import Derived.IntWalk
namespace Go.Proofs.YtophilmjfdhhaaaGreatDoor
open Go Go.RowKit Go.Shelf Go.Sort
set_option linter.unusedVariables false
set_option linter.unusedSimpArgs false
set_option maxRecDepth 100000
set_option maxHeartbeats 1600000

/-- An item: its name, its parent's place, its reserve, its priorities. -/
structure It where
  nm : List UInt8
  par : Int
  q : Int
  p : Int
  pr : List Int
deriving DecidableEq, Inhabited
structure Tr where
  items : List It
  slack : List Int
deriving DecidableEq, Inhabited
/-- Parents stand ahead. -/
def Wl (l : List It) : Prop := ∀ j, j < l.length → -1 ≤ (l.getD j default).par ∧ (l.getD j default).par < j
def parOf (l : List It) (i : Int) : Int := (l.getD i.toNat default).par
def depF (l : List It) : Nat → Int → Nat
  | 0, _ => 0
  | f + 1, i => if i < 0 then 0 else depF l f (parOf l i) + 1
def depS (l : List It) (i : Int) : Nat := depF l (i.toNat + 1) i
theorem depF_more {l : List It} (h : Wl l) : ∀ (f : Nat) (i : Int), i < l.length → i.toNat + 1 ≤ f → depF l f i = depS l i := by
  have key : ∀ (n : Nat) (i : Int), i.toNat ≤ n → i < l.length → ∀ f g, i.toNat + 1 ≤ f → i.toNat + 1 ≤ g → depF l f i = depF l g i := by
    intro n
    induction n with
    | zero =>
      intro i hn hi f g hf hg
      obtain ⟨f, rfl⟩ : ∃ m, f = m + 1 := ⟨f - 1, by omega⟩
      obtain ⟨g, rfl⟩ : ∃ m, g = m + 1 := ⟨g - 1, by omega⟩
      unfold depF
      by_cases h0 : i < 0
      · rw [if_pos h0, if_pos h0]
      · rw [if_neg h0, if_neg h0]
        have hi0 : i = 0 := by omega
        subst hi0
        have hp := h 0 (by omega)
        have : parOf l 0 < 0 := hp.2
        have e : ∀ k, depF l k (parOf l 0) = 0 := by
          intro k; cases k with
          | zero => rfl
          | succ k => rw [depF, if_pos this]
        rw [e, e]
    | succ n ih =>
      intro i hn hi f g hf hg
      obtain ⟨f, rfl⟩ : ∃ m, f = m + 1 := ⟨f - 1, by omega⟩
      obtain ⟨g, rfl⟩ : ∃ m, g = m + 1 := ⟨g - 1, by omega⟩
      unfold depF
      by_cases h0 : i < 0
      · rw [if_pos h0, if_pos h0]
      · rw [if_neg h0, if_neg h0]
        have hp := h i.toNat (by omega)
        have hpp : parOf l i = (l.getD i.toNat default).par := rfl
        by_cases hm : parOf l i < 0
        · have e : ∀ k, depF l k (parOf l i) = 0 := by
            intro k; cases k with
            | zero => rfl
            | succ k => rw [depF, if_pos hm]
          rw [e, e]
        · rw [ih (parOf l i) (by omega) (by omega) f g (by omega) (by omega)]
  intro f i hi hf
  exact key i.toNat i (Nat.le_refl _) hi f _ hf (Nat.le_refl _)
theorem depS_neg (l : List It) {i : Int} (h : i < 0) : depS l i = 0 := by unfold depS; rw [depF, if_pos h]
theorem par_bounds {l : List It} (h : Wl l) {i : Int} (h0 : 0 ≤ i) (hi : i < l.length) : -1 ≤ parOf l i ∧ parOf l i < i := by
  have := h i.toNat (by omega)
  unfold parOf
  omega
theorem depS_step {l : List It} (h : Wl l) {i : Int} (h0 : 0 ≤ i) (hi : i < l.length) : depS l i = depS l (parOf l i) + 1 := by
  have hp := par_bounds h h0 hi
  have e : depS l i = depF l i.toNat (parOf l i) + 1 := by unfold depS; rw [depF, if_neg (by omega)]
  rw [e]
  by_cases hn : parOf l i < 0
  · rw [depS_neg l hn]
    congr 1
    cases i.toNat with
    | zero => rfl
    | succ k => rw [depF, if_pos hn]
  · rw [depF_more h _ (parOf l i) (by omega) (by omega)]
theorem depS_le {l : List It} (h : Wl l) : ∀ (n : Nat) (i : Int), i.toNat ≤ n → i < l.length → depS l i ≤ (i + 1).toNat := by
  intro n
  induction n with
  | zero =>
    intro i hn hi
    by_cases h0 : i < 0
    · rw [depS_neg l h0]; omega
    · rw [depS_step h (by omega) hi]
      have := par_bounds h (i := i) (by omega) hi
      rw [depS_neg l (by omega)]; omega
  | succ n ih =>
    intro i hn hi
    by_cases h0 : i < 0
    · rw [depS_neg l h0]; omega
    · rw [depS_step h (by omega) hi]
      have hb := par_bounds h (i := i) (by omega) hi
      have := ih (parOf l i) (by omega) (by omega)
      omega

/-- An item in five cells. -/
structure ItAt (w : World) (b o : Nat) (x : It) : Prop where
  c0 : w.cell? ⟨b, o, none⟩ = some (str x.nm)
  c1 : w.cell? ⟨b, o + 1, none⟩ = some (.int .i64 x.par)
  c2 : w.cell? ⟨b, o + 2, none⟩ = some (.int .i64 x.q)
  c3 : w.cell? ⟨b, o + 3, none⟩ = some (.int .i64 x.p)
  c4 : ∃ u, w.cell? ⟨b, o + 4, none⟩ = some u ∧ RI w u x.pr
theorem ItAt.below {w w' : World} {b o : Nat} {x : It} (h : ItAt w b o x) (hlt : b < w.heap.size) (hb : Below w.heap.size w w') : ItAt w' b o x := by
  obtain ⟨u, hu, hr⟩ := h.c4
  exact ⟨(hb.cell (p := ⟨b, o, none⟩) hlt).trans h.c0, (hb.cell (p := ⟨b, o + 1, none⟩) hlt).trans h.c1, (hb.cell (p := ⟨b, o + 2, none⟩) hlt).trans h.c2, (hb.cell (p := ⟨b, o + 3, none⟩) hlt).trans h.c3, u, (hb.cell (p := ⟨b, o + 4, none⟩) hlt).trans hu, hr.below hb⟩
/-- A slice of items. -/
def RT (w : World) (v : Value) (l : List It) : Prop :=
  ∃ p c, v = .slice p l.length c ∧ l.length ≤ c ∧ c ≤ maxLen ∧ ∀ i, i < l.length → ∃ b o, p = some ⟨b, o, none⟩ ∧ b < w.heap.size ∧ ItAt w b (o + i * 5) (l.getD i default)
theorem RT_nil (w : World) : RT w (.slice none 0 0) [] := ⟨none, 0, rfl, Nat.le_refl _, by decide, fun i hi => by simp at hi⟩
theorem RT.below {w w' : World} {v : Value} {l : List It} (h : RT w v l) (hb : Below w.heap.size w w') : RT w' v l := by
  obtain ⟨p, c, hv, h1, h2, hr⟩ := h
  refine ⟨p, c, hv, h1, h2, fun i hi => ?_⟩
  obtain ⟨b, o, hp, hlt, h1⟩ := hr i hi
  exact ⟨b, o, hp, Nat.lt_of_lt_of_le hlt hb.size, h1.below hlt hb⟩
/-- The cells of a tree. -/
abbrev trObj (v1 v2 : Value) : Obj := .cells #[v1, v2] 25
section
variable {w : World} {B : Nat} {x y : Value} {t : TypeId}
theorem two_a (C : w.heap[B]? = some (.cells #[x, y] t)) : w.cell? ⟨B, 0, none⟩ = some x := by simp [World.cell?, C]
theorem two_b (C : w.heap[B]? = some (.cells #[x, y] t)) : w.cell? ⟨B, 1, none⟩ = some y := by simp [World.cell?, C]
theorem new_blk (o : Obj) : (w.alloc o).heap[w.heap.size]? = some o := by
  show (w.heap.push _)[w.heap.size]? = _
  exact Array.getElem?_push_size
end
theorem depth_c (l : List It) (v1 v2 : Value) (i : Int) (W : World) (h : RT W v1 l) (hw : Wl l) (h0 : -1 ≤ i) (hi : i < l.length) (hl : l.length ≤ 1000000000000) :
    Calls Tryz.prog 38 #[.agg #[v1, v2], .int .i64 i] W fun e w' => e = .returned (.int .i64 (depS l i : Nat)) ∧ Below W.heap.size W w' := by
  obtain ⟨w0, hw0⟩ : ∃ w0, w0 = W.alloc (trObj v1 v2) := ⟨_, rfl⟩
  have b0 : Below W.heap.size W w0 := by rw [hw0]; exact (Below.refl _ _).alloc (Nat.le_refl _) _
  have C : w0.heap[W.heap.size]? = some (trObj v1 v2) := by rw [hw0]; exact new_blk _
  have hr := h.below b0
  obtain ⟨p, c, rfl, hlc, hcm, hit⟩ := hr
  have HIT := Lib.hid hit
  have c0 := two_a C
  have HW : Hid (w0 = W.alloc (trObj (.slice p l.length c) v2)) := Lib.hid hw0
  have B0 := Lib.hid b0
  obtain ⟨D, hD⟩ : ∃ D, D = depS l i := ⟨_, rfl⟩
  have HD := Lib.hid hD
  have DL := Lib.hid (depS_le hw)
  have ST := Lib.hid (fun (i : Int) => depS_step hw (i := i))
  have PB := Lib.hid (fun (i : Int) => par_bounds hw (i := i))
  have NG := Lib.hid (fun (i : Int) => depS_neg l (i := i))
  rw [← hD]
  clear h hw hw0 b0 C hit hD
  go_enter Tryz.func38, Tryz.ntmps38
  go_wp2_with fail
  rw [← HW.out]
  go_loopw [1, 5] (fun iv dv wr => ∃ (j : Int) (d : Nat), iv = .int .i64 j ∧ dv = .int .i64 (d : Nat) ∧ -1 ≤ j ∧ j < l.length ∧ d ≤ l.length ∧ wr = w0 ∧ Hid (d + depS l j = D)) (fun iv _ _ => (intOf iv + 1).toNat)
  case atStart => exact ⟨i, 0, rfl, by go_num, h0, hi, by omega, rfl, Lib.hid (by rw [HD.out]; omega)⟩
  case round =>
    obtain ⟨j, d, rfl, rfl, hj0, hj1, hd, rfl, hs⟩ := hrel
    have hdi : (d : Int) ≤ 1000000000000 := by omega
    by_cases hneg : j < 0
    · have hj : ¬ 0 ≤ j := by omega
      have HR : Hid (d = D) := Lib.hid (by have := hs.out; rw [NG.out j hneg] at this; omega)
      clear hneg
      go_wp2_with fail
      go_ret
      exact ⟨by rw [HR.out]; rfl, B0.out⟩
    · have hj : 0 ≤ j := by omega
      obtain ⟨b, o, rfl, hb, hx⟩ := HIT.out j.toNat (by omega)
      have g := hx.c1
      have pb := PB.out j hj (by omega)
      have st := ST.out j hj (by omega)
      have hpe : (l.getD j.toNat default).par = parOf l j := rfl
      rw [hpe] at g
      have hdl : d + 1 ≤ l.length := by
        have h1 := hs.out
        have h2 := DL.out i.toNat i (Nat.le_refl _) hi
        have := HD.out
        omega
      have NX : Hid (d + 1 + depS l (parOf l j) = D) := Lib.hid (by have := hs.out; omega)
      generalize parOf l j = j2 at *
      clear hneg hx hpe hs st
      go_wp2_with fail
      go_roundw
      case rel => exact ⟨j2, d + 1, rfl, by go_num, pb.1, by omega, hdl, trivial, NX⟩
      case measure => show (j2 + 1).toNat < (j + 1).toNat; omega
/-- .. the reference's. -/
theorem rdepth_c (l : List It) (v1 : Value) (i : Int) (W : World) (h : RT W v1 l) (hw : Wl l) (h0 : -1 ≤ i) (hi : i < l.length) (hl : l.length ≤ 1000000000000) :
    Calls Tryz.prog 42 #[v1, .int .i64 i] W fun e w' => e = .returned (.int .i64 (depS l i : Nat)) ∧ W = w' := by
  obtain ⟨p, c, rfl, hlc, hcm, hit⟩ := h
  have HIT := Lib.hid hit
  obtain ⟨D, hD⟩ : ∃ D, D = depS l i := ⟨_, rfl⟩
  have HD := Lib.hid hD
  have DL := Lib.hid (depS_le hw)
  have ST := Lib.hid (fun (i : Int) => depS_step hw (i := i))
  have PB := Lib.hid (fun (i : Int) => par_bounds hw (i := i))
  have NG := Lib.hid (fun (i : Int) => depS_neg l (i := i))
  rw [← hD]
  clear hw hit hD
  go_enter Tryz.func42, Tryz.ntmps42
  go_wp2_with fail
  go_loopw [5, 6] (fun dv iv wr => ∃ (j : Int) (d : Nat), iv = .int .i64 j ∧ dv = .int .i64 (d : Nat) ∧ -1 ≤ j ∧ j < l.length ∧ d ≤ l.length ∧ wr = W ∧ Hid (d + depS l j = D)) (fun _ iv _ => (intOf iv + 1).toNat)
  case atStart => exact ⟨i, 0, rfl, by go_num, h0, hi, by omega, rfl, Lib.hid (by rw [HD.out]; omega)⟩
  case round =>
    obtain ⟨j, d, rfl, rfl, hj0, hj1, hd, rfl, hs⟩ := hrel
    have hdi : (d : Int) ≤ 1000000000000 := by omega
    by_cases hneg : j < 0
    · have hj : ¬ 0 ≤ j := by omega
      have HR : Hid (d = D) := Lib.hid (by have := hs.out; rw [NG.out j hneg] at this; omega)
      clear hneg
      go_wp2_with fail
      go_ret
      exact ⟨by rw [HR.out]; rfl, rfl⟩
    · have hj : 0 ≤ j := by omega
      obtain ⟨b, o, rfl, hb, hx⟩ := HIT.out j.toNat (by omega)
      have g := hx.c1
      have pb := PB.out j hj (by omega)
      have st := ST.out j hj (by omega)
      have hpe : (l.getD j.toNat default).par = parOf l j := rfl
      rw [hpe] at g
      have hdl : d + 1 ≤ l.length := by
        have h1 := hs.out
        have h2 := DL.out i.toNat i (Nat.le_refl _) hi
        have := HD.out
        omega
      have NX : Hid (d + 1 + depS l (parOf l j) = D) := Lib.hid (by have := hs.out; omega)
      generalize parOf l j = j2 at *
      clear hneg hx hpe hs st
      go_wp2_with fail
      go_roundw
      case rel => exact ⟨j2, d + 1, rfl, by go_num, pb.1, by omega, hdl, trivial, NX⟩
      case measure => show (j2 + 1).toNat < (j + 1).toNat; omega
end Go.Proofs.YtophilmjfdhhaaaGreatDoor
