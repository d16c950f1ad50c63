/- All that is asked of an item of layer 25: config.Tree.check. -/
import Derived.Test.YtophilmjfdhhaaaGreatDoorFl
namespace Go.Proofs.YtophilmjfdhhaaaGreatDoor
open Go Go.RowKit Go.Shelf Go.Sort
set_option linter.unusedVariables false
set_option linter.unusedSimpArgs false
set_option maxRecDepth 100000
set_option maxHeartbeats 3200000

/-- What the k-th question about an item answers. -/
def chkK (l : List It) (i : Nat) : Nat → Int
  | 0 => if twinS l i then 251 else 0
  | 1 => if itR (l.getD i default) && prOk (l.getD i default).pr then 0 else 2
  | 2 => if 8 < depS l i then 90 else 0
  | 3 => if 63 ≤ i ∨ 8 < (l.getD i default).pr.length then 30 else 0
  | _ => if 1048576 < underG (l.take (i + 1)) (l.getD i default).par then 80 else 0
def firstE : List Int → Int
  | [] => 0
  | x :: r => if x = 0 then firstE r else x
def chkI (l : List It) (i : Nat) : Int := firstE [chkK l i 0, chkK l i 1, chkK l i 2, chkK l i 3, chkK l i 4]
theorem chkI_ok {l : List It} {i : Nat} (h : ∀ k, k < 5 → chkK l i k = 0) : chkI l i = 0 := by
  unfold chkI firstE firstE firstE firstE firstE firstE
  rw [if_pos (h 0 (by decide)), if_pos (h 1 (by decide)), if_pos (h 2 (by decide)), if_pos (h 3 (by decide)), if_pos (h 4 (by decide))]
theorem chkI_err {l : List It} {i k : Nat} (h : ∀ j, j < k → chkK l i j = 0) (hk : k < 5) (hn : chkK l i k ≠ 0) : chkI l i = chkK l i k := by
  unfold chkI firstE firstE firstE firstE firstE firstE
  rcases (by omega : k = 0 ∨ k = 1 ∨ k = 2 ∨ k = 3 ∨ k = 4) with rfl | rfl | rfl | rfl | rfl
  · rw [if_neg hn]
  · rw [if_pos (h 0 (by decide)), if_neg hn]
  · rw [if_pos (h 0 (by decide)), if_pos (h 1 (by decide)), if_neg hn]
  · rw [if_pos (h 0 (by decide)), if_pos (h 1 (by decide)), if_pos (h 2 (by decide)), if_neg hn]
  · rw [if_pos (h 0 (by decide)), if_pos (h 1 (by decide)), if_pos (h 2 (by decide)), if_pos (h 3 (by decide)), if_neg hn]
theorem errOf_if {p : Prop} [Decidable p] {n : Int} (hn : n ≠ 0) : errOf (if p then n else 0) = if p then errN n else .nilIface := by
  unfold errOf
  by_cases h : p
  · rw [if_pos h, if_pos h, if_neg hn]
  · rw [if_neg h, if_neg h, if_pos rfl]
theorem errOf_if' {p : Prop} [Decidable p] {n : Int} (hn : n ≠ 0) : errOf (if p then 0 else n) = if p then .nilIface else errN n := by
  unfold errOf
  by_cases h : p
  · rw [if_pos h, if_pos h, if_pos rfl]
  · rw [if_neg h, if_neg h, if_neg hn]
theorem errOf_zero : errOf 0 = .nilIface := rfl
theorem errOf_ne {n : Int} (h : n ≠ 0) : errOf n = errN n := if_neg h
/-- The five questions, each at every item that stands behind items that may be. -/
structure ChkC (l : List It) (v1 v2 : Value) (i : Nat) (W : World) : Prop where
  k0 : Calls Tryz.prog 45 #[.agg #[v1, v2], .int .i64 i] W fun e w' => e = .returned (errOf (chkK l i 0)) ∧ Below W.heap.size W w'
  k1 : Calls Tryz.prog 46 #[.agg #[v1, v2], .int .i64 i] W fun e w' => e = .returned (errOf (chkK l i 1)) ∧ Below W.heap.size W w'
  k2 : Calls Tryz.prog 47 #[.agg #[v1, v2], .int .i64 i] W fun e w' => e = .returned (errOf (chkK l i 2)) ∧ Below W.heap.size W w'
  k3 : Calls Tryz.prog 48 #[.agg #[v1, v2], .int .i64 i] W fun e w' => e = .returned (errOf (chkK l i 3)) ∧ Below W.heap.size W w'
  k4 : (∀ x ∈ l.take (i + 1), itR x = true) → Calls Tryz.prog 49 #[.agg #[v1, v2], .int .i64 i] W fun e w' => e = .returned (errOf (chkK l i 4)) ∧ Below W.heap.size W w'
theorem chk_e0 (l : List It) (i : Nat) : errOf (chkK l i 0) = if twinS l i then errN 251 else .nilIface := errOf_if (n := 251) (by decide)
theorem chk_e1 (l : List It) (i : Nat) : errOf (chkK l i 1) = if itR (l.getD i default) && prOk (l.getD i default).pr then .nilIface else errN 2 := errOf_if' (n := 2) (by decide)
theorem chk_e2 (l : List It) (i : Nat) : errOf (chkK l i 2) = if 8 < depS l i then errN 90 else .nilIface := errOf_if (n := 90) (by decide)
theorem chk_e3 (l : List It) (i : Nat) : errOf (chkK l i 3) = if 63 ≤ i ∨ 8 < (l.getD i default).pr.length then errN 30 else .nilIface := errOf_if (n := 30) (by decide)
theorem chk_e4 (l : List It) (i : Nat) : errOf (chkK l i 4) = if 1048576 < underG (l.take (i + 1)) (l.getD i default).par then errN 80 else .nilIface := errOf_if (n := 80) (by decide)
theorem chk_c (l : List It) (v1 v2 : Value) (i : Nat) (W : World) (h : RT W v1 l) (hw : Wl l) (hi : i < l.length) (hl : l.length ≤ 1000000000) (hp : ∀ x ∈ l, x.pr.length ≤ 140737488355328) : ChkC l v1 v2 i W := by
  have hpi : (l.getD i default).pr.length ≤ 140737488355328 := by rw [List.getD, List.getElem?_eq_getElem hi]; exact hp _ (List.getElem_mem hi)
  refine ⟨?_, ?_, ?_, ?_, fun hv => ?_⟩
  · rw [chk_e0]; exact checkName_c l v1 v2 i W h hi (by omega)
  · rw [chk_e1]; exact checkRange_c l v1 v2 i W h hi (by omega) hpi
  · rw [chk_e2]; exact checkDepth_c l v1 v2 i W h hw hi (by omega)
  · rw [chk_e3]; exact checkRoom_c l v1 v2 i W h hi (by omega)
  · rw [chk_e4]; exact checkLoad_c l v1 v2 i W h hi hl hv
theorem chk1_ok {l : List It} {i : Nat} (h : chkK l i 1 = 0) : itR (l.getD i default) = true ∧ prOk (l.getD i default).pr = true := by
  have e : chkK l i 1 = if itR (l.getD i default) && prOk (l.getD i default).pr then 0 else 2 := rfl
  rw [e] at h
  by_cases hc : (itR (l.getD i default) && prOk (l.getD i default).pr) = true
  · rw [Bool.and_eq_true] at hc; exact hc
  · rw [if_neg hc] at h; exact absurd h (by decide)
theorem take_ok {l : List It} {i : Nat} (hi : i < l.length) (h : ∀ x ∈ l.take i, itR x = true) (hx : itR (l.getD i default) = true) : ∀ x ∈ l.take (i + 1), itR x = true := by
  intro x hm
  rw [take_it hi] at hm
  rcases List.mem_append.1 hm with hm | hm
  · exact h x hm
  · rw [List.mem_singleton.1 hm]; exact hx
theorem blk_cell {w : World} {B j : Nat} {cs : Array Value} {t : TypeId} {v : Value} (h : w.heap[B]? = some (.cells cs t)) (hv : cs[j]? = some v) : w.cell? ⟨B, j, none⟩ = some v := by
  simp only [World.cell?, h]
  exact hv
/-- A method value. -/
abbrev mV (f : FuncId) (v1 v2 : Value) : Value := .func (.func f) #[.agg #[v1, v2]] #[]
abbrev mCells (v1 v2 : Value) : Array Value := #[mV 45 v1 v2, mV 46 v1 v2, mV 47 v1 v2, mV 48 v1 v2, mV 49 v1 v2]
theorem check_c (l : List It) (v1 v2 : Value) (i : Nat) (W : World) (h : RT W v1 l) (hw : Wl l) (hi : i < l.length) (hl : l.length ≤ 1000000000) (hp : ∀ x ∈ l, x.pr.length ≤ 140737488355328) (hv : ∀ x ∈ l.take i, itR x = true) :
    Calls Tryz.prog 87 #[.agg #[v1, v2], .int .i64 i] W fun e w' => e = .returned (errOf (chkI l i)) ∧ Below W.heap.size W w' := by
  have hmf : ∀ (fn : Fn) (first cap : Array Value) (w : World), (Instr.makeFunc fn first cap).run Tryz.prog w = .ok (.func fn first cap) w := fun _ _ _ _ => rfl
  have CC := Lib.hid (fun w (hb : Below W.heap.size W w) => chk_c l v1 v2 i w (h.below hb) hw hi hl hp)
  have OK := Lib.hid (fun h => chkI_ok (l := l) (i := i) h)
  have ER := Lib.hid (fun k h hk hn => chkI_err (l := l) (i := i) (k := k) h hk hn)
  have TK := Lib.hid (fun h1 => take_ok hi hv (chk1_ok (l := l) (i := i) h1).1)
  have B1 : ∀ o1 o2, Below W.heap.size W ((W.alloc o1).alloc o2) := fun o1 o2 => ((Below.refl _ _).alloc (Nat.le_refl _) _).alloc (by simp) _
  have BB := Lib.hid B1
  have CB : ∀ o1, ((W.alloc o1).alloc (.cells (mCells v1 v2) 93)).heap[W.heap.size + 1]? = some (.cells (mCells v1 v2) 93) := fun o1 => by
    have := new_blk (w := W.alloc o1) (.cells (mCells v1 v2) 93)
    simpa using this
  have CBB := Lib.hid CB
  generalize chkI l i = R at *
  clear h hw hi hl hp hv B1 CB
  go_enter Tryz.func87, Tryz.ntmps87
  go_wp2_with fail
  go_loopw [20] (fun kv wr => ∃ k : Nat, kv = .int .i64 k ∧ k ≤ 5 ∧ Hid (Below W.heap.size W wr) ∧ Hid (wr.heap[W.heap.size + 1]? = some (.cells (mCells v1 v2) 93)) ∧ Hid (∀ j, j < k → chkK l i j = 0)) (fun kv _ => 5 - (intOf kv).toNat)
  case atStart => exact ⟨0, by go_num, by decide, Lib.hid (BB.out _ _), Lib.hid (CBB.out _), Lib.hid (fun j hj => absurd hj (Nat.not_lt_zero _))⟩
  case round =>
    obtain ⟨k, rfl, hk, hbe, hcb, hpass⟩ := hrel
    have KC := CC.out wr hbe.out
    have SZ : W.heap.size + 1 < wr.heap.size := (Array.getElem?_eq_some_iff.1 hcb.out).1
    have NXB := Lib.hid (fun w2 (hb2 : Below wr.heap.size wr w2) => (⟨hbe.out.trans (hb2.mono hbe.out.size), (hb2.block _ SZ).trans hcb.out⟩ : Below W.heap.size W w2 ∧ w2.heap[W.heap.size + 1]? = some (.cells (mCells v1 v2) 93)))
    rcases (by omega : k = 0 ∨ k = 1 ∨ k = 2 ∨ k = 3 ∨ k = 4 ∨ k = 5) with rfl | rfl | rfl | rfl | rfl | rfl
    · have cK : wr.cell? ⟨W.heap.size + 1, 0, none⟩ = some (mV 45 v1 v2) := blk_cell hcb.out rfl
      have K := KC.k0
      have E1 := Lib.hid (fun hn => ER.out 0 hpass.out (by decide) hn)
      have N1 : Hid (chkK l i 0 = 0 → ∀ j, j < 1 → chkK l i j = 0) := Lib.hid (fun h j hj => by
        rcases Nat.lt_or_ge j 0 with h' | h'
        · exact hpass.out j h'
        · obtain rfl : j = 0 := by omega
          exact h)
      generalize chkK l i 0 = x at *
      by_cases hx : x = 0
      · rw [hx, errOf_zero] at K
        have N2 := Lib.hid (N1.out hx)
        have KK := Lib.hid K
        clear hx K KC
        go_wp2_with (go_at_call 45; refine KK.out.mono ?_; rintro e w2 ⟨rfl, hb2⟩)
        go_roundw
        case rel => exact ⟨1, by go_num, by decide, Lib.hid (NXB.out _ hb2).1, Lib.hid (NXB.out _ hb2).2, N2⟩
        case measure => show 5 - _ < 5 - _; decide
      · rw [errOf_ne hx] at K
        have HR := Lib.hid (E1.out hx)
        have HX := Lib.hid (errOf_ne hx)
        have KK := Lib.hid K
        clear hx K KC
        go_wp2_with (go_at_call 45; refine KK.out.mono ?_; rintro e w2 ⟨rfl, hb2⟩)
        go_ret
        exact ⟨by rw [HR.out, HX.out]; rfl, (NXB.out _ hb2).1⟩
    · have cK : wr.cell? ⟨W.heap.size + 1, 1, none⟩ = some (mV 46 v1 v2) := blk_cell hcb.out rfl
      have K := KC.k1
      have E1 := Lib.hid (fun hn => ER.out 1 hpass.out (by decide) hn)
      have N1 : Hid (chkK l i 1 = 0 → ∀ j, j < 2 → chkK l i j = 0) := Lib.hid (fun h j hj => by
        rcases Nat.lt_or_ge j 1 with h' | h'
        · exact hpass.out j h'
        · obtain rfl : j = 1 := by omega
          exact h)
      generalize chkK l i 1 = x at *
      by_cases hx : x = 0
      · rw [hx, errOf_zero] at K
        have N2 := Lib.hid (N1.out hx)
        have KK := Lib.hid K
        clear hx K KC
        go_wp2_with (go_at_call 46; refine KK.out.mono ?_; rintro e w2 ⟨rfl, hb2⟩)
        go_roundw
        case rel => exact ⟨2, by go_num, by decide, Lib.hid (NXB.out _ hb2).1, Lib.hid (NXB.out _ hb2).2, N2⟩
        case measure => show 5 - _ < 5 - _; decide
      · rw [errOf_ne hx] at K
        have HR := Lib.hid (E1.out hx)
        have HX := Lib.hid (errOf_ne hx)
        have KK := Lib.hid K
        clear hx K KC
        go_wp2_with (go_at_call 46; refine KK.out.mono ?_; rintro e w2 ⟨rfl, hb2⟩)
        go_ret
        exact ⟨by rw [HR.out, HX.out]; rfl, (NXB.out _ hb2).1⟩
    · have cK : wr.cell? ⟨W.heap.size + 1, 2, none⟩ = some (mV 47 v1 v2) := blk_cell hcb.out rfl
      have K := KC.k2
      have E1 := Lib.hid (fun hn => ER.out 2 hpass.out (by decide) hn)
      have N1 : Hid (chkK l i 2 = 0 → ∀ j, j < 3 → chkK l i j = 0) := Lib.hid (fun h j hj => by
        rcases Nat.lt_or_ge j 2 with h' | h'
        · exact hpass.out j h'
        · obtain rfl : j = 2 := by omega
          exact h)
      generalize chkK l i 2 = x at *
      by_cases hx : x = 0
      · rw [hx, errOf_zero] at K
        have N2 := Lib.hid (N1.out hx)
        have KK := Lib.hid K
        clear hx K KC
        go_wp2_with (go_at_call 47; refine KK.out.mono ?_; rintro e w2 ⟨rfl, hb2⟩)
        go_roundw
        case rel => exact ⟨3, by go_num, by decide, Lib.hid (NXB.out _ hb2).1, Lib.hid (NXB.out _ hb2).2, N2⟩
        case measure => show 5 - _ < 5 - _; decide
      · rw [errOf_ne hx] at K
        have HR := Lib.hid (E1.out hx)
        have HX := Lib.hid (errOf_ne hx)
        have KK := Lib.hid K
        clear hx K KC
        go_wp2_with (go_at_call 47; refine KK.out.mono ?_; rintro e w2 ⟨rfl, hb2⟩)
        go_ret
        exact ⟨by rw [HR.out, HX.out]; rfl, (NXB.out _ hb2).1⟩
    · have cK : wr.cell? ⟨W.heap.size + 1, 3, none⟩ = some (mV 48 v1 v2) := blk_cell hcb.out rfl
      have K := KC.k3
      have E1 := Lib.hid (fun hn => ER.out 3 hpass.out (by decide) hn)
      have N1 : Hid (chkK l i 3 = 0 → ∀ j, j < 4 → chkK l i j = 0) := Lib.hid (fun h j hj => by
        rcases Nat.lt_or_ge j 3 with h' | h'
        · exact hpass.out j h'
        · obtain rfl : j = 3 := by omega
          exact h)
      generalize chkK l i 3 = x at *
      by_cases hx : x = 0
      · rw [hx, errOf_zero] at K
        have N2 := Lib.hid (N1.out hx)
        have KK := Lib.hid K
        clear hx K KC
        go_wp2_with (go_at_call 48; refine KK.out.mono ?_; rintro e w2 ⟨rfl, hb2⟩)
        go_roundw
        case rel => exact ⟨4, by go_num, by decide, Lib.hid (NXB.out _ hb2).1, Lib.hid (NXB.out _ hb2).2, N2⟩
        case measure => show 5 - _ < 5 - _; decide
      · rw [errOf_ne hx] at K
        have HR := Lib.hid (E1.out hx)
        have HX := Lib.hid (errOf_ne hx)
        have KK := Lib.hid K
        clear hx K KC
        go_wp2_with (go_at_call 48; refine KK.out.mono ?_; rintro e w2 ⟨rfl, hb2⟩)
        go_ret
        exact ⟨by rw [HR.out, HX.out]; rfl, (NXB.out _ hb2).1⟩
    · have cK : wr.cell? ⟨W.heap.size + 1, 4, none⟩ = some (mV 49 v1 v2) := blk_cell hcb.out rfl
      have K := (KC.k4 (TK.out (hpass.out 1 (by decide))))
      have E1 := Lib.hid (fun hn => ER.out 4 hpass.out (by decide) hn)
      have N1 : Hid (chkK l i 4 = 0 → ∀ j, j < 5 → chkK l i j = 0) := Lib.hid (fun h j hj => by
        rcases Nat.lt_or_ge j 4 with h' | h'
        · exact hpass.out j h'
        · obtain rfl : j = 4 := by omega
          exact h)
      generalize chkK l i 4 = x at *
      by_cases hx : x = 0
      · rw [hx, errOf_zero] at K
        have N2 := Lib.hid (N1.out hx)
        have KK := Lib.hid K
        clear hx K KC
        go_wp2_with (go_at_call 49; refine KK.out.mono ?_; rintro e w2 ⟨rfl, hb2⟩)
        go_roundw
        case rel => exact ⟨5, by go_num, by decide, Lib.hid (NXB.out _ hb2).1, Lib.hid (NXB.out _ hb2).2, N2⟩
        case measure => show 5 - _ < 5 - _; decide
      · rw [errOf_ne hx] at K
        have HR := Lib.hid (E1.out hx)
        have HX := Lib.hid (errOf_ne hx)
        have KK := Lib.hid K
        clear hx K KC
        go_wp2_with (go_at_call 49; refine KK.out.mono ?_; rintro e w2 ⟨rfl, hb2⟩)
        go_ret
        exact ⟨by rw [HR.out, HX.out]; rfl, (NXB.out _ hb2).1⟩
    · have HR := Lib.hid (OK.out hpass.out)
      clear KC
      go_wp2_with fail
      go_ret
      exact ⟨by rw [HR.out]; rfl, hbe.out⟩
end Go.Proofs.YtophilmjfdhhaaaGreatDoor
