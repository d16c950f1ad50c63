/- What is asked of an item of layer 25, both sides: its name, its range, its depth, room, what is reserved. -/
import Derived.Test.YtophilmjfdhhaaaGreatDoorFi
namespace Go.Proofs.YtophilmjfdhhaaaGreatDoor
open Go Go.RowKit Go.Shelf Go.Sort
set_option linter.unusedVariables false
set_option linter.unusedSimpArgs false
set_option maxRecDepth 100000
set_option maxHeartbeats 1600000

theorem RT.out {w : World} {v : Value} {l : List It} (h : RT w v l) : ∃ p c, v = .slice p l.length c ∧ l.length ≤ c ∧ c ≤ maxLen ∧ (0 < l.length → ∃ b o, p = some ⟨b, o, none⟩ ∧ b < w.heap.size ∧ ∀ i, i < l.length → ItAt w b (o + i * 5) (l.getD i default)) := by
  obtain ⟨p, c, hv, h1, h2, hr⟩ := h
  refine ⟨p, c, hv, h1, h2, fun hp => ?_⟩
  obtain ⟨b, o, rfl, hb, _⟩ := hr 0 hp
  refine ⟨b, o, rfl, hb, fun i hi => ?_⟩
  obtain ⟨b', o', e, _, hx⟩ := hr i hi
  injection e with e
  injection e with e1 e2
  subst e1; subst e2
  exact hx
/-- Nothing has turned but the tape of draws. -/
def Qt (W w : World) : Prop := ∃ m, w = W.drewN m
theorem Qt.refl (W : World) : Qt W W := ⟨0, rfl⟩
theorem Qt.below {W w : World} {B : Nat} (h : Qt W w) : Below B W w := by
  obtain ⟨m, rfl⟩ := h
  exact ⟨rfl, rfl, rfl, Nat.le_refl _, fun _ _ => rfl⟩
/-- Has an item ahead the same parent and the same name? -/
def twinS (l : List It) (i : Nat) : Bool := (List.range i).any fun j => (l.getD j default).nm == (l.getD i default).nm && (l.getD j default).par == (l.getD i default).par
theorem twin_hit {l : List It} {i j : Nat} (hj : j < i) (h1 : (l.getD j default).nm = (l.getD i default).nm) (h2 : (l.getD j default).par = (l.getD i default).par) : twinS l i = true := by
  unfold twinS
  rw [List.any_eq_true]
  exact ⟨j, List.mem_range.2 hj, by rw [h1, h2]; simp⟩
theorem twin_miss {l : List It} {i : Nat} (h : ∀ j, j < i → ¬ ((l.getD j default).nm = (l.getD i default).nm ∧ (l.getD j default).par = (l.getD i default).par)) : twinS l i = false := by
  unfold twinS
  rw [List.any_eq_false]
  intro j hj
  have := h j (List.mem_range.1 hj)
  simp only [Bool.and_eq_true, beq_iff_eq]
  exact this
theorem bytes_eq (a b : List UInt8) : ((⟨a.toArray⟩ : ByteArray).toList == (⟨b.toArray⟩ : ByteArray).toList) = decide (a = b) := by
  rw [Lib.toList_data, Lib.toList_data]
  show (a.toArray.toList == b.toArray.toList) = _
  rw [Bool.eq_iff_iff]; simp
theorem checkName_c (l : List It) (v1 v2 : Value) (i : Nat) (W : World) (h : RT W v1 l) (hi : i < l.length) (hl : l.length ≤ 1000000000000) :
    Calls Tryz.prog 45 #[.agg #[v1, v2], .int .i64 i] W fun e w' => e = .returned (if twinS l i then errN 251 else .nilIface) ∧ Below W.heap.size W w' := by
  obtain ⟨w0, hw0⟩ : ∃ w0, w0 = W.alloc (trObj v1 v2) := ⟨_, rfl⟩
  have b0 : Below W.heap.size W w0 := by rw [hw0]; exact (Below.refl _ _).alloc (Nat.le_refl _) _
  have C : w0.heap[W.heap.size]? = some (trObj v1 v2) := by rw [hw0]; exact new_blk _
  obtain ⟨p, c, rfl, hlc, hcm, hit⟩ := (h.below b0).out
  obtain ⟨b, o, rfl, hbs, hit⟩ := hit (by omega)
  have HIT := Lib.hid hit
  have c0 := two_a C
  have HW : Hid (w0 = W.alloc (trObj (.slice (some ⟨b, o, none⟩) l.length c) v2)) := Lib.hid hw0
  have B0 := Lib.hid b0
  have TH := Lib.hid (fun j hj h1 h2 => twin_hit (l := l) (i := i) (j := j) hj h1 h2)
  have TM := Lib.hid (fun h => twin_miss (l := l) (i := i) h)
  have hy := hit i hi
  have y0 : w0.cell? ⟨b, o + i * 5, none⟩ = some (.string ⟨(l.getD i default).nm.toArray⟩) := hy.c0
  have y1 := hy.c1
  obtain ⟨ny, hny⟩ : ∃ s, s = (⟨(l.getD i default).nm.toArray⟩ : ByteArray) := ⟨_, rfl⟩
  have NY := Lib.hid hny
  rw [← hny] at y0
  obtain ⟨py, hpy⟩ : ∃ q, q = (l.getD i default).par := ⟨_, rfl⟩
  have PY := Lib.hid hpy
  rw [← hpy] at y1
  have hib : (i : Int) ≤ 1000000000000 := by omega
  have hil : (i : Int) < (l.length : Int) := by omega
  obtain ⟨V, hV⟩ : ∃ V, V = (if twinS l i then errN 251 else Value.nilIface) := ⟨_, rfl⟩
  rw [← hV]
  have HV := Lib.hid hV
  generalize twinS l i = R at *
  clear hV h hw0 b0 C hit hny hpy hy
  go_enter Tryz.func45, Tryz.ntmps45
  go_wp2_with fail
  rw [← HW.out]
  go_loopw [7] (fun iv wr => ∃ j : Nat, iv = .int .i64 j ∧ Qt w0 wr ∧ j ≤ i ∧ Hid (∀ k, k < j → ¬ ((l.getD k default).nm = (l.getD i default).nm ∧ (l.getD k default).par = (l.getD i default).par))) (fun iv _ => i - (intOf iv).toNat)
  case atStart => exact ⟨0, by go_num, Qt.refl _, Nat.zero_le _, Lib.hid (fun k hk => absurd hk (Nat.not_lt_zero _))⟩
  case round =>
    obtain ⟨j, rfl, ⟨nq, rfl⟩, hj, hok⟩ := hrel
    by_cases hlt : j < i
    · have hlt' : (j : Int) < (i : Int) := by omega
      have hjl : (j : Int) < (l.length : Int) := by omega
      have hx := HIT.out j (by omega)
      have x0 : _ = some (Value.string ⟨(l.getD j default).nm.toArray⟩) := hx.c0
      have x1 := hx.c1
      obtain ⟨nx, hnx⟩ : ∃ s, s = (⟨(l.getD j default).nm.toArray⟩ : ByteArray) := ⟨_, rfl⟩
      rw [← hnx] at x0
      obtain ⟨px, hpx⟩ : ∃ q, q = (l.getD j default).par := ⟨_, rfl⟩
      rw [← hpx] at x1
      have BE : Hid ((nx.toList == ny.toList) = decide ((l.getD j default).nm = (l.getD i default).nm)) := Lib.hid (by rw [hnx, NY.out]; exact bytes_eq _ _)
      have PX := Lib.hid hpx
      have NX : Hid (¬ ((l.getD j default).nm = (l.getD i default).nm ∧ (l.getD j default).par = (l.getD i default).par) → ∀ k, k < j + 1 → ¬ ((l.getD k default).nm = (l.getD i default).nm ∧ (l.getD k default).par = (l.getD i default).par)) := Lib.hid (fun hg k hk => by
        rcases Nat.lt_or_ge k j with h | h
        · exact hok.out k h
        · obtain rfl : k = j := by omega
          exact hg)
      clear hx hnx hpx hlt
      by_cases hn : (l.getD j default).nm = (l.getD i default).nm
      · have hq : (nx.toList == ny.toList) = true := by rw [BE.out]; exact decide_eq_true hn
        by_cases hp : (l.getD j default).par = (l.getD i default).par
        · have hr : (px == py) = true := by rw [beq_iff_eq, PX.out, PY.out]; exact hp
          have hr2 : px = py := by rw [PX.out, PY.out]; exact hp
          have HR := Lib.hid (TH.out j (by omega) hn hp)
          clear hn hp
          go_wp2_with fail
          go_quiet (fail)
          go_wp2_with fail
          go_ret
          exact ⟨by rw [HV.out, HR.out]; rfl, B0.out.trans (Qt.below ⟨_, rfl⟩)⟩
        · have hr : (px == py) = false := by rw [beq_eq_false_iff_ne, PX.out, PY.out]; exact hp
          have NX2 := Lib.hid (NX.out (fun h => hp h.2))
          clear hn hp
          go_wp2_with fail
          go_quiet (fail)
          go_wp2_with fail
          go_roundw
          case rel => exact ⟨j + 1, by go_num, ⟨_, rfl⟩, by omega, NX2⟩
          case measure => show i - ((j : Int) + 1).toNat < i - ((j : Int)).toNat; omega
      · have hq : (nx.toList == ny.toList) = false := by rw [BE.out]; exact decide_eq_false hn
        have NX2 := Lib.hid (NX.out (fun h => hn h.1))
        clear hn
        go_wp2_with fail
        go_quiet (fail)
        go_wp2_with fail
        go_roundw
        case rel => exact ⟨j + 1, by go_num, ⟨_, rfl⟩, by omega, NX2⟩
        case measure => show i - ((j : Int) + 1).toNat < i - ((j : Int)).toNat; omega
    · have HR : Hid (R = false) := Lib.hid (TM.out (fun k hk => hok.out k (by omega)))
      have hlt' : ¬ (j : Int) < (i : Int) := by omega
      clear hlt
      go_wp2_with fail
      go_ret
      exact ⟨by rw [HV.out, HR.out]; rfl, B0.out.trans (Qt.below ⟨_, rfl⟩)⟩
theorem rtwin_c (l : List It) (v1 : Value) (i : Nat) (W : World) (h : RT W v1 l) (hi : i < l.length) (hl : l.length ≤ 1000000000000) :
    Calls Tryz.prog 53 #[v1, .int .i64 i] W fun e w' => e = .returned (.bool (twinS l i)) ∧ Below W.heap.size W w' := by
  obtain ⟨p, c, rfl, hlc, hcm, hit⟩ := h.out
  obtain ⟨b, o, rfl, hbs, hit⟩ := hit (by omega)
  have HIT := Lib.hid hit
  have TH := Lib.hid (fun j hj h1 h2 => twin_hit (l := l) (i := i) (j := j) hj h1 h2)
  have TM := Lib.hid (fun h => twin_miss (l := l) (i := i) h)
  have hy := hit i hi
  have y0 : W.cell? ⟨b, o + i * 5, none⟩ = some (.string ⟨(l.getD i default).nm.toArray⟩) := hy.c0
  have y1 := hy.c1
  obtain ⟨ny, hny⟩ : ∃ s, s = (⟨(l.getD i default).nm.toArray⟩ : ByteArray) := ⟨_, rfl⟩
  have NY := Lib.hid hny
  rw [← hny] at y0
  obtain ⟨py, hpy⟩ : ∃ q, q = (l.getD i default).par := ⟨_, rfl⟩
  have PY := Lib.hid hpy
  rw [← hpy] at y1
  have hib : (i : Int) ≤ 1000000000000 := by omega
  have hil : (i : Int) < (l.length : Int) := by omega
  generalize twinS l i = R at *
  clear h hit hny hpy hy
  go_enter Tryz.func53, Tryz.ntmps53
  go_wp2_with fail
  go_loopw [5] (fun iv wr => ∃ j : Nat, iv = .int .i64 j ∧ Qt W wr ∧ j ≤ i ∧ Hid (∀ k, k < j → ¬ ((l.getD k default).nm = (l.getD i default).nm ∧ (l.getD k default).par = (l.getD i default).par))) (fun iv _ => i - (intOf iv).toNat)
  case atStart => exact ⟨0, by go_num, Qt.refl _, Nat.zero_le _, Lib.hid (fun k hk => absurd hk (Nat.not_lt_zero _))⟩
  case round =>
    obtain ⟨j, rfl, ⟨nq, rfl⟩, hj, hok⟩ := hrel
    by_cases hlt : j < i
    · have hlt' : (j : Int) < (i : Int) := by omega
      have hjl : (j : Int) < (l.length : Int) := by omega
      have hx := HIT.out j (by omega)
      have x0 : _ = some (Value.string ⟨(l.getD j default).nm.toArray⟩) := hx.c0
      have x1 := hx.c1
      obtain ⟨nx, hnx⟩ : ∃ s, s = (⟨(l.getD j default).nm.toArray⟩ : ByteArray) := ⟨_, rfl⟩
      rw [← hnx] at x0
      obtain ⟨px, hpx⟩ : ∃ q, q = (l.getD j default).par := ⟨_, rfl⟩
      rw [← hpx] at x1
      have BE : Hid ((nx.toList == ny.toList) = decide ((l.getD j default).nm = (l.getD i default).nm)) := Lib.hid (by rw [hnx, NY.out]; exact bytes_eq _ _)
      have PX := Lib.hid hpx
      have NX : Hid (¬ ((l.getD j default).nm = (l.getD i default).nm ∧ (l.getD j default).par = (l.getD i default).par) → ∀ k, k < j + 1 → ¬ ((l.getD k default).nm = (l.getD i default).nm ∧ (l.getD k default).par = (l.getD i default).par)) := Lib.hid (fun hg k hk => by
        rcases Nat.lt_or_ge k j with h | h
        · exact hok.out k h
        · obtain rfl : k = j := by omega
          exact hg)
      clear hx hnx hpx hlt
      by_cases hp : (l.getD j default).par = (l.getD i default).par
      · have hr : (px == py) = true := by rw [beq_iff_eq, PX.out, PY.out]; exact hp
        have hr2 : px = py := by rw [PX.out, PY.out]; exact hp
        by_cases hn : (l.getD j default).nm = (l.getD i default).nm
        · have hq : (nx.toList == ny.toList) = true := by rw [BE.out]; exact decide_eq_true hn
          have HR := Lib.hid (TH.out j (by omega) hn hp)
          clear hn hp
          go_wp2_with fail
          go_quiet (fail)
          go_wp2_with fail
          go_ret
          first | exact ⟨by rw [HR.out]; rfl, Qt.below ⟨_, rfl⟩⟩ | exact ⟨by rw [HR.out]; rfl, Qt.below ⟨_, World.drewN_drewN _ _ _⟩⟩
        · have hq : (nx.toList == ny.toList) = false := by rw [BE.out]; exact decide_eq_false hn
          have NX2 := Lib.hid (NX.out (fun h => hn h.1))
          clear hn hp
          go_wp2_with fail
          go_quiet (fail)
          go_wp2_with fail
          go_roundw
          case rel => exact ⟨j + 1, by go_num, ⟨_, rfl⟩, by omega, NX2⟩
          case measure => show i - ((j : Int) + 1).toNat < i - ((j : Int)).toNat; omega
      · have hr : (px == py) = false := by rw [beq_eq_false_iff_ne, PX.out, PY.out]; exact hp
        have NX2 := Lib.hid (NX.out (fun h => hp h.2))
        clear hp
        go_wp2_with fail
        go_quiet (fail)
        go_wp2_with fail
        go_roundw
        case rel => exact ⟨j + 1, by go_num, ⟨_, rfl⟩, by omega, NX2⟩
        case measure => show i - ((j : Int) + 1).toNat < i - ((j : Int)).toNat; omega
    · have HR : Hid (R = false) := Lib.hid (TM.out (fun k hk => hok.out k (by omega)))
      have hlt' : ¬ (j : Int) < (i : Int) := by omega
      clear hlt
      go_wp2_with fail
      go_ret
      first | exact ⟨by rw [HR.out]; rfl, Qt.below ⟨_, rfl⟩⟩ | exact ⟨by rw [HR.out]; rfl, Qt.below ⟨_, World.drewN_drewN _ _ _⟩⟩
end Go.Proofs.YtophilmjfdhhaaaGreatDoor
