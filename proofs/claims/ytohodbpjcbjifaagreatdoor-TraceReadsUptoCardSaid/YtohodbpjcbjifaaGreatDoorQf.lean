/- Queues of marks: Push where the ring is full and grows. -/
import Derived.Test.YtohodbpjcbjifaaGreatDoorQe
namespace Go.Proofs.YtohodbpjcbjifaaGreatDoor
open Go Go.RowKit Go.ChangeShapes Go.WideShapes
set_option linter.unusedVariables false
set_option maxRecDepth 100000
set_option maxHeartbeats 800000

theorem make_marks (R : Nat) (h : R ≤ 4096) (w : World) : (Instr.makeSlice 53 (.int .i64 R) (.int .i64 R)).run Tryz.prog w = .ok (.slice (some ⟨w.heap.size, 0, none⟩) R R) (w.alloc (.cells (flat (List.replicate R Mk.zero)).toArray 24)) := by
  obtain ⟨i0, hi, hz0, hz1, hz2⟩ := info_of Tryz.infoMark
  have := run_make (P := Tryz.prog) w 53 24 i0 Mk.zero.val Tryz.underlying53 hi hz0 .i64 .i64 R R (by omega) (by omega) (by rw [hz2]; omega) (by omega)
  rw [hz1, Int.toNat_natCast] at this
  rw [this, ← zeros5]

theorem Q4.set01 {w : World} {b : Nat} {rv : Value} {f m l : Int} (h : Q4 w b rv f m l) (rv' : Value) (f' : Int) : Q4 ((w.setCell ⟨b, 0, none⟩ rv').setCell ⟨b, 1, none⟩ (.int .i64 f')) b rv' f' m l :=
  ⟨by simpa [World.setCell] using h.lt, other_set (by intro e; injection e with _ e2; omega) (same_set h.c0), same_set (other_set (by intro e; injection e with _ e2; omega) h.c1), other_set (by intro e; injection e with _ e2; omega) (other_set (by intro e; injection e with _ e2; omega) h.c2), other_set (by intro e; injection e with _ e2; omega) (other_set (by intro e; injection e with _ e2; omega) h.c3), set_frozen (set_frozen h.fr _ _) _ _⟩

theorem pushB (W : World) (b : Nat) (gs : List Nat) (n lim c : Nat) (p : Option Addr) (f : Nat) (l : List Mk) (x : Mk) (h : Q4 W b (.slice p n c) f n lim) (hq : QS W b gs lim l) (hln : l.length = n) (hn : n < lim) (hl' : lim ≤ 4096) :
    Calls Tryz.prog 54 #[.pointer (some ⟨b, 0, none⟩), x.val] W fun e w' => e = .returned .nilIface ∧ QS w' b [W.heap.size + 1] lim (l ++ [x]) ∧ Ch (fun k => k = b) W w' := by
  obtain ⟨w1, hw1⟩ : ∃ w1, w1 = W.alloc (.cells #[.int .i64 x.t, .int .i64 x.k, .int .i64 x.h, .int .i64 x.j, .int .i64 x.n] 24) := ⟨_, rfl⟩
  have q1 : Q4 w1 b (.slice p n c) f n lim := hw1 ▸ h.alloc _
  have qs1 : QS w1 b gs lim l := hq.of_block (by rw [hw1]; simp) (fun k hk => by rw [hw1]; exact Below.heap_alloc _ _ _ (hq.lt k hk))
  have b1 : At5 w1 W.heap.size 0 x := by rw [hw1]; exact At5_box W x
  have s1 : w1.heap.size = W.heap.size + 1 := by rw [hw1]; simp
  have c1 : Ch (fun k => k = b) W w1 := by rw [hw1]; exact (Ch.refl _ W).alloc _
  have hbW := h.lt
  clear h hq
  have RM' := Lib.hid (room_t w1 b _ f n lim q1 (by omega) (by omega) (by omega))
  have HW1 := Lib.hid hw1
  have hnz : ((lim : Int) - n == (0 : Int)) = false := by simp; omega
  have hnR : ((n : Int) == (n : Int)) = true := by simp
  have hw1' : IntKind.i64.wrap (2 * (n : Int)) = 2 * n := by rw [IntKind.wrap_i64]; omega
  have hw2' : IntKind.i64.wrap (2 * (n : Int) + 1) = 2 * n + 1 := by rw [IntKind.wrap_i64]; omega
  obtain ⟨R, hRn, hRl, hmin⟩ : ∃ R : Nat, n < R ∧ R ≤ lim ∧ (if 2 * (n : Int) + 1 < (lim : Int) then 2 * (n : Int) + 1 else (lim : Int)) = (R : Int) := by
    by_cases h : 2 * (n : Int) + 1 < (lim : Int)
    · exact ⟨2 * n + 1, by omega, by omega, by rw [if_pos h]; simp⟩
    · exact ⟨lim, by omega, by omega, by rw [if_neg h]⟩
  have hmk := make_marks R (by omega)
  clear hw1
  go_enter Tryz.func54, Tryz.ntmps54
  simp only [Mk.val]
  go_wp2_with fail
  rw [← HW1.out]
  refine RM'.out.mono ?_
  rintro e w' ⟨rfl, rfl⟩
  have Q1 := Lib.hid q1
  have B1 := Lib.hid b1
  have S1 := Lib.hid qs1
  have LN := Lib.hid hln
  clear qs1 b1 hln
  obtain ⟨lt, c0, c1', c2, c3, fr⟩ := q1
  go_wp2_with fail
  go_quiet (fail)
  obtain ⟨w2, hw2⟩ : ∃ w2, w2 = w1.drewN nq := ⟨_, rfl⟩
  have hq2 : Qt w1 w2 := ⟨nq, hw2⟩
  obtain ⟨lt, c0, c1', c2, c3, fr⟩ := Q1.out.qt hq2
  go_wp2_with fail
  rw [← hw2]
  clear hw2
  go_still_tail 11, (by kernel_rfl)
  change wpList _ _ _ _ _ w2.drew
  obtain ⟨w3, hw3⟩ : ∃ w3, w3 = w2.drew := ⟨_, rfl⟩
  rw [← hw3]
  have hq3 : Qt w1 w3 := by rw [hw3]; exact hq2.drew 1
  have s3 : w3.heap.size = W.heap.size + 1 := by rw [hw3, ← s1]; obtain ⟨k, rfl⟩ := hq2; rfl
  clear hw3 lt c0 c1' c2 c3 fr
  go_wp2_with fail
  obtain ⟨w4, hw4⟩ : ∃ w4, w4 = w3.alloc (.cells (flat (List.replicate R Mk.zero)).toArray 24) := ⟨_, rfl⟩
  rw [← hw4]
  have s4 : w4.heap.size = W.heap.size + 2 := by rw [hw4]; simp; omega
  have e4 : ∀ k, k < W.heap.size + 1 → w4.heap[k]? = w1.heap[k]? := fun k hk => by
    rw [hw4, Below.heap_alloc _ _ _ (by omega)]; obtain ⟨m, rfl⟩ := hq3; rfl
  have g4 : w4.heap[W.heap.size + 1]? = some (.cells (flat (List.replicate R Mk.zero)).toArray 24 (0, 0)) := by rw [hw4, ← s3]; exact heap_alloc_new _ _
  have qs4 : QS w4 b gs lim l := S1.out.of_block (by omega) (fun k hk => e4 k (by have := S1.out.lt k hk; omega))
  have c4 : Ch (fun k => k = b) W w4 := by rw [hw4]; exact (c1.qt hq3).alloc _
  have q4 : Q4 w4 b (.slice p n c) f n lim := Q1.out.of_block (by omega) (e4 b (by omega))
  have b4 : At5 w4 W.heap.size 0 x := B1.out.of_block (e4 _ (by omega))
  clear hw4 e4
  refine (list_q w4 b gs lim l qs4 (by omega)).mono ?_
  rintro e w5 ⟨v, rfl, hown, hb5⟩
  obtain ⟨kk, w6, hcopy, g6, c6⟩ := copy_marks (P := Tryz.prog) w5 53 3 (W.heap.size + 1) R _ v l Tryz.underlying53 (by kernel_rfl) hown ((hb5.block _ (by omega)).trans g4) (by have := LN.out; omega)
  have e6 : ∀ k, k < W.heap.size + 1 → w6.heap[k]? = w4.heap[k]? := fun k hk => (c6.block k (by have := hb5.size; omega) (by omega)).trans (hb5.block k (by omega))
  have z6 : w4.heap.size ≤ w6.heap.size := Nat.le_trans hb5.size c6.size
  have q6 : Q4 w6 b (.slice p n c) f n lim := q4.of_block z6 (e6 b (by omega))
  have b6 : At5 w6 W.heap.size 0 x := b4.of_block (e6 _ (by omega))
  have c46 : Ch (fun k => k = b) W w6 := (c4.trans (Ch.of_below hb5 (fun k => k = b)) (fun i h => .inl h)).trans c6 (fun i h => .inr (by omega))
  have G6 := Lib.hid g6
  have HB5 := Lib.hid hb5
  clear hown hb5 e6 q4 b4 c4 g4 g6 c6
  obtain ⟨lt, c0, c1', c2, c3, fr⟩ := q6
  go_wp2_with (at_builtin; refine wpList_copied rfl _ _ 53 53 rfl _ _ rfl rfl hcopy ?_)
  obtain ⟨w7, hw7⟩ : ∃ w7, w7 = (w6.setCell ⟨b, 0, none⟩ (.slice (some ⟨W.heap.size + 1, 0, none⟩) R R)).setCell ⟨b, 1, none⟩ (.int .i64 0) := ⟨_, rfl⟩
  rw [← hw7]
  have q7 : Q4 w7 b (.slice (some ⟨W.heap.size + 1, 0, none⟩) R R) ((0 : Nat) : Int) n lim := by rw [hw7]; exact (⟨lt, c0, c1', c2, c3, fr⟩ : Q4 w6 b _ _ _ _).set01 _ _
  have e7 : ∀ k, k ≠ b → w7.heap[k]? = w6.heap[k]? := fun k hk => by rw [hw7, Below.heap_setCell _ ⟨b, 1, none⟩ _ k hk, Below.heap_setCell _ ⟨b, 0, none⟩ _ k hk]
  have b7 : At5 w7 W.heap.size 0 x := b6.of_block (e7 _ (by omega))
  have r7 : Ring w7 (W.heap.size + 1) R (fun j => (l ++ List.replicate (R - l.length) Mk.zero).getD j default) := Ring_of_row ((e7 _ (by omega)).trans G6.out) (by have := LN.out; simp; omega)
  have c7 : Ch (fun k => k = b) W w7 := by rw [hw7]; exact (c46.set _ (.inl rfl) _).set _ (.inl rfl) _
  have Q7 := Lib.hid q7
  have B7 := Lib.hid b7
  have R7 := Lib.hid r7
  have AT := Lib.hid (fun w' q => at_t w' b (some ⟨W.heap.size + 1, 0, none⟩) ((0 : Nat) : Int) n lim R R n q (by omega) (by omega) ⟨by omega, by omega⟩ (by omega))
  have ej : (((0 : Nat) : Int) + (n : Int)) % (R : Int) = (n : Int) := by
    rw [Int.emod_eq_of_lt (by omega) (by omega)]; simp
  simp only [ej] at AT
  have hjR : (n : Int) < (R : Int) := by omega
  have hgb : W.heap.size + 1 ≠ b := by omega
  have KQ : Hid (∀ w', Qt w7 w' → w'.cell? ⟨b, 0, none⟩ = some (.slice (some ⟨W.heap.size + 1, 0, none⟩) R R) ∧ w'.cell? ⟨b, 2, none⟩ = some (.int .i64 n) ∧ w'.cell? ⟨W.heap.size, 0, none⟩ = some (.int .i64 x.t) ∧ w'.cell? ⟨W.heap.size, 1, none⟩ = some (.int .i64 x.k) ∧ w'.cell? ⟨W.heap.size, 2, none⟩ = some (.int .i64 x.h) ∧ w'.cell? ⟨W.heap.size, 3, none⟩ = some (.int .i64 x.j) ∧ w'.cell? ⟨W.heap.size, 4, none⟩ = some (.int .i64 x.n)) := by
    intro w' q
    have q4 := Q7.out.qt q
    have a5 := B7.out.qt q
    exact ⟨q4.c0, q4.c2, a5.c0, a5.c1, a5.c2, a5.c3, a5.c4⟩
  have KP : Hid (∀ w', Qt w7 w' → (put5 w' (W.heap.size + 1) (n * 5) x).cell? ⟨b, 0, none⟩ = some (.slice (some ⟨W.heap.size + 1, 0, none⟩) R R) ∧ (put5 w' (W.heap.size + 1) (n * 5) x).cell? ⟨b, 2, none⟩ = some (.int .i64 n) ∧ (put5 w' (W.heap.size + 1) (n * 5) x).cell? ⟨W.heap.size, 0, none⟩ = some (.int .i64 x.t) ∧ (put5 w' (W.heap.size + 1) (n * 5) x).cell? ⟨W.heap.size, 1, none⟩ = some (.int .i64 x.k) ∧ (put5 w' (W.heap.size + 1) (n * 5) x).cell? ⟨W.heap.size, 2, none⟩ = some (.int .i64 x.h) ∧ (put5 w' (W.heap.size + 1) (n * 5) x).cell? ⟨W.heap.size, 3, none⟩ = some (.int .i64 x.j) ∧ (put5 w' (W.heap.size + 1) (n * 5) x).cell? ⟨W.heap.size, 4, none⟩ = some (.int .i64 x.n)) := by
    intro w' q
    have q4 := (Q7.out.qt q).of_block (w' := put5 w' (W.heap.size + 1) (n * 5) x) (by rw [put5_size]; exact Nat.le_refl _) (put5_block _ _ _ _ _ (fun e => hgb e.symm))
    have a5 := (B7.out.qt q).of_block (w' := put5 w' (W.heap.size + 1) (n * 5) x) (put5_block _ _ _ _ _ (by omega))
    exact ⟨q4.c0, q4.c2, a5.c0, a5.c1, a5.c2, a5.c3, a5.c4⟩
  have hqd : Qt w7 w7.drew := (Qt.refl w7).drew 1
  clear hw7 ej lt c0 c1' c2 c3 fr q7 b7 r7 b6 e7 c46 hcopy
  obtain ⟨d0, d1, d2, d3, d4, d5, d6⟩ := KQ.out _ (Qt.refl w7)
  go_wp2_with fail
  go_region_held3 (fun w' => w'.cell? ⟨b, 0, none⟩ = some (.slice (some ⟨W.heap.size + 1, 0, none⟩) R R) ∧ w'.cell? ⟨b, 2, none⟩ = some (.int .i64 n) ∧ w'.cell? ⟨W.heap.size, 0, none⟩ = some (.int .i64 x.t) ∧ w'.cell? ⟨W.heap.size, 1, none⟩ = some (.int .i64 x.k) ∧ w'.cell? ⟨W.heap.size, 2, none⟩ = some (.int .i64 x.h) ∧ w'.cell? ⟨W.heap.size, 3, none⟩ = some (.int .i64 x.j) ∧ w'.cell? ⟨W.heap.size, 4, none⟩ = some (.int .i64 x.n)) ((first | exact KQ.out _ hqd | exact KQ.out _ hq3 | exact KP.out _ hq3)) ((first | (go_at_call 78; refine (AT.out _ (Q7.out.qt hqd)).mono ?_; rintro e w8 ⟨rfl, hqe⟩; have hq3 := hqd.trans hqe; have r3 := R7.out.qt hq3; have y5 := r3.at5 n hRn; obtain ⟨y0, y1, y2, y3, y4⟩ := y5; have yf := r3.fr)))
  obtain ⟨w9, hw9⟩ : ∃ w9, w9 = put5 w8 (W.heap.size + 1) (n * 5) x := ⟨_, rfl⟩
  rw [show ((((w8.setCell ⟨W.heap.size + 1, n * 5, none⟩ (.int .i64 x.t)).setCell ⟨W.heap.size + 1, n * 5 + 1, none⟩ (.int .i64 x.k)).setCell ⟨W.heap.size + 1, n * 5 + 2, none⟩ (.int .i64 x.h)).setCell ⟨W.heap.size + 1, n * 5 + 3, none⟩ (.int .i64 x.j)).setCell ⟨W.heap.size + 1, n * 5 + 4, none⟩ (.int .i64 x.n) = w9 from hw9.symm]
  have q9 : Q4 w9 b (.slice (some ⟨W.heap.size + 1, 0, none⟩) R R) ((0 : Nat) : Int) n lim := by
    rw [hw9]; exact (Q7.out.qt hq3).of_block (by rw [put5_size]; exact Nat.le_refl _) (put5_block _ _ _ _ _ (fun e => hgb e.symm))
  have r9 := r3.put n hRn x
  rw [← hw9] at r9
  have c9 : Ch (fun k => k = b) W w9 := by rw [hw9]; exact (c7.qt hq3).put _ (.inr (by omega)) _ _
  have Q9 := Lib.hid q9
  clear hw9 d0 d1 d2 d3 d4 d5 d6 y0 y1 y2 y3 y4 yf r3 KQ KP AT
  obtain ⟨lt, c0, c1', c2, c3, fr⟩ := q9
  go_wp2_with fail
  go_ret
  refine ⟨rfl, .inr ⟨W.heap.size + 1, R, R, 0, _, rfl, hgb, ?_, by omega, Nat.le_refl _, by omega, ?_, hRl, r9.of_block (by simp [World.setCell]) (Below.heap_setCell _ ⟨b, 2, none⟩ _ _ hgb), ?_⟩, c9.set _ (.inl rfl) _⟩
  · have := Q9.out.set2 (n + 1)
    have hl := LN.out
    simpa [hl] using this
  · have hl := LN.out
    simp; omega
  · have hl := LN.out
    have e : (l ++ [x]).length = n + 1 := by simp [hl]
    rw [e]
    apply List.ext_getElem?
    intro i
    by_cases hi : i < n + 1
    · simp only [ringList, List.getElem?_map, List.getElem?_range hi, Option.map_some, Nat.zero_add, Nat.mod_eq_of_lt (show i < R by omega)]
      by_cases hin : i = n
      · subst hin
        rw [if_pos rfl, List.getElem?_append_right (by omega), hl]
        simp
      · rw [if_neg hin, List.getElem?_append_left (by omega)]
        simp [List.getD, List.getElem?_append_left (show i < l.length by omega), List.getElem?_eq_getElem (show i < l.length by omega)]
    · rw [List.getElem?_eq_none (by omega), List.getElem?_eq_none (by rw [ringList_length]; omega)]

theorem mod2 (a R : Nat) (h : a < 2 * R) : a % R = if a < R then a else a - R := by
  split
  · exact Nat.mod_eq_of_lt (by omega)
  · rw [Nat.mod_eq_sub_mod (by omega), Nat.mod_eq_of_lt (by omega)]
theorem ringList_put (ms : Nat → Mk) (f R n : Nat) (x : Mk) (hf : f < R) (hn : n < R) : ringList (fun i => if i = (f + n) % R then x else ms i) f R n = ringList ms f R n := by
  unfold ringList
  apply List.map_congr_left
  intro i hi
  have hi' : i < n := List.mem_range.1 hi
  show (if (f + i) % R = (f + n) % R then x else ms ((f + i) % R)) = _
  rw [if_neg]
  rw [mod2 _ _ (by omega), mod2 _ _ (by omega)]
  split <;> split <;> omega
/-- Push, whatever the ring. -/
theorem push_q (W : World) (b : Nat) (gs : List Nat) (lim : Nat) (l : List Mk) (x : Mk) (hq : QS W b gs lim l) (hn : l.length < lim) (hl' : lim ≤ 4096) :
    Calls Tryz.prog 54 #[.pointer (some ⟨b, 0, none⟩), x.val] W fun e w' => e = .returned .nilIface ∧ ∃ gs', QS w' b gs' lim (l ++ [x]) ∧ (∀ k ∈ gs', k ∈ gs ∨ W.heap.size ≤ k) ∧ Ch (fun k => k = b ∨ k ∈ gs) W w' := by
  have grow : ∀ p n c f, Q4 W b (.slice p n c) (f : Nat) n lim → l.length = n → Calls Tryz.prog 54 #[.pointer (some ⟨b, 0, none⟩), x.val] W fun e w' => e = .returned .nilIface ∧ ∃ gs', QS w' b gs' lim (l ++ [x]) ∧ (∀ k ∈ gs', k ∈ gs ∨ W.heap.size ≤ k) ∧ Ch (fun k => k = b ∨ k ∈ gs) W w' := by
    intro p n c f h hln
    refine (pushB W b gs n lim c p f l x h hq hln (by omega) hl').mono ?_
    rintro e w' ⟨rfl, h1, h2⟩
    exact ⟨rfl, _, h1, fun k hk => .inr (by simp at hk; omega), h2.mono (fun k hk => .inl hk)⟩
  rcases hq with ⟨rfl, rfl, h⟩ | ⟨g, R, c, f, ms, rfl, h2, h, h3, h4, h5, h6, h7, h8, h9⟩
  · exact grow none 0 0 0 h rfl
  · by_cases hR : l.length = R
    · rw [hR] at h
      exact grow _ R c f h hR
    · refine (pushA W b g R c f l.length lim ms x h h3 (by omega) h4 h5 (by omega) (by omega) (by omega) h8 h2).mono ?_
      rintro e w' ⟨rfl, q, r, ch⟩
      refine ⟨rfl, [g], .inr ⟨g, R, c, f, _, rfl, h2, by simpa using q, h3, h4, h5, by simp; omega, h7, r, ?_⟩, fun k hk => .inl hk, ch.mono (fun k hk => by simpa using hk)⟩
      have e : (l ++ [x]).length = l.length + 1 := by simp
      rw [e, ringList_succ, if_pos rfl]
      congr 1
      exact h9.trans (ringList_put ms f R l.length x h5 (by omega)).symm
end Go.Proofs.YtohodbpjcbjifaaGreatDoor
