/- kernel.State of the kernel with the root alone. -/
import Derived.Test.YtmfmmopnapchjaaDoorVl
import Derived.Deep.MidRow
namespace Go.Proofs.YtmfmmopnapchjaaDoor
open Go Go.RowKit Go.ChangeShapes Go.WideShapes
set_option linter.unusedVariables false
set_option linter.unusedSimpArgs false
set_option maxRecDepth 100000
set_option maxHeartbeats 3200000

theorem own_set {w : World} {B : Nat} {e : TypeId} {s : Nat} {v : Value} {n : Nat} {l : List Value} {S : Nat} (h : w.ownsRow B e s v n l) (hne : v.ownBlock ≠ some S) (i : Nat) (u : Value) : (w.setCell ⟨S, i, none⟩ u).ownsRow B e s v n l := by
  obtain ⟨h1, h2⟩ := h
  refine ⟨h1, ?_⟩
  rcases h2 with h | ⟨b, cap, cur, rfl, hb, hh, r⟩
  · exact .inl h
  · refine .inr ⟨b, cap, cur, rfl, hb, ?_, r⟩
    rw [kb_other (fun e => hne (by rw [← e]; rfl))]
    exact hh
/-- The root's state. -/
def ns0 : List Value := [.int .i64 1099511627777, .int .i64 0, .int .i64 0, .int .i64 0, .int .i64 0, .int .i64 0, .bool false, .int .i64 0, .int .i64 0, .int .i64 0, .int .i64 0, .int .i64 0, .int .i64 0, .int .i64 0, .int .i64 0, .int .i64 0, .int .i64 0, .int .i64 0, .int .i64 0, .int .i64 0, .int .i64 0, .int .i64 0, .int .i64 0, .slice none 0 0, .slice none 0 0, .slice none 0 0]
abbrev stObj (now idle : Int) (gv nv : Option Addr) (gn gc nn nc : Nat) : Obj := .cells #[.int .i64 now, .int .i64 idle, .slice gv gn gc, .slice nv nn nc, .slice none 0 0, .slice none 0 0, .slice none 0 0, .int .i64 0] 67
abbrev nsZL : List Value := [.int .i64 0, .int .i64 0, .int .i64 0, .int .i64 0, .int .i64 0, .int .i64 0, .bool false, .int .i64 0, .int .i64 0, .int .i64 0, .int .i64 0, .int .i64 0, .int .i64 0, .int .i64 0, .int .i64 0, .int .i64 0, .int .i64 0, .int .i64 0, .int .i64 0, .int .i64 0, .int .i64 0, .int .i64 0, .int .i64 0, .slice none 0 0, .slice none 0 0, .slice none 0 0]
abbrev nsZ : Obj := .cells #[.int .i64 0, .int .i64 0, .int .i64 0, .int .i64 0, .int .i64 0, .int .i64 0, .bool false, .int .i64 0, .int .i64 0, .int .i64 0, .int .i64 0, .int .i64 0, .int .i64 0, .int .i64 0, .int .i64 0, .int .i64 0, .int .i64 0, .int .i64 0, .int .i64 0, .int .i64 0, .int .i64 0, .int .i64 0, .int .i64 0, .slice none 0 0, .slice none 0 0, .slice none 0 0] 79
theorem setCells_putL (b : Nat) (vs : List Value) : ∀ (w : World) (o : Nat), w.setCells b o vs = putL w b o vs := by
  induction vs with
  | nil => intro w o; rfl
  | cons v vs ih => intro w o; exact ih _ _
theorem isSome_blk {w : World} {b : Nat} {cs : Array Value} {T : TypeId} (h : w.heap[b]? = some (.cells cs T)) {i : Nat} (hi : i < cs.size) : (w.cell? ⟨b, 0 + i, none⟩).isSome = true := by
  rw [kb_cell h]
  simpa using hi
abbrev z12 : List Value := [.int .i64 0, .int .i64 0, .int .i64 0, .int .i64 0, .int .i64 0, .int .i64 0, .int .i64 0, .int .i64 0, .int .i64 0, .int .i64 0, .int .i64 0, .int .i64 0]
theorem Tryd.infoNS : (Tryd.prog.info? 79).map (fun i => (i.zero, i.size, i.bytes)) = some (some (.agg nsZL.toArray), 26, 256) := by kernel_rfl
theorem Ch.thenBelow {S : Nat → Prop} {a b c : World} (h : Ch S a b) (k : Below a.heap.size b c) : Ch S a c :=
  ⟨k.os.trans h.os, k.tape.trans h.tape, k.output.trans h.output, Nat.le_trans h.size k.size, fun i hi hS => (k.block i hi).trans (h.block i hi hS)⟩
theorem own_ch {w w' : World} {B : Nat} {e : TypeId} {s : Nat} {v : Value} {n : Nat} {l : List Value} {S : Nat} (h : w.ownsRow B e s v n l) (c : Ch (fun x => x = S) w w') (hne : ∀ k, v.ownBlock = some k → k ≠ S) : w'.ownsRow B e s v n l := by
  obtain ⟨h1, h2⟩ := h
  refine ⟨h1, ?_⟩
  rcases h2 with h | ⟨b, cap, cur, rfl, hb, hh, r⟩
  · exact .inl h
  · refine .inr ⟨b, cap, cur, rfl, hb, ?_, r⟩
    rw [c.block b (kb_lt hh) (hne b rfl)]
    exact hh
theorem own_putL {b : Nat} {B : Nat} {e : TypeId} {s : Nat} {v : Value} {n : Nat} {l : List Value} {w : World} (h : w.ownsRow B e s v n l) (hne : v.ownBlock ≠ some b) (vs : List Value) (o : Nat) : (putL w b o vs).ownsRow B e s v n l := by
  obtain ⟨h1, h2⟩ := h
  refine ⟨h1, ?_⟩
  rcases h2 with h | ⟨k, cap, cur, rfl, hb, hh, r⟩
  · exact .inl h
  · refine .inr ⟨k, cap, cur, rfl, hb, ?_, r⟩
    rw [putL_other (fun e => hne (by rw [← e]; rfl))]
    exact hh
/-- What State leaves. -/
structure St0 (W w : World) (gp : Option Addr) (gc : Nat) (np : Option Addr) (nc : Nat) (ap : Option Addr) (ac : Nat) (tp : Option Addr) (tc : Nat) : Prop where
  ga : w.ownsRow W.heap.size 3 1 (.slice gp 64 gc) 64 (gensL (fun _ => 1) 64)
  nd : w.ownsRow W.heap.size 79 26 (.slice np 1 nc) 1 ns0
  sg : w.ownsRow W.heap.size 3 1 (.slice ap 16 ac) 16 (gensL (fun _ => 1) 16)
  st : w.ownsRow W.heap.size 4 1 (.slice tp 16 tc) 16 (tkL (fun _ => false) 16)
  be : Below W.heap.size W w
theorem alloc_size (w : World) (o : Obj) : (w.alloc o).heap.size = w.heap.size + 1 := by simp
theorem K0.walk1 (lf n : Nat) (h : n = n) : walkS (fun _ => 1) (fun i => decide (i = 0)) (fun _ => (⟨0, BudD.zero, 0, lf⟩ : NdV)) 2 0 = [0] := by
  have e : kidSl (fun _ => 1) (fun i => decide (i = 0)) (fun _ => (⟨0, BudD.zero, 0, lf⟩ : NdV)) 0 = [] := by
    unfold kidSl
    rw [List.filter_eq_nil_iff]
    intro a _
    simp [hnd]
  simp [walkS, e]
theorem K0.deep1 (lf : Nat) : Deep (fun _ => 1) (fun i => decide (i = 0)) (fun _ => (⟨0, BudD.zero, 0, lf⟩ : NdV)) 2 0 := by
  intro j hj
  exfalso
  have := (List.mem_filter.1 hj).2
  simp [hnd] at this
theorem state0_c (w : World) (k t r n lf bk m pl pt pr : Nat) (H : K0 w k t r n lf bk m pl pt pr) :
    Calls Tryd.prog 21 #[.pointer (some ⟨k, 0, none⟩)] w fun e w' => ∃ gp gc np nc ap ac tp tc, e = .returned (.agg #[.int .i64 0, .int .i64 0, .slice gp 64 gc, .slice np 1 nc, .slice ap 16 ac, .slice tp 16 tc, .slice none 0 0, .int .i64 (-1)]) ∧ St0 w w' gp gc np nc ap ac tp tc := by
  have HK := Lib.hid H
  obtain ⟨i0, hi0, hz0, hz1, hz2⟩ := info_of Tryd.infoNS
  have c := kb_cell H.kb
  have SL := Lib.hid (fun w' (b : Below w.heap.size w w') => slotsN_c w' _ _ _ _ _ _ _ (H.below b).nodes.tab (by decide) (fun i _ => ⟨_, rfl⟩))
  have AL := Lib.hid (fun w' (b : Below w.heap.size w w') => kerAll_c w' k t r bk pl 0 0 _ _ _ _ (by rw [show hnd 1 0 1 = 1099511627777 from by decide]; exact (H.below b).kb) (H.below b).nodes (fun i _ _ => by decide) 2 rfl (K0.deep1 lf) (by rw [K0.walk1 lf 0 rfl]; decide))
  rw [K0.walk1 lf 0 rfl] at AL
  obtain ⟨w1, hw1⟩ : ∃ w1, w1 = w.alloc (.cells #[.int .i64 0, .int .i64 0, .slice none 0 0, .slice none 0 0, .slice none 0 0, .slice none 0 0, .slice none 0 0, .int .i64 0] 67) := ⟨_, rfl⟩
  have b1 : Below w.heap.size w w1 := hw1 ▸ (Below.refl _ w).alloc (Nat.le_refl _) _
  have n1 : w1.heap[w.heap.size]? = _ := hw1 ▸ kb_new w _
  have k1 := kb_below H.kb b1
  have hk := kb_lt k1
  have c1 := kb_cell k1
  have HW := Lib.hid hw1
  have B1 := Lib.hid b1
  have N1 := Lib.hid n1
  clear H k1 n1 b1 hw1
  go_enter Tryd.func21, Tryd.ntmps21
  go_wp2_with fail
  rw [← HW.out]
  clear c
  go_region
  obtain ⟨S, hS⟩ : ∃ S, S = w1.heap.size := ⟨_, rfl⟩
  generalize hw2 : World.drew (World.alloc w1 _) = w2
  have n2 : w2.heap[S]? = some (stObj 0 0 none none 0 0 0 0) := by rw [← hw2, hS]; exact kb_new w1 _
  have r2 : w2.heap[w.heap.size]? = some (stObj 0 0 none none 0 0 0 0) := by rw [← hw2]; exact kb_alloc N1.out _
  have b2 : Below w.heap.size w w2 := by rw [← hw2]; exact (B1.out.alloc B1.out.size _).drew
  have s2 : Hid (w2.heap.size = S + 1) := Lib.hid (by rw [← hw2, hS]; exact alloc_size w1 _)
  have hws : Hid (w.heap.size < S) := Lib.hid (by rw [hS]; exact kb_lt N1.out)
  rw [← hS]
  clear hw2 hS hk c1 N1 B1 HW
  have c2 := kb_cell (HK.out.below b2).kb
  have N2 := Lib.hid n2
  have R2 := Lib.hid r2
  have B2 := Lib.hid b2
  clear n2 r2 b2
  go_wp2_with fail
  refine (SL.out _ B2.out).mono ?_
  rintro e w3 ⟨va, vb, rfl, h3⟩
  obtain ⟨gp, gc, rfl⟩ := own_form1 h3.ga
  obtain ⟨tp, tc, rfl⟩ := own_form1 h3.ta
  have n3 := kb_below N2.out h3.be
  have GE := Lib.hid (own_ge1 h3.ga)
  have GA := Lib.hid h3.ga
  have R3 := Lib.hid (kb_below R2.out h3.be)
  have B3 := Lib.hid (B2.out.trans (h3.be.mono B2.out.size))
  have f3 := kb_frozen n3
  have x3 := kb_cell n3
  have N3 := Lib.hid n3
  clear h3 n3 c2
  go_wp2_with fail
  generalize hw4 : World.setCell w3 _ _ = w4
  have n4 : w4.heap[S]? = some (stObj 0 0 gp none 64 gc 0 0) := hw4 ▸ (kb_set N3.out 2 _)
  have b4 : Below w.heap.size w w4 := hw4 ▸ B3.out.setCell (p := ⟨S, 2, none⟩) (Nat.le_of_lt hws.out) _
  have g4 : w4.ownsRow _ _ _ _ _ _ := hw4 ▸ own_set GA.out (fun e => by have := GE.out S e; have := s2.out; omega) 2 _
  have r4 : w4.heap[w.heap.size]? = _ := hw4 ▸ (kb_other (Nat.ne_of_lt hws.out) 2 _).trans R3.out
  have B4 := Lib.hid b4
  have N4 := Lib.hid n4
  have G4 := Lib.hid g4
  have R4 := Lib.hid r4
  have hS4 : Hid (S < w4.heap.size) := Lib.hid (kb_lt n4)
  clear hw4 n4 b4 g4 r4 f3 x3 N3 B3 GA GE
  refine (AL.out _ B4.out).mono ?_
  rintro e w5 ⟨v5, rfl, own5, b5⟩
  obtain ⟨R0, L0⟩ := RG_own own5
  have g5 := own_ge1 own5
  obtain ⟨p5, c5, hv5, hp5⟩ := R0.out
  simp only [List.map_cons, List.map_nil, List.length_cons, List.length_nil] at hv5 hp5
  subst hv5
  obtain ⟨b0, o0, rfl, _, hb0, hcell⟩ := hp5 (by decide)
  have e5 : w5.cell? ⟨b0, o0, none⟩ = some (.int .i64 (hnd 1 0 1)) := by
    have := hcell 0 (by decide)
    rw [Nat.add_zero] at this
    rw [this]
    rfl
  have hb0S : Hid (b0 ≠ S) := Lib.hid (by have := g5 b0 rfl; have := hS4.out; omega)
  have HB0 := Lib.hid hb0
  have B5 := Lib.hid (B4.out.trans (b5.mono B4.out.size))
  have N5 := Lib.hid (kb_below N4.out b5)
  have G5 := Lib.hid (own_below1 G4.out b5)
  have R5 := Lib.hid (kb_below R4.out b5)
  have hS5 : Hid (S < w5.heap.size) := Lib.hid (kb_lt N5.out)
  have E5 := Lib.hid e5
  clear own5 b5 R0 L0 g5 hp5 hcell hb0 N4 G4 R4 B4 hS4 e5
  go_wp2_with fail
  go_loopw [33] (fun y wr => ∃ (j : Nat) (np : Option Addr) (nc : Nat), j ≤ 1 ∧ y = .int .i64 j ∧ wr.heap[S]? = some (stObj 0 0 gp np 64 gc j nc) ∧ wr.ownsRow w5.heap.size 79 26 (.slice np j nc) j (if j = 0 then [] else ns0) ∧ Ch (fun x => x = S) w5 wr ∧ (j = 0 → np = none ∧ nc = 0)) (fun y _ => 1 - (intOf y).toNat)
  case atStart => exact ⟨0, none, 0, by decide, rfl, N5.out, World.ownsRow_nil _ _ _ _, Ch.refl _ _, fun _ => ⟨rfl, rfl⟩⟩
  case round =>
    obtain ⟨j, np, nc, hj, rfl, hs, hown, hch, hnil⟩ := hrel
    have BW := Lib.hid (B5.out.trans (hch.below (B := w.heap.size) (fun k hk => by subst hk; exact Nat.le_of_lt hws.out) B5.out.size))
    have HS := Lib.hid hs
    have HO := Lib.hid hown
    have HC := Lib.hid hch
    have HKr := HK.out.below BW.out
    have q1 := kb_cell HKr.kb
    have q2 := kb_cell hs
    clear hs hown hch
    by_cases hlt : j = 0
    · subst hlt
      obtain ⟨rfl, rfl⟩ := hnil rfl
      have e6 : wr.cell? ⟨b0, o0, none⟩ = some (.int .i64 (hnd 1 0 1)) := by
        rw [World.cell?_of_block (w := w5) (a := ⟨b0, o0, none⟩) (HC.out.block b0 HB0.out hb0S.out)]
        exact E5.out
      have GN := Lib.hid (getN_some wr t r 64 1 0 (fun _ => 1) (fun i => decide (i = 0)) _ (some ⟨n, 0, none⟩) (hnd 1 0 1) HKr.nodes.tab (by decide) (by decide) rfl)
      rw [show hnd 1 0 1 = 1099511627777 from by decide] at e6 GN
      clear HKr
      go_wp2_with fail
      refine GN.out.mono ?_
      rintro e w6 ⟨rfl, q6⟩
      have B6 := Lib.hid (BW.out.trans (q6.below.mono BW.out.size))
      have S6 := Lib.hid (kb_below HS.out q6.below)
      have O6 := Lib.hid (own_below1 HO.out q6.below)
      have C6 := Lib.hid (HC.out.qt q6)
      have HK6 := Lib.hid (HK.out.below B6.out)
      have ND6 := Lib.hid (kb_cell (HK6.out.nodes.nd 0 (by decide) rfl))
      have hn6 := kb_lt (HK6.out.nodes.nd 0 (by decide) rfl)
      simp only [BudD.zero] at ND6
      have m0 := ND6.out 0
      have m1 := ND6.out 1
      have m2 := ND6.out 2
      have m3 := ND6.out 3
      have m4 := ND6.out 4
      have m5 := ND6.out 5
      have m6 := ND6.out 6
      have m7 := ND6.out 7
      have m8 := ND6.out 8
      have m9 := ND6.out 9
      simp at m0 m1 m2 m3 m4 m5 m6 m7 m8 m9
      clear q6 q1 q2 e6
      go_wp2_with fail
      refine wp_region_held_drew (S := fun w' => w'.cell? ⟨n, 0, none⟩ = some (.int .i64 0) ∧ w'.cell? ⟨n, 1, none⟩ = some (.int .i64 0) ∧ w'.cell? ⟨n, 2, none⟩ = some (.int .i64 0) ∧ w'.cell? ⟨n, 3, none⟩ = some (.int .i64 0) ∧ w'.cell? ⟨n, 4, none⟩ = some (.int .i64 0) ∧ w'.cell? ⟨n, 5, none⟩ = some (.bool false) ∧ w'.cell? ⟨n, 6, none⟩ = some (.int .i64 0) ∧ w'.cell? ⟨n, 7, none⟩ = some (.int .i64 0) ∧ w'.cell? ⟨n, 8, none⟩ = some (.int .i64 0) ∧ w'.cell? ⟨n, 9, none⟩ = some (.int .i64 0)) (by kernel_rfl) ⟨m0, m1, m2, m3, m4, m5, m6, m7, m8, m9⟩ (fun hHeld => ?_)
      refine wpAnyH_take (i := 0) (oi := ?_) (v := ?_) ?_ ?_ ?_ ?_ ?_ ?_ hHeld ?_
      rotate_left 2
      · rw [List.getElem?_toArray]; exact rfl
      · kernel_rfl
      · kernel_rfl
      · kernel_rfl
      · exact fun _ _ _ h => h
      · refine Or.inl ⟨by rfl, ?_⟩
        intro w hSw
        (try dsimp only at hSw)
        obtain ⟨h0, h1, h2, h3, h4, h5, h6, h7, h8, h9⟩ := hSw
        go_simp
        try with_reducible rfl
      (try simp only [Act.put, List.setIfInBounds_toArray, List.set_cons_zero, List.set_cons_succ])
      refine wpAnyH_take (i := 1) (oi := ?_) (v := ?_) ?_ ?_ ?_ ?_ ?_ ?_ hHeld ?_
      rotate_left 2
      · rw [List.getElem?_toArray]; exact rfl
      · kernel_rfl
      · kernel_rfl
      · kernel_rfl
      · exact fun _ _ _ h => h
      · refine Or.inl ⟨by rfl, ?_⟩
        intro w hSw
        (try dsimp only at hSw)
        obtain ⟨h0, h1, h2, h3, h4, h5, h6, h7, h8, h9⟩ := hSw
        go_simp
        try with_reducible rfl
      (try simp only [Act.put, List.setIfInBounds_toArray, List.set_cons_zero, List.set_cons_succ])
      refine wpAnyH_take (i := 2) (oi := ?_) (v := ?_) ?_ ?_ ?_ ?_ ?_ ?_ hHeld ?_
      rotate_left 2
      · rw [List.getElem?_toArray]; exact rfl
      · kernel_rfl
      · kernel_rfl
      · kernel_rfl
      · exact fun _ _ _ h => h
      · refine Or.inl ⟨by rfl, ?_⟩
        intro w hSw
        (try dsimp only at hSw)
        obtain ⟨h0, h1, h2, h3, h4, h5, h6, h7, h8, h9⟩ := hSw
        go_simp
        try with_reducible rfl
      (try simp only [Act.put, List.setIfInBounds_toArray, List.set_cons_zero, List.set_cons_succ])
      refine wpAnyH_take (i := 3) (oi := ?_) (v := ?_) ?_ ?_ ?_ ?_ ?_ ?_ hHeld ?_
      rotate_left 2
      · rw [List.getElem?_toArray]; exact rfl
      · kernel_rfl
      · kernel_rfl
      · kernel_rfl
      · exact fun _ _ _ h => h
      · refine Or.inl ⟨by rfl, ?_⟩
        intro w hSw
        (try dsimp only at hSw)
        obtain ⟨h0, h1, h2, h3, h4, h5, h6, h7, h8, h9⟩ := hSw
        go_simp
        try with_reducible rfl
      (try simp only [Act.put, List.setIfInBounds_toArray, List.set_cons_zero, List.set_cons_succ])
      refine wpAnyH_take (i := 4) (oi := ?_) (v := ?_) ?_ ?_ ?_ ?_ ?_ ?_ hHeld ?_
      rotate_left 2
      · rw [List.getElem?_toArray]; exact rfl
      · kernel_rfl
      · kernel_rfl
      · kernel_rfl
      · exact fun _ _ _ h => h
      · refine Or.inl ⟨by rfl, ?_⟩
        intro w hSw
        (try dsimp only at hSw)
        obtain ⟨h0, h1, h2, h3, h4, h5, h6, h7, h8, h9⟩ := hSw
        go_simp
        try with_reducible rfl
      (try simp only [Act.put, List.setIfInBounds_toArray, List.set_cons_zero, List.set_cons_succ])
      refine wpAnyH_take (i := 5) (oi := ?_) (v := ?_) ?_ ?_ ?_ ?_ ?_ ?_ hHeld ?_
      rotate_left 2
      · rw [List.getElem?_toArray]; exact rfl
      · kernel_rfl
      · kernel_rfl
      · kernel_rfl
      · exact fun _ _ _ h => h
      · refine Or.inl ⟨by rfl, ?_⟩
        intro w hSw
        (try dsimp only at hSw)
        obtain ⟨h0, h1, h2, h3, h4, h5, h6, h7, h8, h9⟩ := hSw
        go_simp
        try with_reducible rfl
      (try simp only [Act.put, List.setIfInBounds_toArray, List.set_cons_zero, List.set_cons_succ])
      refine wpAnyH_take (i := 6) (oi := ?_) (v := ?_) ?_ ?_ ?_ ?_ ?_ ?_ hHeld ?_
      rotate_left 2
      · rw [List.getElem?_toArray]; exact rfl
      · kernel_rfl
      · kernel_rfl
      · kernel_rfl
      · exact fun _ _ _ h => h
      · refine Or.inl ⟨by rfl, ?_⟩
        intro w hSw
        (try dsimp only at hSw)
        obtain ⟨h0, h1, h2, h3, h4, h5, h6, h7, h8, h9⟩ := hSw
        go_simp
        try with_reducible rfl
      (try simp only [Act.put, List.setIfInBounds_toArray, List.set_cons_zero, List.set_cons_succ])
      refine wpAnyH_take (i := 7) (oi := ?_) (v := ?_) ?_ ?_ ?_ ?_ ?_ ?_ hHeld ?_
      rotate_left 2
      · rw [List.getElem?_toArray]; exact rfl
      · kernel_rfl
      · kernel_rfl
      · kernel_rfl
      · exact fun _ _ _ h => h
      · refine Or.inl ⟨by rfl, ?_⟩
        intro w hSw
        (try dsimp only at hSw)
        obtain ⟨h0, h1, h2, h3, h4, h5, h6, h7, h8, h9⟩ := hSw
        go_simp
        try with_reducible rfl
      (try simp only [Act.put, List.setIfInBounds_toArray, List.set_cons_zero, List.set_cons_succ])
      refine wpAnyH_take (i := 8) (oi := ?_) (v := ?_) ?_ ?_ ?_ ?_ ?_ ?_ hHeld ?_
      rotate_left 2
      · rw [List.getElem?_toArray]; exact rfl
      · kernel_rfl
      · kernel_rfl
      · kernel_rfl
      · exact fun _ _ _ h => h
      · refine Or.inl ⟨by rfl, ?_⟩
        intro w hSw
        (try dsimp only at hSw)
        obtain ⟨h0, h1, h2, h3, h4, h5, h6, h7, h8, h9⟩ := hSw
        go_simp
        try with_reducible rfl
      (try simp only [Act.put, List.setIfInBounds_toArray, List.set_cons_zero, List.set_cons_succ])
      refine wpAnyH_take (i := 9) (oi := ?_) (v := ?_) ?_ ?_ ?_ ?_ ?_ ?_ hHeld ?_
      rotate_left 2
      · rw [List.getElem?_toArray]; exact rfl
      · kernel_rfl
      · kernel_rfl
      · kernel_rfl
      · exact fun _ _ _ h => h
      · refine Or.inl ⟨by rfl, ?_⟩
        intro w hSw
        (try dsimp only at hSw)
        obtain ⟨h0, h1, h2, h3, h4, h5, h6, h7, h8, h9⟩ := hSw
        go_simp
        try with_reducible rfl
      (try simp only [Act.put, List.setIfInBounds_toArray, List.set_cons_zero, List.set_cons_succ])
      refine wpAnyH_take (i := 10) (oi := ?_) (v := ?_) ?_ ?_ ?_ ?_ ?_ ?_ hHeld ?_
      rotate_left 2
      · rw [List.getElem?_toArray]; exact rfl
      · kernel_rfl
      · kernel_rfl
      · kernel_rfl
      · exact fun _ _ _ h => h
      · refine Or.inl ⟨by rfl, ?_⟩
        intro w hSw
        (try dsimp only at hSw)
        obtain ⟨h0, h1, h2, h3, h4, h5, h6, h7, h8, h9⟩ := hSw
        go_simp
        try with_reducible rfl
      (try simp only [Act.put, List.setIfInBounds_toArray, List.set_cons_zero, List.set_cons_succ])
      refine wpAnyH_take (i := 11) (oi := ?_) (v := ?_) ?_ ?_ ?_ ?_ ?_ ?_ hHeld ?_
      rotate_left 2
      · rw [List.getElem?_toArray]; exact rfl
      · kernel_rfl
      · kernel_rfl
      · kernel_rfl
      · exact fun _ _ _ h => h
      · refine Or.inl ⟨by rfl, ?_⟩
        intro w hSw
        (try dsimp only at hSw)
        obtain ⟨h0, h1, h2, h3, h4, h5, h6, h7, h8, h9⟩ := hSw
        go_simp
        try with_reducible rfl
      (try simp only [Act.put, List.setIfInBounds_toArray, List.set_cons_zero, List.set_cons_succ])
      refine wpAnyH_take (i := 12) (oi := ?_) (v := ?_) ?_ ?_ ?_ ?_ ?_ ?_ hHeld ?_
      rotate_left 2
      · rw [List.getElem?_toArray]; exact rfl
      · kernel_rfl
      · kernel_rfl
      · kernel_rfl
      · exact fun _ _ _ h => h
      · refine Or.inl ⟨by rfl, ?_⟩
        intro w hSw
        (try dsimp only at hSw)
        obtain ⟨h0, h1, h2, h3, h4, h5, h6, h7, h8, h9⟩ := hSw
        go_simp
        try with_reducible rfl
      (try simp only [Act.put, List.setIfInBounds_toArray, List.set_cons_zero, List.set_cons_succ])
      refine wpAnyH_take (i := 13) (oi := ?_) (v := ?_) ?_ ?_ ?_ ?_ ?_ ?_ hHeld ?_
      rotate_left 2
      · rw [List.getElem?_toArray]; exact rfl
      · kernel_rfl
      · kernel_rfl
      · kernel_rfl
      · exact fun _ _ _ h => h
      · refine Or.inl ⟨by rfl, ?_⟩
        intro w hSw
        (try dsimp only at hSw)
        obtain ⟨h0, h1, h2, h3, h4, h5, h6, h7, h8, h9⟩ := hSw
        go_simp
        try with_reducible rfl
      (try simp only [Act.put, List.setIfInBounds_toArray, List.set_cons_zero, List.set_cons_succ])
      have AK : ∀ o i, (w6.alloc o).drew.cell? ⟨n, i, none⟩ = w6.cell? ⟨n, i, none⟩ := fun o i => World.cell?_of_block (w := w6) (a := ⟨n, i, none⟩) (Below.heap_alloc _ _ _ hn6)
      refine wpAnyH_ready (rs := [14]) (by kernel_rfl) (by simp) ?_
      refine AllReadyH.cons (i := 14) (o := ?_) ?_ (fun K hK => ?_) AllReadyH.nil
      rotate_left
      · rw [List.getElem?_toArray]; exact rfl
      go_simp
      refine hK.out _ _ ⟨(AK _ 0).trans m0, (AK _ 1).trans m1, (AK _ 2).trans m2, (AK _ 3).trans m3, (AK _ 4).trans m4, (AK _ 5).trans m5, (AK _ 6).trans m6, (AK _ 7).trans m7, (AK _ 8).trans m8, (AK _ 9).trans m9⟩ (fun hHeld => ?_)
      clear hK K
      (try simp only [Act.put, List.setIfInBounds_toArray, List.set_cons_zero, List.set_cons_succ])
      refine wpAnyH_ready (rs := [15]) (by kernel_rfl) (by simp) ?_
      refine AllReadyH.cons (i := 15) (o := ?_) ?_ (fun K hK => ?_) AllReadyH.nil
      rotate_left
      · rw [List.getElem?_toArray]; exact rfl
      rw [if_pos (by rfl)]
      have nz : (w6.alloc nsZ).drew.heap[w6.heap.size]? = some nsZ := kb_new w6 nsZ
      have hz6 : n ≠ w6.heap.size := Nat.ne_of_lt hn6
      refine wp_store_mid _ _ _ rfl w6.heap.size 0 ns0.toArray rfl rfl (fun j hj => ⟨isSome_blk nz (by simpa [ns0] using hj), kb_frozen nz _⟩) (by kernel_rfl) (by simp [ns0, Value.oneCell']) ?_
      have WS := putL_all (cs := nsZL) nz ns0 rfl
      have WO := fun m (hm : m ≠ w6.heap.size) => (putL_other hm ns0 (w6.alloc nsZ).drew 0).trans (rfl : (w6.alloc nsZ).drew.heap[m]? = (w6.alloc nsZ).heap[m]?)
      have WB := putL_below (Nat.le_refl _) ns0 0 ((Below.refl w6.heap.size w6).alloc (Nat.le_refl _) nsZ).drew
      rw [show ns0.toArray.toList = ns0 from rfl, setCells_putL]
      rw [show (World.alloc w6 _) = w6.alloc nsZ from rfl]
      generalize putL (w6.alloc nsZ).drew w6.heap.size 0 ns0 = w7 at *
      have AK7 : ∀ i, w7.cell? ⟨n, i, none⟩ = w6.cell? ⟨n, i, none⟩ := fun i => World.cell?_of_block (w := w6) (a := ⟨n, i, none⟩) ((WO n hz6).trans (Below.heap_alloc _ _ _ hn6))
      refine hK.out _ _ ⟨(AK7 0).trans m0, (AK7 1).trans m1, (AK7 2).trans m2, (AK7 3).trans m3, (AK7 4).trans m4, (AK7 5).trans m5, (AK7 6).trans m6, (AK7 7).trans m7, (AK7 8).trans m8, (AK7 9).trans m9⟩ (fun hHeld => ?_)
      clear hK K
      (try simp only [Act.put, List.setIfInBounds_toArray, List.set_cons_zero, List.set_cons_succ])
      refine wpAnyH_done (by kernel_rfl) ?_ _
      clear hHeld AK AK7 m0 m1 m2 m3 m4 m5 m6 m7 m8 m9 nz WO hn6
      have BO := Lib.hid (bookOf_some w7 bk m 1 1099511627777 1099511627777 _ EntD.zero (kb_below HK6.out.book WB) (HK6.out.map.below WB) (by simp) (by decide))
      simp only [EntD.zero, Acc6.zero, Acc6.val] at BO
      have B7 := Lib.hid (B6.out.trans (WB.mono B6.out.size))
      have S7 := Lib.hid (kb_below S6.out WB)
      have O7 := Lib.hid (own_below1 O6.out WB)
      have C7 := Lib.hid (C6.out.trans (Ch.of_below WB (fun x => x = S)) (fun i h => .inl h))
      have hX : Hid (S < w6.heap.size) := Lib.hid (kb_lt S6.out)
      have hXw : Hid (w5.heap.size ≤ w6.heap.size) := Lib.hid C6.out.size
      have hXB : Hid (w.heap.size ≤ w6.heap.size) := Lib.hid B6.out.size
      generalize w6.heap.size = X at *
      have q7 := kb_cell (HK.out.below B7.out).kb
      have W7 := Lib.hid WS
      clear WB WS HK6 S6 O6 C6 B6
      go_wp2_with fail
      refine BO.out.mono ?_
      rintro e w8 ⟨rfl, b8⟩
      have B8 := Lib.hid (B7.out.trans (b8.mono B7.out.size))
      have S8 := Lib.hid (kb_below S7.out b8)
      have O8 := Lib.hid (own_below1 O7.out b8)
      have C8 := Lib.hid (C7.out.trans (Ch.of_below b8 (fun x => x = S)) (fun i h => .inl h))
      have x8 := kb_below W7.out b8
      have f8 := kb_frozen x8
      have d8 := kb_cell x8
      have X8 := Lib.hid x8
      simp only [ns0] at d8
      clear b8 x8 q7 B7 S7 O7 C7 W7 BO
      go_upto_region 11 with fail
      change Code.wp _ _ _ _ (putL w8 X 11 z12)
      have x9 : (putL w8 X 11 z12).heap[X]? = some (.cells ns0.toArray 79) := putL_mid z12 11 X8.out (by decide)
      have o9 := fun m (hm : m ≠ X) => putL_other hm z12 w8 11
      have b9 := putL_below hXB.out z12 11 B8.out
      have C9 := Lib.hid (Ch.putL (.inr hXw.out) z12 11 C8.out)
      have s9 := (o9 S (Nat.ne_of_lt hX.out)).trans S8.out
      have O9 := Lib.hid (World.ownsRow_nil (putL w8 X 11 z12) w5.heap.size 79 26)
      generalize putL w8 X 11 z12 = w9 at *
      have g9 := World.ownsRow_nil w9 w5.heap.size 79 26
      have c9 := kb_cell (HK.out.below b9).kb
      have e9 := kb_cell s9
      have d9 : ∀ i, w9.cell? ⟨X, i, none⟩ = #[.int .i64 1099511627777, .int .i64 0, .int .i64 0, .int .i64 0, .int .i64 0, .int .i64 0, .bool false, .int .i64 0, .int .i64 0, .int .i64 0, .int .i64 0, .int .i64 0, .int .i64 0, .int .i64 0, .int .i64 0, .int .i64 0, .int .i64 0, .int .i64 0, .int .i64 0, .int .i64 0, .int .i64 0, .int .i64 0, .int .i64 0, .slice none 0 0, .slice none 0 0, .slice none 0 0][i]? := fun i => kb_cell x9 i
      have h9 : X < w9.heap.size := kb_lt x9
      have hsz9 : w5.heap.size ≤ w9.heap.size := C9.out.size
      have hbe9 : Below w5.heap.size w9 w9 := Below.refl _ _
      have hu9 : Hid (∀ u ∈ ns0, u.oneCell' = true) := Lib.hid (by simp [ns0, Value.oneCell'])
      have hm9 : Hid (0 + 1 ≤ maxLen) := Lib.hid (by unfold maxLen; decide)
      have hm9b : Hid ((0 + 1) * 256 ≤ 140737488355328) := Lib.hid (by decide)
      have S9 := Lib.hid s9
      have B9 := Lib.hid b9
      clear d8 f8 X8 o9 x9 s9 b9 S8 O8 C8 B8
      go_wp2_with (first
        | (refine wpList_load_mid rfl 79 (.tmp 8) rfl X 0 rfl ns0 _ (fun j v hj => by rw [Nat.zero_add, d9 j]; simpa [ns0] using hj) Tryd.underlying79 rfl (by kernel_rfl) ?_)
        | (at_builtin; (refine appendN rfl (.tmp 94) (.tmp 96) 61 rfl w5.heap.size 79 i0 _ 26 256 Tryd.underlying61 hi0 hz0 hz1 hz2 rfl (by decide) _ _ _ rfl g9 _ ns0 _ rfl rfl rfl hu9.out hm9.out hm9b.out hsz9 hbe9 ?_); intro v' w10 own10 b10; obtain ⟨vp, vc, rfl⟩ := own_form1 own10; have n10 := (b10.block S hS5.out).trans S9.out; have e10 := kb_cell n10; have f10 := kb_frozen n10; have N10 := Lib.hid n10; have O10 := Lib.hid own10; have B10 := Lib.hid b10; clear own10 b10 n10 e9 d9 c9 g9))
      go_roundw
      case rel =>
        have n11 : (w10.setCell ⟨S, 3, none⟩ (.slice vp 1 vc)).heap[S]? = some (stObj 0 0 gp vp 64 gc 1 vc) := kb_set N10.out 3 _
        refine ⟨1, vp, vc, by decide, by go_num, n11, own_set O10.out (fun e => ?_) 3 _, (Ch.thenBelow C9.out B10.out).set ⟨S, 3, none⟩ (.inl rfl) _, fun h => absurd h (by decide)⟩
        have := own_ge1 O10.out S e
        have := hS5.out
        omega
      case measure => simp [intOf]
    · obtain rfl : j = 1 := by omega
      have PS := Lib.hid (fun w' (b : Below w.heap.size w w') => poolSave0_c w' _ _ _ _ _ _ (HK.out.below b).pool)
      have RR : Hid (wr.heap[w.heap.size]? = _) := Lib.hid ((HC.out.block _ (kb_lt R5.out) (Nat.ne_of_lt hws.out)).trans R5.out)
      have GR : Hid (wr.ownsRow w2.heap.size 3 1 (.slice gp 64 gc) 64 (gensL (fun _ => 1) 64)) := Lib.hid (own_ch G5.out HC.out (fun k hk => by have := own_ge1 G5.out k hk; have := s2.out; omega))
      clear HKr
      go_wp2_with fail
      refine (PS.out _ BW.out).mono ?_
      rintro e w6 ⟨va, vb, rfl, h6⟩
      obtain ⟨ap, ac, rfl⟩ := own_form1 h6.ga
      obtain ⟨tp2, tc2, rfl⟩ := own_form1 h6.ta
      have n6 := kb_below HS.out h6.be
      have e6 := kb_cell n6
      have f6 := kb_frozen n6
      have r6 := kb_below RR.out h6.be
      have z6 := kb_cell r6
      have y6 := kb_frozen r6
      have N6 := Lib.hid n6
      have R6 := Lib.hid r6
      have H6 := Lib.hid h6
      have G6 := Lib.hid (own_below1 GR.out h6.be)
      have O6 := Lib.hid (own_below1 HO.out h6.be)
      have B6 := Lib.hid (BW.out.trans (h6.be.mono BW.out.size))
      have hn6 : S ≠ w.heap.size := Nat.ne_of_gt hws.out
      have hlt6 : S < w6.heap.size := kb_lt n6
      have hlt6' : w.heap.size < w6.heap.size := kb_lt r6
      clear h6 n6 r6 q1 q2
      go_wp2_with fail
      obtain ⟨w7, hw7⟩ : ∃ w7, w7 = putL (putL w6 S 4 [.slice ap 16 ac, .slice tp2 16 tc2, .slice none 0 0, .int .i64 (-1)]) w.heap.size 0 [.int .i64 0, .int .i64 0, .slice gp 64 gc, .slice np 1 nc, .slice ap 16 ac, .slice tp2 16 tc2, .slice none 0 0, .int .i64 (-1)] := ⟨_, rfl⟩
      have n7 : w7.heap[w.heap.size]? = some (.cells ([.int .i64 0, .int .i64 0, .slice gp 64 gc, .slice np 1 nc, .slice ap 16 ac, .slice tp2 16 tc2, .slice none 0 0, .int .i64 (-1)] : List Value).toArray 67) := by
        rw [hw7]
        exact putL_all (cs := [.int .i64 0, .int .i64 0, .slice none 0 0, .slice none 0 0, .slice none 0 0, .slice none 0 0, .slice none 0 0, .int .i64 0]) ((putL_other (Ne.symm hn6) [.slice ap 16 ac, .slice tp2 16 tc2, .slice none 0 0, .int .i64 (-1)] w6 4).trans R6.out) [.int .i64 0, .int .i64 0, .slice gp 64 gc, .slice np 1 nc, .slice ap 16 ac, .slice tp2 16 tc2, .slice none 0 0, .int .i64 (-1)] rfl
      have own7 : ∀ {e : TypeId} {s : Nat} {v : Value} {n : Nat} {l : List Value}, w6.ownsRow (S + 1) e s v n l → w7.ownsRow w.heap.size e s v n l := by
        intro e s v n l h
        have hg := own_ge1 h
        rw [hw7]
        refine own_putL (own_putL (own_mono1 h (by have := hws.out; omega)) ?_ [.slice ap 16 ac, .slice tp2 16 tc2, .slice none 0 0, .int .i64 (-1)] 4) ?_ [.int .i64 0, .int .i64 0, .slice gp 64 gc, .slice np 1 nc, .slice ap 16 ac, .slice tp2 16 tc2, .slice none 0 0, .int .i64 (-1)] 0
        · intro c; have := hg _ c; omega
        · intro c; have := hg _ c; have := hws.out; omega
      have b7 : Below w.heap.size w w7 := by rw [hw7]; exact putL_below (Nat.le_refl _) [.int .i64 0, .int .i64 0, .slice gp 64 gc, .slice np 1 nc, .slice ap 16 ac, .slice tp2 16 tc2, .slice none 0 0, .int .i64 (-1)] 0 (putL_below (Nat.le_of_lt hws.out) [.slice ap 16 ac, .slice tp2 16 tc2, .slice none 0 0, .int .i64 (-1)] 4 B6.out)
      have hwr : S + 1 ≤ wr.heap.size := kb_lt HS.out
      change bodyPost _ _ _ _ _ (putL (putL w6 S 4 [.slice ap 16 ac, .slice tp2 16 tc2, .slice none 0 0, .int .i64 (-1)]) w.heap.size 0 [.int .i64 0, .int .i64 0, .slice gp 64 gc, .slice np 1 nc, .slice ap 16 ac, .slice tp2 16 tc2, .slice none 0 0, .int .i64 (-1)])
      rw [← hw7]
      refine bodyPost_ret (v := .agg #[.int .i64 0, .int .i64 0, .slice gp 64 gc, .slice np 1 nc, .slice ap 16 ac, .slice tp2 16 tc2, .slice none 0 0, .int .i64 (-1)]) ?_ rfl ⟨gp, gc, np, nc, ap, ac, tp2, tc2, rfl, own7 (by have := G6.out; rw [s2.out] at this; exact this), own7 (own_mono1 O6.out hS5.out), own7 (own_mono1 H6.out.ga hwr), own7 (own_mono1 H6.out.ta hwr), b7⟩
      have p7 := kb_cell n7
      clear hw7 own7 b7 n7 e6 f6 z6 y6
      simp [results, Tryd.f21, go_sem, p7, Tryd.underlying67]
end Go.Proofs.YtmfmmopnapchjaaDoor
