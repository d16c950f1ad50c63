/- titheref19.Add. -/
import Derived.Test.YtohodbpjcbjifaaDoorRu
namespace Go.Proofs.YtohodbpjcbjifaaDoor
open Go Go.RowKit Go.ChangeShapes Go.WideShapes
set_option linter.unusedVariables false
set_option maxRecDepth 100000
set_option maxHeartbeats 800000

theorem first_own {w : World} {B : Nat} {e : TypeId} {v : Value} {l : List Mk} (h : w.ownsRow B e 5 v (0 + l.length) (flat ([] ++ l))) : w.ownsRow B e 5 v l.length (flat l) := by simpa using h
theorem own_len {w : World} {B N n : Nat} {e : TypeId} {v : Value} {xs : List Value} (hN : N = n) (h : w.ownsRow B e 5 v n xs) : w.ownsRow B e 5 v N xs := by rw [hN]; exact h
theorem own_some {w : World} {B n : Nat} {e : TypeId} {v : Value} {xs : List Value} (h : w.ownsRow B e 5 v n xs) (hn : 0 < n) : ∃ g c, v = .slice (some ⟨g, 0, none⟩) n c ∧ n ≤ c := by
  rcases h.2 with ⟨_, h0⟩ | ⟨g, cap, cur, rfl, _, _, hc, _⟩
  · omega
  · exact ⟨g, cap, rfl, hc⟩

theorem own_form {w : World} {B n : Nat} {e : TypeId} {v : Value} {xs : List Value} (h : w.ownsRow B e 5 v n xs) : ∃ p c, v = .slice p n c := by
  rcases h.2 with ⟨rfl, rfl⟩ | ⟨g, cap, cur, rfl, _⟩
  · exact ⟨none, 0, rfl⟩
  · exact ⟨_, cap, rfl⟩
theorem own_base {w : World} {B n g o c : Nat} {e : TypeId} {xs : List Value} (h : w.ownsRow B e 5 (.slice (some ⟨g, o, none⟩) n c) n xs) : B ≤ g := by
  rcases h.2 with ⟨h, _⟩ | ⟨g', cap, cur, e', hb, _⟩
  · cases h
  · injection e' with e1
    injection e1 with e1
    injection e1 with e1
    subst e1
    exact hb
/-- The four cells laid anew. -/
def put4 (w : World) (b : Nat) (k g : Int) (lv : Value) (l : Int) : World := (((w.setCell ⟨b, 0, none⟩ (.int .i64 k)).setCell ⟨b, 1, none⟩ (.int .i64 g)).setCell ⟨b, 2, none⟩ lv).setCell ⟨b, 3, none⟩ (.int .i64 l)
theorem put4_block (w : World) (b : Nat) (k g : Int) (lv : Value) (l : Int) (x : Nat) (h : x ≠ b) : (put4 w b k g lv l).heap[x]? = w.heap[x]? := by
  unfold put4
  rw [Below.heap_setCell _ ⟨b, 3, none⟩ _ x h, Below.heap_setCell _ ⟨b, 2, none⟩ _ x h, Below.heap_setCell _ ⟨b, 1, none⟩ _ x h, Below.heap_setCell _ ⟨b, 0, none⟩ _ x h]
theorem put4_size (w : World) (b : Nat) (k g : Int) (lv : Value) (l : Int) : (put4 w b k g lv l).heap.size = w.heap.size := by simp [put4, World.setCell]
theorem _root_.Go.RowKit.Below.put4 {B : Nat} {a w : World} (h : Below B a w) (b : Nat) (k g : Int) (lv : Value) (l : Int) (hb : B ≤ b) : Below B a (put4 w b k g lv l) :=
  (((h.setCell (p := ⟨b, 0, none⟩) hb _).setCell (p := ⟨b, 1, none⟩) hb _).setCell (p := ⟨b, 2, none⟩) hb _).setCell (p := ⟨b, 3, none⟩) hb _
theorem T4.put {w : World} {b : Nat} {k g : Int} {lv : Value} {l : Int} (h : T4 w b k g lv l) (k' g' : Int) (lv' : Value) (l' : Int) : T4 (put4 w b k' g' lv' l') b k' g' lv' l' := by
  have ne : ∀ i j : Nat, i ≠ j → (⟨b, i, none⟩ : Addr) ≠ ⟨b, j, none⟩ := fun i j hij e => by injection e with _ e2; omega
  refine ⟨by rw [put4_size]; exact h.lt, ?_, ?_, ?_, ?_, set_frozen (set_frozen (set_frozen (set_frozen h.fr _ _) _ _) _ _) _ _⟩
  · exact other_set (ne 3 0 (by decide)) (other_set (ne 2 0 (by decide)) (other_set (ne 1 0 (by decide)) (same_set h.c0)))
  · exact other_set (ne 3 1 (by decide)) (other_set (ne 2 1 (by decide)) (same_set (other_set (ne 0 1 (by decide)) h.c1)))
  · exact other_set (ne 3 2 (by decide)) (same_set (other_set (ne 1 2 (by decide)) (other_set (ne 0 2 (by decide)) h.c2)))
  · exact same_set (other_set (ne 2 3 (by decide)) (other_set (ne 1 3 (by decide)) (other_set (ne 0 3 (by decide)) h.c3)))
/-- The return of the reference's Add. -/
theorem radd_end {X : World} {b : Nat} {k g k' g' : Int} {lv lv' : Value} {l l' n : Int} {a : Act} {R : Ending → World → Prop} (h : T4 X b k g lv l)
    (hres : ∀ w, (results Tryd.f9 a.tmps).run Tryd.prog w = (do let x ← loadVar 30 ⟨b, 0, none⟩; pure (Value.tuple #[x, .int .i64 n])).run Tryd.prog w) (hd : a.defers = [])
    (hR : R (.returned (.tuple #[rtV k' g' lv' l', .int .i64 n])) (put4 X b k' g' lv' l')) : bodyPost Tryd.prog Tryd.f9 R .ret a (put4 X b k' g' lv' l') := by
  have T := h.put k' g' lv' l'
  refine bodyPost_ret (v := .tuple #[rtV k' g' lv' l', .int .i64 n]) ?_ hd hR
  rw [hres]
  generalize put4 X b k' g' lv' l' = WF at T ⊢
  obtain ⟨_, c0, c1, c2, c3, _⟩ := T
  simp [go_sem, c0, c1, c2, c3]

/-- What the reference's Add makes of a row. -/
theorem radd_ok (W : World) (keep : Nat) (gone last : Int) (lv v : Value) (l ms : List Mk) (hlv : RM W lv l) (hv : RM W v ms) (hl : l.length ≤ keep) (hk1 : 1 ≤ keep) (hk2 : keep ≤ 4096) (hn : ms.length ≤ 1048576) (hok : okRow last ms) (hg : 0 ≤ gone ∧ gone ≤ 1000000000000) :
    Calls Tryd.prog 9 #[rtV keep gone lv last, v] W fun e w' => ∃ lv', e = .returned (.tuple #[rtV keep (addAll keep (gone, l) ms).1 lv' (lastOf last ms ms.length), .int .i64 0]) ∧ RM w' lv' (addAll keep (gone, l) ms).2 ∧ Below W.heap.size W w' ∧ ∀ k, lv'.ownBlock = some k → W.heap.size ≤ k := by
  obtain ⟨i0, hi, hz0, hz1, hz2⟩ := info_of Tryd.infoMark
  obtain ⟨w0, hw0⟩ : ∃ w0, w0 = (W.alloc (rtC keep gone lv last)).alloc (rtC 0 0 (.slice none 0 0) 0) := ⟨_, rfl⟩
  have s0 : w0.heap.size = W.heap.size + 2 := by rw [hw0]; simp
  have b0 : Below W.heap.size W w0 := by rw [hw0]; exact ((Below.refl _ _).alloc (Nat.le_refl _) _).alloc (by simp) _
  have t0 : T4 w0 W.heap.size keep gone lv last := by rw [hw0]; exact (T4_new W keep gone lv last).of_block (by simp) (Below.heap_alloc _ _ _ (by simp))
  have r0 : T4 w0 (W.heap.size + 1) 0 0 (.slice none 0 0) 0 := by rw [hw0]; have := T4_new (W.alloc (rtC keep gone lv last)) 0 0 (.slice none 0 0) 0; simpa using this
  have LV := Lib.hid (hlv.below b0)
  have MV := Lib.hid (hv.below b0)
  have OK := Lib.hid hok
  have HW0 := Lib.hid hw0
  have T0 := Lib.hid t0
  have R0 := Lib.hid r0
  have B0 := Lib.hid b0
  obtain ⟨p, c, rfl, hrow⟩ := MV.out.out
  obtain ⟨lt, c0, c1, c2, c3, fr⟩ := t0
  obtain ⟨hg0, hg1⟩ := hg
  clear hlv hv hok hw0 b0 r0
  go_enter Tryd.func9, Tryd.ntmps9
  simp only [rtV]
  go_wp2_with fail
  rw [← HW0.out]
  go_loopw [6, 7] (fun a i wr => ∃ k : Nat, k ≤ ms.length ∧ i = .int .i64 k ∧ a = .int .i64 (lastOf last ms k) ∧ Below w0.heap.size w0 wr) (fun _ i _ => ms.length - (intOf i).toNat)
  case atStart => exact ⟨0, Nat.zero_le _, by go_num, rfl, Below.refl _ _⟩
  case round =>
    obtain ⟨k, hk, rfl, rfl, hbe⟩ := hrel
    by_cases hlt : k < ms.length
    · obtain ⟨b, o, rfl, hcap, hb, hrows⟩ := hrow (by omega)
      have hx := (hrows k hlt).of_block (hbe.block b hb)
      have hm := (row_okTo OK.out k hlt).1
      have ht := (row_okTo OK.out k hlt).2
      have HL : Hid (lastOf last ms (k + 1) = (ms.getD k default).t) := Lib.hid (by simp [lastOf])
      generalize lastOf last ms k = la at *
      generalize ms.getD k default = m at *
      have VT := Lib.hid (fun w => rvalid0 m w hm)
      have hkn : (k : Int) < (ms.length : Int) := by omega
      have HX := Lib.hid hx
      clear hm lt c0 c1 c2 c3 fr
      obtain ⟨x0, x1, x2, x3, x4⟩ := hx
      go_wp2_with fail
      refine (VT.out _).mono ?_
      rintro e w3 ⟨rfl, hb3⟩
      have hx3 := HX.out.of_block (hb3.block b (by have := hbe.size; omega))
      have be3 : Below w0.heap.size w0 w3 := hbe.trans (hb3.mono hbe.size)
      have htn : decide (m.t < la) = false := decide_eq_false (by omega)
      clear x0 x1 x2 x3 x4 hb3
      obtain ⟨y0, y1, y2, y3, y4⟩ := hx3
      go_wp2_with fail
      go_roundw
      case rel => exact ⟨k + 1, by omega, by go_num, by rw [HL.out], be3⟩
      case measure => simp [intOf]; omega
    · obtain rfl : k = ms.length := by omega
      have HB := Lib.hid hbe
      have T1 := T0.out.of_block hbe.size (hbe.block _ (by omega))
      have R1 := Lib.hid (R0.out.of_block hbe.size (hbe.block _ (by omega)))
      generalize hLa : lastOf last ms ms.length = la at *
      have HLa := Lib.hid hLa
      have hz := hbe.size
      have LVr := Lib.hid (LV.out.below hbe)
      clear hLa lt c0 c1 c2 c3 fr
      have T1h := Lib.hid T1
      obtain ⟨lt, c0, c1, c2, c3, fr⟩ := T1
      obtain ⟨N, hN⟩ : ∃ N, N = l.length + ms.length := ⟨_, rfl⟩
      have hN0 : (N : Int) ≤ 2000000 := by omega
      have HN := Lib.hid hN
      clear hN
      by_cases hkN : (keep : Int) < (N : Int)
      · have hkN' : keep < N := by omega
        go_wp2_with (first
          | (at_builtin; refine appendRM (W := wr) rfl _ _ 28 rfl wr.heap.size 42 i0 _ Tryd.underlying28 hi hz0 hz1 hz2 rfl _ 0 [] rfl (World.ownsRow_nil _ _ _ _) _ l rfl LVr.out (by omega) (Nat.le_refl _) (Below.refl _ _) ?_; intro v1 w4 hown4 hbe4 hch4 hvo4; have own4 := Lib.hid (first_own hown4); have mv4 := Lib.hid (MV.out.below (HB.out.trans (hbe4.mono hz))); have hz4 := hbe4.size; clear hown4 hch4 hvo4 lt c0 c1 c2 c3 fr)
          | (at_builtin; refine appendRM (W := wr) rfl _ _ 28 rfl wr.heap.size 42 i0 _ Tryd.underlying28 hi hz0 hz1 hz2 rfl _ l.length l rfl own4.out _ ms rfl mv4.out (by omega) hz4 hbe4 ?_; intro v2 w5 hown5 hbe5 hch5 hvo5; have own5 := Lib.hid (own_len HN.out hown5); obtain ⟨g2, c2', rfl, hc2⟩ := own_some own5.out (by omega); obtain ⟨lt, c0, c1, c2, c3, fr⟩ := T1h.out.of_block hbe5.size (hbe5.block _ T1h.out.lt); obtain ⟨rlt, r0, r1, r2, r3, rfr⟩ := R1.out.of_block hbe5.size (hbe5.block _ R1.out.lt); clear hown5 hch5 hvo5))
        obtain ⟨X, hX⟩ : ∃ X, X = ((w5.setCell ⟨W.heap.size, 3, none⟩ (.int .i64 la)).setCell ⟨W.heap.size, 1, none⟩ (.int .i64 (gone + (N : Int) - (keep : Int)))).setCell ⟨W.heap.size, 2, none⟩ (.slice (some ⟨g2, (N - keep) * 5, none⟩) (N - (N - keep)) (c2' - (N - keep))) := ⟨_, rfl⟩
        rw [← hX]
        have eX : ∀ k, k ≠ W.heap.size → X.heap[k]? = w5.heap[k]? := fun k hk => by rw [hX, Below.heap_setCell _ ⟨W.heap.size, 2, none⟩ _ k hk, Below.heap_setCell _ ⟨W.heap.size, 1, none⟩ _ k hk, Below.heap_setCell _ ⟨W.heap.size, 3, none⟩ _ k hk]
        have zX : X.heap.size = w5.heap.size := by rw [hX]; simp [World.setCell]
        have bX : Below W.heap.size W X := by
          have b5 : Below W.heap.size W w5 := (B0.out.trans (HB.out.mono (by omega))).trans (hbe5.mono (by omega))
          rw [hX]; exact ((b5.setCell (p := ⟨W.heap.size, 3, none⟩) (Nat.le_refl _) _).setCell (p := ⟨W.heap.size, 1, none⟩) (Nat.le_refl _) _).setCell (p := ⟨W.heap.size, 2, none⟩) (Nat.le_refl _) _
        have rX : T4 X (W.heap.size + 1) 0 0 (.slice none 0 0) 0 := (T4.mk rlt r0 r1 r2 r3 rfr).of_block (by omega) (eX _ (by omega))
        have hg2 : wr.heap.size ≤ g2 := own_base own5.out
        refine radd_end (n := 0) rX ?_ rfl ?_
        · intro w; simp [results, Tryd.f9, asAddr, Result.andThen]
        · have ea := addAll_eq keep hk1 gone l ms hl
          rw [if_pos (by rw [← HN.out]; exact hkN'), ← HN.out] at ea
          refine ⟨.slice (some ⟨g2, (N - keep) * 5, none⟩) (N - (N - keep)) (c2' - (N - keep)), ?_, ?_, bX.put4 _ _ _ _ _ (by omega), ?_⟩
          · rw [ea, HLa.out]
          · rw [ea]
            have rm := RM.from (RM_own own5.out).1 (by rw [List.length_append]; exact HN.out.symm) (show N - keep < N by omega)
            rw [Nat.zero_add] at rm
            refine rm.of_block (by rw [put4_size, zX]; exact Nat.le_refl _) (fun k hk => ?_)
            simp [Value.ownBlock] at hk
            subst hk
            rw [put4_block _ _ _ _ _ _ _ (by omega)]
            exact eX _ (by omega)
          · intro k hk
            simp [Value.ownBlock] at hk
            omega
      · have hkN' : ¬ keep < N := by omega
        go_wp2_with (first
          | (at_builtin; refine appendRM (W := wr) rfl _ _ 28 rfl wr.heap.size 42 i0 _ Tryd.underlying28 hi hz0 hz1 hz2 rfl _ 0 [] rfl (World.ownsRow_nil _ _ _ _) _ l rfl LVr.out (by omega) (Nat.le_refl _) (Below.refl _ _) ?_; intro v1 w4 hown4 hbe4 hch4 hvo4; have own4 := Lib.hid (first_own hown4); have mv4 := Lib.hid (MV.out.below (HB.out.trans (hbe4.mono hz))); have hz4 := hbe4.size; clear hown4 hch4 hvo4 lt c0 c1 c2 c3 fr)
          | (at_builtin; refine appendRM (W := wr) rfl _ _ 28 rfl wr.heap.size 42 i0 _ Tryd.underlying28 hi hz0 hz1 hz2 rfl _ l.length l rfl own4.out _ ms rfl mv4.out (by omega) hz4 hbe4 ?_; intro v2 w5 hown5 hbe5 hch5 hvo5; have own5 := Lib.hid (own_len HN.out hown5); obtain ⟨p2, c2', rfl⟩ := own_form own5.out; obtain ⟨lt, c0, c1, c2, c3, fr⟩ := T1h.out.of_block hbe5.size (hbe5.block _ T1h.out.lt); obtain ⟨rlt, r0, r1, r2, r3, rfr⟩ := R1.out.of_block hbe5.size (hbe5.block _ R1.out.lt); clear hown5 hch5 hvo5))
        obtain ⟨X, hX⟩ : ∃ X, X = (w5.setCell ⟨W.heap.size, 3, none⟩ (.int .i64 la)).setCell ⟨W.heap.size, 2, none⟩ (.slice p2 N c2') := ⟨_, rfl⟩
        rw [← hX]
        have eX : ∀ k, k ≠ W.heap.size → X.heap[k]? = w5.heap[k]? := fun k hk => by rw [hX, Below.heap_setCell _ ⟨W.heap.size, 2, none⟩ _ k hk, Below.heap_setCell _ ⟨W.heap.size, 3, none⟩ _ k hk]
        have zX : X.heap.size = w5.heap.size := by rw [hX]; simp [World.setCell]
        have bX : Below W.heap.size W X := by
          have b5 : Below W.heap.size W w5 := (B0.out.trans (HB.out.mono (by omega))).trans (hbe5.mono (by omega))
          rw [hX]; exact (b5.setCell (p := ⟨W.heap.size, 3, none⟩) (Nat.le_refl _) _).setCell (p := ⟨W.heap.size, 2, none⟩) (Nat.le_refl _) _
        have rX : T4 X (W.heap.size + 1) 0 0 (.slice none 0 0) 0 := (T4.mk rlt r0 r1 r2 r3 rfr).of_block (by omega) (eX _ (by omega))
        refine radd_end (n := 0) rX ?_ rfl ?_
        · intro w; simp [results, Tryd.f9, asAddr, Result.andThen]
        · have ea := addAll_eq keep hk1 gone l ms hl
          rw [if_neg (by rw [← HN.out]; exact hkN')] at ea
          refine ⟨.slice p2 N c2', ?_, ?_, bX.put4 _ _ _ _ _ (by omega), ?_⟩
          · rw [ea, HLa.out]
          · rw [ea]
            have own6 := own5.out
            refine (RM_own own6).1.of_block (by rw [put4_size, zX]; exact Nat.le_refl _) (fun k hk => ?_)
            have hk' : wr.heap.size ≤ k := by
              rcases own6.2 with ⟨h, _⟩ | ⟨g', cap', cur, e', hb', _⟩
              · rw [h] at hk; simp [Value.ownBlock] at hk
              · rw [e'] at hk; simp [Value.ownBlock] at hk; omega
            rw [put4_block _ _ _ _ _ _ _ (by omega)]
            exact eX _ (by omega)
          · intro k hk
            rcases own5.out.2 with ⟨h, _⟩ | ⟨g', cap', cur, e', hb', _⟩
            · rw [h] at hk; simp [Value.ownBlock] at hk
            · rw [e'] at hk; simp [Value.ownBlock] at hk; omega
end Go.Proofs.YtohodbpjcbjifaaDoor
