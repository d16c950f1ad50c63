/- trace.Add and titheref19.Add at rows that may not be: the error, nothing laid in. -/
import Derived.Test.YtohodbpjcbjifaaDoorRv
namespace Go.Proofs.YtohodbpjcbjifaaDoor
open Go Go.RowKit Go.ChangeShapes Go.WideShapes
set_option linter.unusedVariables false
set_option maxRecDepth 100000
set_option maxHeartbeats 800000

theorem okTo_zero (last : Int) (ms : List Mk) : okTo last ms 0 := fun j hj => by omega

theorem radd_bad (W : World) (keep : Nat) (gone last : Int) (lv v : Value) (l ms : List Mk) (hlv : RM W lv l) (hv : RM W v ms) (hn : ms.length ≤ 1048576) (hok : ¬ okRow last ms) :
    Calls Tryd.prog 9 #[rtV keep gone lv last, v] W fun e w' => e = .returned (.tuple #[rtV keep gone lv last, .int .i64 1]) ∧ Below W.heap.size W w' := by
  obtain ⟨pl, cl, rfl, _⟩ := hlv.out
  obtain ⟨w0, hw0⟩ : ∃ w0, w0 = (W.alloc (rtC keep gone (.slice pl l.length cl) last)).alloc (rtC 0 0 (.slice none 0 0) 0) := ⟨_, rfl⟩
  have s0 : w0.heap.size = W.heap.size + 2 := by rw [hw0]; simp
  have b0 : Below W.heap.size W w0 := by rw [hw0]; exact ((Below.refl _ _).alloc (Nat.le_refl _) _).alloc (by simp) _
  have t0 : T4 w0 W.heap.size keep gone (.slice pl l.length cl) last := by rw [hw0]; exact (T4_new W keep gone (.slice pl l.length cl) last).of_block (by simp) (Below.heap_alloc _ _ _ (by simp))
  have r0 : T4 w0 (W.heap.size + 1) 0 0 (.slice none 0 0) 0 := by rw [hw0]; have := T4_new (W.alloc (rtC keep gone (.slice pl l.length cl) last)) 0 0 (.slice none 0 0) 0; simpa using this
  have MV := Lib.hid (hv.below b0)
  have OK := Lib.hid hok
  have HW0 := Lib.hid hw0
  have T0 := Lib.hid t0
  have R0 := Lib.hid r0
  have B0 := Lib.hid b0
  obtain ⟨p, c, rfl, hrow⟩ := MV.out.out
  obtain ⟨lt, c0, c1, c2, c3, fr⟩ := t0
  clear hv hok hw0 b0 r0
  go_enter Tryd.func9, Tryd.ntmps9
  simp only [rtV]
  go_wp2_with fail
  rw [← HW0.out]
  go_loopw [6, 7] (fun a i wr => ∃ k : Nat, k ≤ ms.length ∧ i = .int .i64 k ∧ a = .int .i64 (lastOf last ms k) ∧ Below w0.heap.size w0 wr ∧ Hid (okTo last ms k)) (fun _ i _ => ms.length - (intOf i).toNat)
  case atStart => exact ⟨0, Nat.zero_le _, by go_num, rfl, Below.refl _ _, Lib.hid (okTo_zero _ _)⟩
  case round =>
    obtain ⟨k, hk, rfl, rfl, hbe, hto⟩ := hrel
    by_cases hlt : k < ms.length
    · obtain ⟨b, o, rfl, hcap, hb, hrows⟩ := hrow (by omega)
      have hx := (hrows k hlt).of_block (hbe.block b hb)
      have HL : Hid (lastOf last ms (k + 1) = (ms.getD k default).t) := Lib.hid (by simp [lastOf])
      have HS := Lib.hid (fun h1 h2 => okTo_succ hto.out h1 h2 : Ok0 (ms.getD k default) → lastOf last ms k ≤ (ms.getD k default).t → okTo last ms (k + 1))
      generalize lastOf last ms k = la at *
      generalize ms.getD k default = m at *
      have hkn : (k : Int) < (ms.length : Int) := by omega
      have HX := Lib.hid hx
      have HBE := Lib.hid hbe
      clear lt c0 c1 c2 c3 fr
      obtain ⟨x0, x1, x2, x3, x4⟩ := hx
      have ret : ∀ w3, Below wr.heap.size wr w3 → At5 w3 b (o + k * 5) m ∧ Below w0.heap.size w0 w3 ∧ T4 w3 W.heap.size keep gone (.slice pl l.length cl) last ∧ T4 w3 (W.heap.size + 1) 0 0 (.slice none 0 0) 0 := by
        intro w3 hb3
        have be3 : Below w0.heap.size w0 w3 := HBE.out.trans (hb3.mono HBE.out.size)
        exact ⟨HX.out.of_block (hb3.block b (by have := HBE.out.size; omega)), be3, T0.out.of_block be3.size (be3.block _ (by omega)), R0.out.of_block be3.size (be3.block _ (by omega))⟩
      have RET := Lib.hid ret
      clear ret hbe
      by_cases hm : Ok0 m
      · have VT := Lib.hid (fun w => rvalid0 m w hm)
        have HM := Lib.hid hm
        clear hm
        by_cases ht : la ≤ m.t
        · go_wp2_with fail
          refine (VT.out _).mono ?_
          rintro e w3 ⟨rfl, hb3⟩
          obtain ⟨hx3, be3, _, _⟩ := RET.out w3 hb3
          have htn : decide (m.t < la) = false := decide_eq_false (by omega)
          clear x0 x1 x2 x3 x4 hb3
          obtain ⟨y0, y1, y2, y3, y4⟩ := hx3
          go_wp2_with fail
          go_roundw
          case rel => exact ⟨k + 1, by omega, by go_num, by rw [HL.out], be3, Lib.hid (HS.out HM.out ht)⟩
          case measure => simp [intOf]; omega
        · go_wp2_with fail
          refine (VT.out _).mono ?_
          rintro e w3 ⟨rfl, hb3⟩
          obtain ⟨hx3, be3, tt, rr⟩ := RET.out w3 hb3
          have htn : decide (m.t < la) = true := decide_eq_true (by omega)
          have RR := Lib.hid rr
          have BE := Lib.hid (B0.out.trans (be3.mono (by omega)))
          clear x0 x1 x2 x3 x4 hb3 be3
          obtain ⟨y0, y1, y2, y3, y4⟩ := hx3
          obtain ⟨lt, c0, c1, c2, c3, fr⟩ := tt
          obtain ⟨rlt, r0, r1, r2, r3, rfr⟩ := rr
          go_wp2_with fail
          refine radd_end (n := 1) RR.out ?_ rfl ?_
          · intro w; simp [results, Tryd.f9, asAddr, Result.andThen]
          · exact ⟨rfl, BE.out.put4 _ _ _ _ _ (by omega)⟩
      · have VT := Lib.hid (fun w => rvalid0_f m w hm)
        clear hm
        go_wp2_with fail
        refine (VT.out _).mono ?_
        rintro e w3 ⟨rfl, hb3⟩
        obtain ⟨_, be3, tt, rr⟩ := RET.out w3 hb3
        have RR := Lib.hid rr
        have BE := Lib.hid (B0.out.trans (be3.mono (by omega)))
        clear x0 x1 x2 x3 x4 hb3 be3
        obtain ⟨lt, c0, c1, c2, c3, fr⟩ := tt
        obtain ⟨rlt, r0, r1, r2, r3, rfr⟩ := rr
        go_wp2_with fail
        refine radd_end (n := 1) RR.out ?_ rfl ?_
        · intro w; simp [results, Tryd.f9, asAddr, Result.andThen]
        · exact ⟨rfl, BE.out.put4 _ _ _ _ _ (by omega)⟩
    · obtain rfl : k = ms.length := by omega
      exact absurd (okTo_row hto.out) OK.out

theorem add_bad (W : World) (t q : Nat) (gs : List Nat) (keep : Nat) (gone last : Int) (l ms : List Mk) (v : Value) (h : TS W t q gs keep gone last l) (hv : RM W v ms) (hn : ms.length ≤ 1048576) (hok : ¬ okRow last ms) :
    Calls Tryd.prog 8 #[.pointer (some ⟨t, 0, none⟩), v] W fun e w' => e = .returned (errN 1) ∧ Below W.heap.size W w' := by
  obtain ⟨p, c, rfl, hrow⟩ := hv.out
  have OK := Lib.hid hok
  obtain ⟨lt, c0, c1, c2, fr⟩ := h.t3
  clear h hv hok
  go_enter Tryd.func8, Tryd.ntmps8
  go_wp2_with fail
  go_loopw [5, 26] (fun a i wr => ∃ k : Nat, k ≤ ms.length ∧ i = .int .i64 k ∧ a = .int .i64 (lastOf last ms k) ∧ Below W.heap.size W wr ∧ Hid (okTo last ms k)) (fun _ i _ => ms.length - (intOf i).toNat)
  case atStart => exact ⟨0, Nat.zero_le _, by go_num, rfl, Below.refl _ _, Lib.hid (okTo_zero _ _)⟩
  case round =>
    obtain ⟨k, hk, rfl, rfl, hbe, hto⟩ := hrel
    by_cases hlt : k < ms.length
    · obtain ⟨b, o, rfl, hcap, hb, hrows⟩ := hrow (by omega)
      have hx := (hrows k hlt).of_block (hbe.block b hb)
      have HL : Hid (lastOf last ms (k + 1) = (ms.getD k default).t) := Lib.hid (by simp [lastOf])
      have HS := Lib.hid (fun h1 h2 => okTo_succ hto.out h1 h2 : Ok0 (ms.getD k default) → lastOf last ms k ≤ (ms.getD k default).t → okTo last ms (k + 1))
      generalize lastOf last ms k = la at *
      generalize ms.getD k default = m at *
      have hkn : (k : Int) < (ms.length : Int) := by omega
      have HBE := Lib.hid hbe
      have hsz := hbe.size
      clear lt c0 c1 c2 fr hbe
      obtain ⟨x0, x1, x2, x3, x4⟩ := hx
      by_cases hm : Ok0 m
      · have VT := Lib.hid (fun w => valid0 m w hm)
        have HM := Lib.hid hm
        clear hm
        by_cases ht : la ≤ m.t
        · go_wp2_with fail
          refine (VT.out _).mono ?_
          rintro e w3 ⟨rfl, hb3⟩
          have bx : At5 w3 wr.heap.size 0 m := (At5_box wr m).of_block (hb3.block _ (by simp))
          have be3 : Below W.heap.size W w3 := (HBE.out.alloc hsz _).trans (hb3.mono (by simp; omega))
          have htn : ¬ m.t < la := by omega
          clear x0 x1 x2 x3 x4 hb3
          obtain ⟨y0, y1, y2, y3, y4⟩ := bx
          go_wp2_with fail
          go_roundw
          case rel => exact ⟨k + 1, by omega, by go_num, by rw [HL.out], be3, Lib.hid (HS.out HM.out ht)⟩
          case measure => simp [intOf]; omega
        · go_wp2_with fail
          refine (VT.out _).mono ?_
          rintro e w3 ⟨rfl, hb3⟩
          have bx : At5 w3 wr.heap.size 0 m := (At5_box wr m).of_block (hb3.block _ (by simp))
          have be3 := Lib.hid ((HBE.out.alloc hsz _).trans (hb3.mono (by simp; omega)))
          have htn : m.t < la := by omega
          clear x0 x1 x2 x3 x4 hb3
          obtain ⟨y0, y1, y2, y3, y4⟩ := bx
          go_wp2_with fail
          go_ret
          exact ⟨rfl, be3.out⟩
      · have VT := Lib.hid (fun w => valid0_f m w hm)
        clear hm
        go_wp2_with fail
        refine (VT.out _).mono ?_
        rintro e w3 ⟨rfl, hb3⟩
        have be3 := Lib.hid ((HBE.out.alloc hsz _).trans (hb3.mono (by simp; omega)))
        clear x0 x1 x2 x3 x4 hb3
        go_wp2_with fail
        go_ret
        exact ⟨rfl, be3.out⟩
    · obtain rfl : k = ms.length := by omega
      exact absurd (okTo_row hto.out) OK.out
end Go.Proofs.YtohodbpjcbjifaaDoor
