/- The walk of TraceTexts. -/
import Derived.Test.YtohodbpjcbjifaaGreatDoorWTraceReads
namespace Go.Proofs.YtohodbpjcbjifaaGreatDoor
open Go Go.RowKit Go.Shelf Go.Sort
set_option linter.unusedVariables false
set_option linter.unusedSimpArgs false
set_option maxRecDepth 100000
set_option maxHeartbeats 3200000

theorem mText_len (m : Mk) : (mText m).length ≤ 200 := by
  unfold mText
  split
  · rename_i h
    obtain ⟨⟨t0, t1⟩, hk, hh, hj, n0, n1⟩ := h
    have := Lib.itoa_length_le m.t (by omega) (by omega)
    have := Lib.itoa_length_le m.n (by omega) (by omega)
    have := word_len m.k
    have := hText_len hh
    have := hText_len hj
    rw [mComps, Lib.join_cons]
    simp only [tail_consC, List.length_append, List.length_cons, show Lib.joinTail [32] [] = [] from rfl, List.length_nil]
    omega
  · simp
theorem traceTexts_walk (m : Mk) (W : World) (E : EnvT W) :
    Calls Tryz.prog 3 #[.agg #[.int .i64 m.t, .int .i64 m.k, .int .i64 m.h, .int .i64 m.j, .int .i64 m.n]] W fun e w' => e = .returned (.bool true) ∧ Below W.heap.size W w' := by
  have f0 := five_new W m
  have b0 : Below W.heap.size W (W.alloc (mkCells m.t m.k m.h m.j m.n)) := (Below.refl _ _).alloc (Nat.le_refl _) _
  obtain ⟨w0, hw0⟩ : ∃ w0, w0 = W.alloc (mkCells m.t m.k m.h m.j m.n) := ⟨_, rfl⟩
  rw [← hw0] at f0 b0
  have HW := Lib.hid hw0
  have F0 := Lib.hid f0
  have B0 := Lib.hid b0
  have EE := Lib.hid E
  have C1 := Lib.hid (fun w (h : Env w) => text_c m w h)
  have C2 := Lib.hid (fun w => rtext0_c m w)
  have C3 := Lib.hid (fun w (h : Env w) => mread_any (mText m) w h (by have := mText_len m; omega))
  have SU := Lib.hid sure_ok
  have NO := Lib.hid (num_k 4)
  have n0 : ∀ w, (binOp BinOp.eql 27 .nilIface .nilIface).run Tryz.prog w = .ok (.bool true) w := fun w => by kernel_rfl
  clear E hw0 f0 b0
  by_cases hok : Ok0 m
  · have V := Lib.hid (fun w => rvalid0 m w hok)
    rw [mRead_text hok] at C3
    have eq := mk_eql m.t m.k m.h m.j m.n
    generalize mText m = mt at *
    clear hok
    obtain ⟨t, k, h, j, n⟩ := m
    simp only [Mk.val] at *
    go_enter Tryz.func3, Tryz.ntmps3
    go_wp2_with fail
    rw [← HW.out]
    refine (C1.out _ (EE.out.below B0.out).E).mono ?_
    rintro e w1 ⟨rfl, b1⟩
    have F1 := Lib.hid (F0.out.below b1)
    have B1 := Lib.hid (B0.out.trans (b1.mono B0.out.size))
    have c0 := F1.out.c0
    have c1 := F1.out.c1
    have c2 := F1.out.c2
    have c3 := F1.out.c3
    have c4 := F1.out.c4
    simp only at c0 c1 c2 c3 c4
    clear b1
    go_wp2_with fail
    refine (C2.out _).mono ?_
    rintro e w2 ⟨rfl, b2⟩
    have F2 := Lib.hid (F1.out.below b2)
    have B2 := Lib.hid (B1.out.trans (b2.mono B1.out.size))
    clear b2 c0 c1 c2 c3 c4
    go_wp2_with fail
    refine (C3.out _ (EE.out.below B2.out).E).mono ?_
    rintro e w3 ⟨rfl, b3⟩
    have F3 := Lib.hid (F2.out.below b3)
    have B3 := Lib.hid (B2.out.trans (b3.mono B2.out.size))
    have F4 := Lib.hid (F3.out.below ((Below.refl _ _).alloc (Nat.le_refl _) (mkCells t k h j n)))
    have G4 := Lib.hid (five_new w3 ⟨t, k, h, j, n⟩)
    have B4 := Lib.hid (B3.out.alloc B3.out.size (mkCells t k h j n))
    have c0 := F4.out.c0
    have c1 := F4.out.c1
    have c2 := F4.out.c2
    have c3 := F4.out.c3
    have c4 := F4.out.c4
    simp only at c0 c1 c2 c3 c4
    clear b3
    go_wp2_with fail
    refine (V.out _).mono ?_
    rintro e w5 ⟨rfl, b5⟩
    have F5 := F4.out.below b5
    have G5 := G4.out.below b5
    have B5 := Lib.hid (B4.out.trans (b5.mono B4.out.size))
    clear b5 c0 c1 c2 c3 c4
    have c0 := F5.c0
    have c1 := F5.c1
    have c2 := F5.c2
    have c3 := F5.c3
    have c4 := F5.c4
    have d0 := G5.c0
    have d1 := G5.c1
    have d2 := G5.c2
    have d3 := G5.c3
    have d4 := G5.c4
    simp only at c0 c1 c2 c3 c4 d0 d1 d2 d3 d4
    have he : errOf 0 = .nilIface := rfl
    clear F5 G5
    go_wp2_with fail
    refine (SU.out _).mono ?_
    rintro e w6 ⟨rfl, b6⟩
    have B6 := Lib.hid (B5.out.trans (b6.mono B5.out.size))
    clear b6
    go_wp2_with fail
    go_ret
    exact ⟨rfl, B6.out⟩
  · have V := Lib.hid (fun w => rvalid0_f m w hok)
    have hmt : mText m = [] := if_neg hok
    rw [hmt, mRead_nil] at C3
    rw [hmt] at C1 C2
    clear hok hmt
    obtain ⟨t, k, h, j, n⟩ := m
    simp only [Mk.val, mZero] at *
    go_enter Tryz.func3, Tryz.ntmps3
    go_wp2_with fail
    rw [← HW.out]
    refine (C1.out _ (EE.out.below B0.out).E).mono ?_
    rintro e w1 ⟨rfl, b1⟩
    have F1 := Lib.hid (F0.out.below b1)
    have B1 := Lib.hid (B0.out.trans (b1.mono B0.out.size))
    have c0 := F1.out.c0
    have c1 := F1.out.c1
    have c2 := F1.out.c2
    have c3 := F1.out.c3
    have c4 := F1.out.c4
    simp only at c0 c1 c2 c3 c4
    clear b1
    go_wp2_with fail
    refine (C2.out _).mono ?_
    rintro e w2 ⟨rfl, b2⟩
    have F2 := Lib.hid (F1.out.below b2)
    have B2 := Lib.hid (B1.out.trans (b2.mono B1.out.size))
    clear b2 c0 c1 c2 c3 c4
    go_wp2_with fail
    refine (C3.out _ (EE.out.below B2.out).E).mono ?_
    rintro e w3 ⟨rfl, b3⟩
    have F3 := Lib.hid (F2.out.below b3)
    have B3 := Lib.hid (B2.out.trans (b3.mono B2.out.size))
    have F4 := Lib.hid (F3.out.below ((Below.refl _ _).alloc (Nat.le_refl _) (mkCells 0 0 0 0 0)))
    have B4 := Lib.hid (B3.out.alloc B3.out.size (mkCells 0 0 0 0 0))
    have c0 := F4.out.c0
    have c1 := F4.out.c1
    have c2 := F4.out.c2
    have c3 := F4.out.c3
    have c4 := F4.out.c4
    simp only at c0 c1 c2 c3 c4
    clear b3
    go_wp2_with fail
    refine (V.out _).mono ?_
    rintro e w5 ⟨rfl, b5⟩
    have B5 := Lib.hid (B4.out.trans (b5.mono B4.out.size))
    clear b5 c0 c1 c2 c3 c4
    go_wp2_with fail
    refine (NO.out _ (EE.out.below B5.out).T).mono ?_
    rintro e w6 ⟨rfl, b6⟩
    have B6 := Lib.hid (B5.out.trans (b6.mono B5.out.size))
    clear b6
    go_wp2_with fail
    refine (SU.out _).mono ?_
    rintro e w7 ⟨rfl, b7⟩
    have B7 := Lib.hid (B6.out.trans (b7.mono B6.out.size))
    clear b7
    go_wp2_with fail
    go_ret
    exact ⟨rfl, B7.out⟩
end Go.Proofs.YtohodbpjcbjifaaGreatDoor
