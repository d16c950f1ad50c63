/- The walks of TraceReads (where the text is short) and TraceTexts. -/
import Derived.Test.YtohodbpjcbjifaaGreatDoorKg
import Derived.Test.YtohodbpjcbjifaaGreatDoorTd
import Derived.Test.YtohodbpjcbjifaaGreatDoorEa
namespace Go.Proofs.YtohodbpjcbjifaaGreatDoor
open Go Go.RowKit Go.Shelf Go.Sort
set_option linter.unusedVariables false
set_option linter.unusedSimpArgs false
set_option maxRecDepth 100000
set_option maxHeartbeats 3200000

/-- What the world holds when a law of this seat is called. -/
structure EnvT (w : World) : Prop where
  E : Env w
  T : ETy w
theorem EnvT.below {w w' : World} (h : EnvT w) (hb : Below w.heap.size w w') : EnvT w' := ⟨h.E.below hb, h.T.below hb (Nat.le_refl _)⟩
theorem num_k (n : Int) (W : World) (hE : ETy W) : Calls Tryz.prog 9 #[errOf n] W fun e w' => e = .returned (.int .i64 n) ∧ Below W.heap.size W w' := by
  unfold errOf
  by_cases h : n = 0
  · subst h; rw [if_pos rfl]; exact num0 W
  · rw [if_neg h]; exact num1 n W hE
theorem mk_eql (t k h j n : Int) (w : World) : (binOp .eql 24 (.agg #[.int .i64 t, .int .i64 k, .int .i64 h, .int .i64 j, .int .i64 n]) (.agg #[.int .i64 t, .int .i64 k, .int .i64 h, .int .i64 j, .int .i64 n])).run Tryz.prog w = .ok (.bool true) w := by
  have p1 : Tryz.prog.stoodInHeld 24 = false := by kernel_rfl
  have p2 : Tryz.prog.underlying 24 = some (.struct (Tryz.prog.fieldsOf 24)) := rfl
  rw [run_eql_struct, run_equalIn_struct w 9999 _ _ _ p2 p1]
  simp [go_sem, Tryz.underlying24, Tryz.underlying3, Tryz.underlying22]
abbrev mkCells (t k h j n : Int) : Obj := .cells #[.int .i64 t, .int .i64 k, .int .i64 h, .int .i64 j, .int .i64 n] 24
theorem traceReads_walk (s : ByteArray) (hs : s.size ≤ 1048576) (W : World) (E : EnvT W) :
    Calls Tryz.prog 4 #[.string s] W fun e w' => e = .returned (.bool true) ∧ Below W.heap.size W w' := by
  obtain ⟨l, rfl⟩ : ∃ l : List UInt8, s = ⟨l.toArray⟩ := ⟨_, of_str s⟩
  rw [sz] at hs
  have C1 := Lib.hid (mread_any l W E.E (by omega))
  have C2 := Lib.hid (fun w => mreadR_any l w (by omega))
  rw [mRead_same] at C2
  have EE := Lib.hid E
  clear E hs
  generalize mRead l = R at *
  obtain ⟨⟨t, k, h, j, n⟩, e0⟩ := R
  simp only [Mk.val] at C1 C2
  have NO := Lib.hid (num_k e0)
  have SU := Lib.hid sure_ok
  have eq := mk_eql t k h j n
  go_enter Tryz.func4, Tryz.ntmps4
  go_wp2_with fail
  refine C1.out.mono ?_
  rintro e w1 ⟨rfl, b1⟩
  have B1 := Lib.hid b1
  clear b1
  go_wp2_with fail
  refine (C2.out _).mono ?_
  rintro e w2 ⟨rfl, b2⟩
  have F3 : Five (w2.alloc (mkCells t k h j n)) w1.heap.size ⟨t, k, h, j, n⟩ := ((five_new w1 ⟨t, k, h, j, n⟩).below b2).below ((Below.refl _ _).alloc (Nat.le_refl _) _)
  have F5 : Five (w2.alloc (mkCells t k h j n)) w2.heap.size ⟨t, k, h, j, n⟩ := five_new w2 ⟨t, k, h, j, n⟩
  have c0 := F3.c0
  have c1 := F3.c1
  have c2 := F3.c2
  have c3 := F3.c3
  have c4 := F3.c4
  have d0 := F5.c0
  have d1 := F5.c1
  have d2 := F5.c2
  have d3 := F5.c3
  have d4 := F5.c4
  simp only at c0 c1 c2 c3 c4 d0 d1 d2 d3 d4
  have B3 : Hid (Below W.heap.size W (w2.alloc (mkCells t k h j n))) := Lib.hid (((B1.out.trans (((Below.refl _ _).alloc (Nat.le_refl _) _).mono B1.out.size)).trans (b2.mono (by have := B1.out.size; simp; omega))).alloc (by have h1 := B1.out.size; have h2 := b2.size; simp at h2; omega) _)
  clear b2 F3 F5
  go_wp2_with fail
  refine (NO.out _ (EE.out.below B3.out).T).mono ?_
  rintro e w4 ⟨rfl, b4⟩
  have B4 := Lib.hid (B3.out.trans (b4.mono B3.out.size))
  have q : (e0 == e0) = true := by simp
  clear b4
  go_wp2_with fail
  refine (SU.out _).mono ?_
  rintro e w5 ⟨rfl, b5⟩
  have B5 := Lib.hid (B4.out.trans (b5.mono B4.out.size))
  clear b5
  go_wp2_with fail
  go_ret
  exact ⟨rfl, B5.out⟩
end Go.Proofs.YtohodbpjcbjifaaGreatDoor
