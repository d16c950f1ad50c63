/- Books: find, Of. Stores into whole blocks. -/
import Derived.Test.YtmfmmopnapchjaaDoorVe
namespace Go.Proofs.YtmfmmopnapchjaaDoor
open Go Go.RowKit Go.ChangeShapes Go.WideShapes Go.Maps
set_option linter.unusedVariables false
set_option linter.unusedSimpArgs false
set_option maxRecDepth 100000
set_option maxHeartbeats 1600000

/-- Values laid into a block known whole. -/
theorem putL_mid {n : Nat} {T : TypeId} (vs : List Value) : ∀ {w : World} {cs : List Value} (o : Nat), w.heap[n]? = some (.cells cs.toArray T) → o + vs.length ≤ cs.length →
    (putL w n o vs).heap[n]? = some (.cells (cs.take o ++ vs ++ cs.drop (o + vs.length)).toArray T) := by
  induction vs with
  | nil => intro w cs o h _; simpa [putL] using h
  | cons v vs ih =>
    intro w cs o h hl
    simp only [List.length_cons] at hl ⊢
    have h1 := kb_set h o v
    rw [List.setIfInBounds_toArray] at h1
    have h2 := ih (o + 1) h1 (by simp; omega)
    have e1 : (cs.set o v).take (o + 1) = cs.take o ++ [v] := by
      rw [List.take_add_one, List.take_set_of_le (Nat.le_refl _)]
      simp [List.getElem?_set, show o < cs.length by omega]
    have e2 : (cs.set o v).drop (o + 1 + vs.length) = cs.drop (o + (vs.length + 1)) := by
      rw [List.drop_set_of_lt (by omega), show o + 1 + vs.length = o + (vs.length + 1) by omega]
    rw [e1, e2] at h2
    rw [putL, h2]
    simp
theorem putL_all {w : World} {n : Nat} {T : TypeId} {cs : List Value} (h : w.heap[n]? = some (.cells cs.toArray T)) (vs : List Value) (hl : vs.length = cs.length) : (putL w n 0 vs).heap[n]? = some (.cells vs.toArray T) := by
  have := putL_mid vs 0 h (by omega)
  simpa [hl] using this
abbrev bookObj (root : Int) (m : Nat) : Obj := .cells #[.int .i64 root, .map (some m)] 112
theorem bookFind_some (w : World) (b m N : Nat) (root h : Int) (f : Int → Option EntD) (e : EntD) (hb : w.heap[b]? = some (bookObj root m)) (hm : MapAt w m N f) (hf : f h = some e) (hr : -9223372036854775808 ≤ h ∧ h ≤ 9223372036854775807) :
    Calls Tryd.prog 52 #[.pointer (some ⟨b, 0, none⟩), .int .i64 h] w fun x w' => x = .returned (.tuple #[e.val, .nilIface]) ∧ Below w.heap.size w w' := by
  obtain ⟨p, ⟨a1, a2, a3, a4, a5, a6⟩, ⟨c1, c2, c3, c4, c5, c6⟩⟩ := e
  obtain ⟨w1, hw1⟩ : ∃ w1, w1 = w.alloc (.cells #[.int .i64 0, .int .i64 0, .int .i64 0, .int .i64 0, .int .i64 0, .int .i64 0, .int .i64 0, .int .i64 0, .int .i64 0, .int .i64 0, .int .i64 0, .int .i64 0, .int .i64 0] 109) := ⟨_, rfl⟩
  have B1 : Below w.heap.size w w1 := hw1 ▸ (Below.refl _ w).alloc (Nat.le_refl _) _
  have L1 := (hm.below B1).look h hr
  rw [hf] at L1
  simp only [EntD.val, Option.getD_some, Option.isSome_some] at L1
  have N1 : w1.heap[w.heap.size]? = _ := hw1 ▸ kb_new w _
  have D1 := kb_cell (kb_below hb B1) 1
  simp at D1
  have HW := Lib.hid hw1
  have HB := Lib.hid B1
  have HN := Lib.hid N1
  simp only [EntD.val]
  rw [hw1] at L1 D1
  clear hw1 B1 N1 hb hm
  go_enter Tryd.func52, Tryd.ntmps52
  go_wp2_with fail
  generalize hw2 : World.alloc w _ = w2
  have n2 : w2.heap[w.heap.size]? = _ := hw2 ▸ kb_new w _
  have b2 : Below w.heap.size w w2 := hw2 ▸ (Below.refl _ w).alloc (Nat.le_refl _) _
  clear hw2
  generalize hw3 : World.alloc w2 _ = w3
  have n3 : w3.heap[w.heap.size]? = _ := hw3 ▸ kb_alloc n2 _
  have b3 : Below w.heap.size w w3 := hw3 ▸ b2.alloc b2.size _
  refine bodyPost_ret (v := .tuple #[.agg #[.int .i64 p, .int .i64 a1, .int .i64 a2, .int .i64 a3, .int .i64 a4, .int .i64 a5, .int .i64 a6, .int .i64 c1, .int .i64 c2, .int .i64 c3, .int .i64 c4, .int .i64 c5, .int .i64 c6], .nilIface]) ?_ rfl ⟨rfl, b3⟩
  have q := kb_cell n3
  simp [results, Tryd.f52, go_sem, q, Tryd.underlying109, Tryd.underlying40]
theorem bookOf_some (w : World) (b m N : Nat) (root h : Int) (f : Int → Option EntD) (e : EntD) (hb : w.heap[b]? = some (bookObj root m)) (hm : MapAt w m N f) (hf : f h = some e) (hr : -9223372036854775808 ≤ h ∧ h ≤ 9223372036854775807) :
    Calls Tryd.prog 40 #[.pointer (some ⟨b, 0, none⟩), .int .i64 h] w fun x w' => x = .returned (.tuple #[e.acc.val, e.closed.val, .nilIface]) ∧ Below w.heap.size w w' := by
  obtain ⟨w1, hw1⟩ : ∃ w1, w1 = (w.alloc (.cells #[.int .i64 0, .int .i64 0, .int .i64 0, .int .i64 0, .int .i64 0, .int .i64 0] 77)).alloc (.cells #[.int .i64 0, .int .i64 0, .int .i64 0, .int .i64 0, .int .i64 0, .int .i64 0] 77) := ⟨_, rfl⟩
  have B1 : Below w.heap.size w w1 := hw1 ▸ ((Below.refl _ w).alloc (Nat.le_refl _) _).alloc (by simp) _
  have N1 : w1.heap[w.heap.size]? = _ := hw1 ▸ kb_alloc (kb_new w _) _
  have N2 : w1.heap[w.heap.size + 1]? = some (.cells #[.int .i64 0, .int .i64 0, .int .i64 0, .int .i64 0, .int .i64 0, .int .i64 0] 77) := by
    have := kb_new (w.alloc (.cells #[.int .i64 0, .int .i64 0, .int .i64 0, .int .i64 0, .int .i64 0, .int .i64 0] 77)) (.cells #[.int .i64 0, .int .i64 0, .int .i64 0, .int .i64 0, .int .i64 0, .int .i64 0] 77)
    rw [← hw1] at this
    simpa using this
  have BF := Lib.hid (bookFind_some w1 b m N root h f e (kb_below hb B1) (hm.below B1) hf hr)
  have HB := Lib.hid B1
  have HN1 := Lib.hid N1
  have HN2 := Lib.hid N2
  have HW := Lib.hid hw1
  clear hw1 B1 N1 N2 hb hm
  obtain ⟨p, ⟨a1, a2, a3, a4, a5, a6⟩, ⟨c1, c2, c3, c4, c5, c6⟩⟩ := e
  simp only [EntD.val] at BF
  simp only [Acc6.val]
  go_enter Tryd.func40, Tryd.ntmps40
  go_wp2_with fail
  rw [← HW.out]
  refine BF.out.mono ?_
  rintro x w2 ⟨rfl, b2⟩
  have n1 := kb_below HN1.out b2
  have n2 := kb_below HN2.out b2
  have B2 := Lib.hid (HB.out.trans (b2.mono HB.out.size))
  clear b2
  go_wp2_with fail
  generalize hw3 : World.alloc w2 _ = w3
  have m0 : w3.heap[w2.heap.size]? = _ := hw3 ▸ kb_new w2 _
  have m1 : w3.heap[w.heap.size]? = _ := hw3 ▸ kb_alloc n1 _
  have m2 : w3.heap[w.heap.size + 1]? = _ := hw3 ▸ kb_alloc n2 _
  have B3 := Lib.hid (show Below w.heap.size w w3 from hw3 ▸ B2.out.alloc B2.out.size _)
  clear hw3 n1 n2
  have c := kb_cell m0
  have q1 := kb_frozen m1
  have q2 := kb_frozen m2
  have d1 := kb_cell m1
  have d2 := kb_cell m2
  have M1 := Lib.hid m1
  have M2 := Lib.hid m2
  clear m0 m1 m2
  go_region
  change Exit.then _ _ _ _ (putL (putL w3 w.heap.size 0 [.int .i64 a1, .int .i64 a2, .int .i64 a3, .int .i64 a4, .int .i64 a5, .int .i64 a6]) (w.heap.size + 1) 0 [.int .i64 c1, .int .i64 c2, .int .i64 c3, .int .i64 c4, .int .i64 c5, .int .i64 c6]).drew
  have f1 := (putL_other (show w.heap.size ≠ w.heap.size + 1 by omega) [.int .i64 c1, .int .i64 c2, .int .i64 c3, .int .i64 c4, .int .i64 c5, .int .i64 c6] _ 0).trans (putL_all M1.out [.int .i64 a1, .int .i64 a2, .int .i64 a3, .int .i64 a4, .int .i64 a5, .int .i64 a6] rfl)
  have f2 := putL_all ((putL_other (show w.heap.size + 1 ≠ w.heap.size by omega) [.int .i64 a1, .int .i64 a2, .int .i64 a3, .int .i64 a4, .int .i64 a5, .int .i64 a6] _ 0).trans M2.out) [.int .i64 c1, .int .i64 c2, .int .i64 c3, .int .i64 c4, .int .i64 c5, .int .i64 c6] rfl
  have B4 := putL_below (b := w.heap.size + 1) (by omega) [.int .i64 c1, .int .i64 c2, .int .i64 c3, .int .i64 c4, .int .i64 c5, .int .i64 c6] 0 (putL_below (b := w.heap.size) (Nat.le_refl _) [.int .i64 a1, .int .i64 a2, .int .i64 a3, .int .i64 a4, .int .i64 a5, .int .i64 a6] 0 B3.out)
  generalize putL (putL w3 w.heap.size 0 [.int .i64 a1, .int .i64 a2, .int .i64 a3, .int .i64 a4, .int .i64 a5, .int .i64 a6]) (w.heap.size + 1) 0 [.int .i64 c1, .int .i64 c2, .int .i64 c3, .int .i64 c4, .int .i64 c5, .int .i64 c6] = w4 at *
  have F1 := Lib.hid f1
  have F2 := Lib.hid f2
  have KB4 := Lib.hid B4
  clear f1 f2 B4 c q1 q2 d1 d2 M1 M2 HN1 HN2
  go_wp2_with fail
  refine bodyPost_ret (v := .tuple #[.agg #[.int .i64 a1, .int .i64 a2, .int .i64 a3, .int .i64 a4, .int .i64 a5, .int .i64 a6], .agg #[.int .i64 c1, .int .i64 c2, .int .i64 c3, .int .i64 c4, .int .i64 c5, .int .i64 c6], .nilIface]) ?_ rfl ⟨rfl, KB4.out.drew⟩
  have r1 := kb_cell (w := w4.drew) F1.out
  have r2 := kb_cell (w := w4.drew) F2.out
  simp [results, Tryd.f40, go_sem, r1, r2, Tryd.underlying77, Tryd.underlying40]
end Go.Proofs.YtmfmmopnapchjaaDoor
