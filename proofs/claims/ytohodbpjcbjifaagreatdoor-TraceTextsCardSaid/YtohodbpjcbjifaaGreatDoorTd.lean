/- The head of the trace statements (sure): it answers true. -/
import Derived.Test.YtohodbpjcbjifaaGreatDoorTc
namespace Go.Proofs.YtohodbpjcbjifaaGreatDoor
open Go Go.RowKit Go.ChangeShapes Go.WideShapes
set_option linter.unusedVariables false
set_option maxRecDepth 100000
set_option maxHeartbeats 800000

theorem sure_ok (W : World) : Calls Tryz.prog 10 #[] W fun e w' => e = .returned (.bool true) ∧ Below W.heap.size W w' := by
  have NT := Lib.hid (new_t W 1 (by decide) (by decide))
  go_enter Tryz.func10, Tryz.ntmps10
  go_wp2_with fail
  refine NT.out.mono ?_
  rintro e w1 ⟨rfl, ts, hb1⟩
  have TS1 := Lib.hid ts
  have HB1 := Lib.hid hb1
  clear ts hb1
  go_wp2_with fail
  obtain ⟨w2, hw2⟩ : ∃ w2, w2 = w1.alloc (.cells #[.int .i64 1, .int .i64 1, .int .i64 0, .int .i64 0, .int .i64 0, .int .i64 2, .int .i64 3, .int .i64 0, .int .i64 0, .int .i64 0] 24) := ⟨_, rfl⟩
  rw [← hw2]
  have ts2 : TS w2 (W.heap.size + 1) W.heap.size [] ((1 : Nat)) 0 0 [] := TS1.out.below (by rw [hw2]; exact (Below.refl _ _).alloc (Nat.le_refl _) _)
  have hb2 : Below W.heap.size W w2 := by rw [hw2]; exact HB1.out.alloc HB1.out.size _
  have rm : RM w2 (.slice (some ⟨w1.heap.size, 0, none⟩) 2 2) [⟨1, 1, 0, 0, 0⟩, ⟨2, 3, 0, 0, 0⟩] := by
    refine .inr ⟨w1.heap.size, 0, 2, rfl, by decide, by rw [hw2]; simp, fun i hi => ?_⟩
    have : i = 0 ∨ i = 1 := by simp at hi; omega
    rw [hw2]
    rcases this with rfl | rfl
    · exact ⟨cell_new _ _ _ 0 _ rfl, cell_new _ _ _ 1 _ rfl, cell_new _ _ _ 2 _ rfl, cell_new _ _ _ 3 _ rfl, cell_new _ _ _ 4 _ rfl⟩
    · exact ⟨cell_new _ _ _ 5 _ rfl, cell_new _ _ _ 6 _ rfl, cell_new _ _ _ 7 _ rfl, cell_new _ _ _ 8 _ rfl, cell_new _ _ _ 9 _ rfl⟩
  refine (add_t w2 _ _ _ _ _ _ _ _ _ ts2 rm (by decide) ?_ ?_ (by decide)).mono ?_
  · intro k hk
    simp [Value.ownBlock] at hk
    have := TS1.out.t3.lt
    rintro (h | h | h)
    · omega
    · omega
    · cases h
  · refine ⟨?_, ?_⟩
    · intro m hm
      simp at hm
      rcases hm with rfl | rfl <;> exact ok0_mk (by decide) (by decide) (by decide)
    · intro i hi
      have : i = 0 ∨ i = 1 := by simp at hi; omega
      rcases this with rfl | rfl <;> decide
  rintro e w3 ⟨rfl, gs3, ts3, _, ch3⟩
  have hb3 : Below W.heap.size W w3 := hb2.trans (ch3.below (by rintro k (h | h | h); omega; omega; cases h) hb2.size)
  clear hw2 rm ts2
  go_wp2_with fail
  refine (all_t w3 _ _ _ _ _ _ _ ts3).mono ?_
  rintro e w4 ⟨v, rfl, hown, hb4⟩
  have hb : Below W.heap.size W w4 := hb3.trans (hb4.mono hb3.size)
  have hf : (addAll 1 (0, []) [⟨1, 1, 0, 0, 0⟩, ⟨2, 3, 0, 0, 0⟩]).2 = [(⟨2, 3, 0, 0, 0⟩ : Mk)] := by decide
  have hf1 : (addAll 1 (0, []) [⟨1, 1, 0, 0, 0⟩, ⟨2, 3, 0, 0, 0⟩]).1 = 1 := by decide
  have rm := (RM_own hown).1
  rw [hf] at rm
  rw [hf1]
  clear hown ts3
  obtain ⟨p, c, rfl, hrow⟩ := rm.out
  obtain ⟨b, o, rfl, _, _, hr⟩ := hrow (by decide)
  obtain ⟨x0, _, _, _, _⟩ := hr 0 (by decide)
  simp at x0
  go_wp2_with fail
  go_ret
  exact ⟨rfl, hb⟩
end Go.Proofs.YtohodbpjcbjifaaGreatDoor
