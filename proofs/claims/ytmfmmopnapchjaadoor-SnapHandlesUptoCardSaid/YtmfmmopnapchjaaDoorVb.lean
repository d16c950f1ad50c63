/- leaf.New, slack.New. -/
import Derived.Test.YtmfmmopnapchjaaDoorUm
namespace Go.Proofs.YtmfmmopnapchjaaDoor
open Go Go.RowKit Go.ChangeShapes Go.WideShapes
set_option linter.unusedVariables false
set_option linter.unusedSimpArgs false
set_option maxRecDepth 100000
set_option maxHeartbeats 800000

/-- A leaf in memory: its block, its table. -/
structure LeafAt (w : World) (l b r : Nat) (g : Nat → Nat) (tk : Nat → Bool) (t : Nat → TkV) : Prop where
  lf : w.heap[l]? = some (.cells #[.pointer (some ⟨b, 0, none⟩)] 107)
  tab : TabAt w b r 138 140 10 8 2 (slotT g tk t)
/-- A pool in memory. -/
structure PoolAt (w : World) (l b r : Nat) (last : Int) (g : Nat → Nat) (tk : Nat → Bool) (t : Nat → TkV) : Prop where
  pl : w.heap[l]? = some (.cells #[.pointer (some ⟨b, 0, none⟩), .int .i64 last] 114)
  tab : TabAt w b r 138 140 10 16 3 (slotT g tk t)

theorem leafNew_c (w : World) : Calls Tryd.prog 18 #[] w fun e w' => ∃ l b r, e = .returned (.pointer (some ⟨l, 0, none⟩)) ∧ w.heap.size ≤ b ∧ w.heap.size ≤ r ∧ w.heap.size ≤ l ∧ LeafAt w' l b r (fun _ => 1) (fun _ => false) (fun _ => TkV.zero) ∧ Below w.heap.size w w' := by
  have NT := Lib.hid (newT_c w 8 2 (by decide) (by decide))
  go_enter Tryd.func18, Tryd.ntmps18
  go_wp2_with fail
  refine NT.out.mono ?_
  rintro e w2 ⟨b, r, rfl, hb, hr, hT, hB⟩
  have KT := Lib.hid hT
  have KB := Lib.hid hB
  clear hT hB
  go_wp2_with fail
  go_ret
  exact ⟨_, b, r, rfl, hb, hr, KB.out.size, ⟨kb_new w2 _, KT.out.below ((Below.refl _ w2).alloc (Nat.le_refl _) _)⟩, KB.out.alloc KB.out.size _⟩

theorem poolNew_c (w : World) : Calls Tryd.prog 20 #[] w fun e w' => ∃ l b r, e = .returned (.pointer (some ⟨l, 0, none⟩)) ∧ w.heap.size ≤ b ∧ w.heap.size ≤ r ∧ w.heap.size ≤ l ∧ PoolAt w' l b r (-1) (fun _ => 1) (fun _ => false) (fun _ => TkV.zero) ∧ Below w.heap.size w w' := by
  have NT := Lib.hid (newT_c w 16 3 (by decide) (by decide))
  go_enter Tryd.func20, Tryd.ntmps20
  go_wp2_with fail
  refine NT.out.mono ?_
  rintro e w2 ⟨b, r, rfl, hb, hr, hT, hB⟩
  have KT := Lib.hid hT
  have KB := Lib.hid hB
  clear hT hB
  go_wp2_with fail
  go_ret
  exact ⟨_, b, r, rfl, hb, hr, KB.out.size, ⟨kb_new w2 _, KT.out.below ((Below.refl _ w2).alloc (Nat.le_refl _) _)⟩, KB.out.alloc KB.out.size _⟩
end Go.Proofs.YtmfmmopnapchjaaDoor
