/- Tables of tasks: Slots. -/
import Derived.Test.YtmfmmopnapchjaaDoorUb
import Derived.Test.YtmfmmopnapchjaaDoorVj
namespace Go.Proofs.YtmfmmopnapchjaaDoor
open Go Go.RowKit Go.ChangeShapes Go.WideShapes
set_option linter.unusedVariables false
set_option linter.unusedSimpArgs false
set_option maxRecDepth 100000
set_option maxHeartbeats 1600000

theorem slotsT_c (w : World) (b r N k : Nat) (g : Nat → Nat) (tk : Nat → Bool) (t : Nat → TkV) (H : TabAt w b r 138 140 10 N k (slotT g tk t)) (hN : N ≤ 4096) :
    Calls Tryd.prog 54 #[.pointer (some ⟨b, 0, none⟩)] w fun e w' => ∃ va vb, e = .returned (.tuple #[va, vb]) ∧ SlotsR w.heap.size w g tk N va vb w' := by
  obtain ⟨iG, hiG, hzG, hsG, hbG⟩ := info_of Tryd.infoIntV
  obtain ⟨iT, hiT, hzT, hsT, hbT⟩ := info_of Tryd.infoBoolV
  have HH := Lib.hid H
  have T1 := kb_cell H.tb 1
  simp at T1
  clear H
  go_enter Tryd.func54, Tryd.ntmps54
  go_wp2_with fail
  go_loopw [4, 5, 15] (fun va vb i wr => ∃ m : Nat, m ≤ N ∧ i = .int .i64 m ∧ SlotsR w.heap.size w g tk m va vb wr) (fun _ _ i _ => N - (intOf i).toNat)
  case atStart => exact ⟨0, Nat.zero_le _, rfl, World.ownsRow_nil _ _ _ _, World.ownsRow_nil _ _ _ _, Below.refl _ _⟩
  case round =>
    obtain ⟨m, hm, rfl, hga, hta, hbe⟩ := hrel
    by_cases hlt : m < N
    · have HR := HH.out.below hbe
      have x0 := HR.row.cell m 0 hlt (by decide)
      have x1 := HR.row.cell m 1 hlt (by decide)
      have x2 := HR.row.cell m 2 hlt (by decide)
      have x3 := HR.row.cell m 3 hlt (by decide)
      have x4 := HR.row.cell m 4 hlt (by decide)
      have x5 := HR.row.cell m 5 hlt (by decide)
      have x6 := HR.row.cell m 6 hlt (by decide)
      have x7 := HR.row.cell m 7 hlt (by decide)
      have x8 := HR.row.cell m 8 hlt (by decide)
      have x9 := HR.row.cell m 9 hlt (by decide)
      simp [slotT] at x0 x1 x2 x3 x4 x5 x6 x7 x8 x9
      have GA := Lib.hid hga
      have TA := Lib.hid hta
      have BE := Lib.hid hbe
      clear HR hga hta hbe
      go_upto_region 8 with fail
      generalize hz : World.alloc wr _ = wz
      have n0 : wz.heap[wr.heap.size]? = _ := hz ▸ kb_new wr _
      have GZ := Lib.hid (show wz.ownsRow _ _ _ _ _ _ from hz ▸ GA.out.alloc _)
      have TZ := Lib.hid (show wz.ownsRow _ _ _ _ _ _ from hz ▸ TA.out.alloc _)
      have BZ := Lib.hid (show Below w.heap.size w wz from hz ▸ BE.out.alloc BE.out.size _)
      have LA := Lib.hid (own_lt1 GA.out)
      have SR : Hid (wz.heap.size = wr.heap.size + 1) := Lib.hid (by rw [← hz]; simp)
      have N0 := Lib.hid n0
      have NT := Lib.hid (own_types TZ.out GZ.out (by decide))
      have q := kb_cell n0
      clear hz GA TA BE n0 x0 x1 x2 x3 x4 x5 x6 x7 x8 x9
      have CG := Lib.hid (cell_a wz (.int .i64 (g m)) 3 (.cells #[.bool (tk m)] 4))
      have CT := Lib.hid (cell_a wz (.bool (tk m)) 4 (.cells #[.int .i64 (g m)] 3))
      have CX : Hid (∀ w' : World, (w'.alloc (.cells #[.bool (tk m)] 4)).cell? ⟨w'.heap.size, 0, none⟩ = some (.bool (tk m))) := Lib.hid (fun w' => (cell_a w' _ _ (.cells #[] 0)).1)
      have GS := Lib.hid (gensL_succ g m)
      have TS := Lib.hid (tkL_succ tk m)
      have HM1 : Hid (m + 1 ≤ maxLen) := Lib.hid (by unfold maxLen; omega)
      have HM2 : Hid ((m + 1) * 8 ≤ 140737488355328) := Lib.hid (by omega)
      have HM3 : Hid ((m + 1) * 1 ≤ 140737488355328) := Lib.hid (by omega)
      have SZ := Lib.hid BZ.out.size
      have hlz : wr.heap.size < wz.heap.size := by have := SR.out; omega
      have hnz : wr.heap.size ≠ wz.heap.size := by omega
      have q0 : ∀ o i, (wz.alloc o).cell? ⟨wr.heap.size, i, none⟩ = wz.cell? ⟨wr.heap.size, i, none⟩ := fun o i => World.cell?_of_block (w := wz) (a := ⟨wr.heap.size, i, none⟩) (Below.heap_alloc _ _ _ hlz)
      go_region_law? ((first
        | (refine step_append1 rfl (.tmp 19) (.tmp 22) 60 rfl w.heap.size 3 iG _ 8 Tryd.underlying60 hiG hzG hsG hbG rfl _ m (gensL g m) rfl ?_ _ _ (.int .i64 (g m)) rfl ?_ rfl HM1.out HM2.out ?_ ?_
           · first | exact GZ.out | exact GZ.out.alloc _ | exact (GZ.out.alloc _).alloc _
           · first | exact CG.out.1 | exact CG.out.2.1 | exact CG.out.2.2
           · first | exact SZ.out | exact (BZ.out.alloc SZ.out _).size | exact ((BZ.out.alloc SZ.out _).alloc (BZ.out.alloc SZ.out _).size _).size
           intro gb cb w1 own1 gr1
           have KP := fun x (hx : wr.heap.size ≤ x) h2 => gr1.block x h2 (fun e => by have := LA.out x e.symm; omega)
           have q1 := kb_cell ((KP wr.heap.size (Nat.le_refl _) (by first | exact kb_lt (kb_alloc N0.out _) | exact kb_lt (kb_alloc (kb_alloc N0.out _) _))).trans (by first | exact kb_alloc N0.out _ | exact kb_alloc (kb_alloc N0.out _) _))
           have T1 := own_grown (by first | exact TZ.out.alloc _ | exact (TZ.out.alloc _).alloc _) gr1 NT.out
           have B1 := grown_below (by first | exact (BZ.out.alloc SZ.out _).drew | exact ((BZ.out.alloc SZ.out _).alloc (BZ.out.alloc SZ.out _).size _).drew) (by first | exact (BZ.out.alloc SZ.out _).size | exact ((BZ.out.alloc SZ.out _).alloc (BZ.out.alloc SZ.out _).size _).size) (by first | exact GZ.out.alloc _ | exact (GZ.out.alloc _).alloc _) gr1
           have NT1 := own_types own1 T1 (by decide))
        | (refine step_append1 rfl (.tmp 24) (.tmp 27) 62 rfl w.heap.size 4 iT _ 1 Tryd.underlying62 hiT hzT hsT hbT rfl _ m (tkL tk m) rfl ?_ _ _ (.bool (tk m)) rfl ?_ rfl HM1.out HM3.out ?_ ?_
           · first | exact T1 | exact T1.alloc _
           · first | exact CX.out w1 | exact (World.cell?_of_block (a := ⟨wz.heap.size, 0, none⟩) (KP wz.heap.size (Nat.le_of_lt hlz) (Nat.lt_of_lt_of_eq (by omega) (alloc2_size wz _ _).symm))).trans CT.out.2.1 | exact (World.cell?_of_block (a := ⟨wz.heap.size + 1, 0, none⟩) (KP (wz.heap.size + 1) (Nat.le_succ_of_le (Nat.le_of_lt hlz)) (Nat.lt_of_lt_of_eq (by omega) (alloc2_size wz _ _).symm))).trans CT.out.2.2
           · first | exact B1.size | exact (B1.alloc B1.size _).size
           intro gt ct w2 own2 gr2
           have B2 := grown_below (by first | exact B1 | exact B1.alloc B1.size _) (by first | exact B1.size | exact (B1.alloc B1.size _).size) (by first | exact T1 | exact T1.alloc _) gr2
           have G2 := own_grown (by first | exact own1 | exact own1.alloc _) gr2 NT1)))
      all_goals
        have HG := Lib.hid G2
        have HT := Lib.hid own2
        have HB := Lib.hid B2
        clear own1 gr1 own2 gr2 G2 B2 B1 KP NT1 T1 q1
        go_wp2_with fail
        go_roundw
        case rel => exact ⟨m + 1, by omega, by go_num, by rw [GS.out]; exact HG.out, by rw [TS.out]; exact HT.out, HB.out⟩
        case measure => simp [intOf]; omega
    · obtain rfl : m = N := by omega
      have GA := Lib.hid hga
      have TA := Lib.hid hta
      have BE := Lib.hid hbe
      clear hga hta hbe
      go_wp2_with fail
      go_ret2
      exact ⟨_, _, rfl, GA.out, TA.out, BE.out⟩
end Go.Proofs.YtmfmmopnapchjaaDoor
