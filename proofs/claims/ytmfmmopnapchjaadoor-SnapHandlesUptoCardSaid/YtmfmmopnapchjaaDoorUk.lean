/- Tables of nodes: All. -/
import Derived.Test.YtmfmmopnapchjaaDoorUc
import Derived.Test.YtmfmmopnapchjaaDoorUab
import Derived.Test.YtmfmmopnapchjaaDoorSa
namespace Go.Proofs.YtmfmmopnapchjaaDoor
open Go Go.RowKit Go.ChangeShapes Go.WideShapes
set_option linter.unusedVariables false
set_option linter.unusedSimpArgs false
set_option maxRecDepth 100000
set_option maxHeartbeats 800000

/-- The handles of the taken slots below a number. -/
theorem allN_c (w : World) (b r N k : Nat) (g : Nat → Nat) (tk : Nat → Bool) (t : Nat → Value) (H : TabAt w b r 95 97 3 N k (slotN g tk t)) (hk : 1 ≤ k ∧ k ≤ 3) (hN : N ≤ 4096) (hg : ∀ i, i < N → tk i = true → 1 ≤ g i ∧ g i ≤ 1023) (hp : ∀ i, i < N → ∃ p, t i = .pointer p) :
    Calls Tryd.prog 81 #[.pointer (some ⟨b, 0, none⟩)] w fun e w' => ∃ v, e = .returned v ∧ w'.ownsRow w.heap.size 34 1 v (hnds k g tk N).length (hnds k g tk N) ∧ Below w.heap.size w w' := by
  obtain ⟨i0, hi0, hz0, hz1, hz2⟩ := info_of Tryd.infoHandle
  have HH := Lib.hid H
  have NM := Lib.hid (fun i w' hi hti H' => nameN_c w' b r N k i g tk t H' hk hN hi (hg i hi hti))
  have T1 := kb_cell H.tb 1
  simp at T1
  clear H
  go_enter Tryd.func81, Tryd.ntmps81
  go_wp2_with fail
  go_loopw [3, 13] (fun v i wr => ∃ m : Nat, m ≤ N ∧ i = .int .i64 m ∧ wr.ownsRow w.heap.size 34 1 v (hnds k g tk m).length (hnds k g tk m) ∧ Below w.heap.size w wr) (fun _ i _ => N - (intOf i).toNat)
  case atStart => exact ⟨0, Nat.zero_le _, rfl, World.ownsRow_nil _ _ _ _, Below.refl _ _⟩
  case round =>
    obtain ⟨m, hm, rfl, hown, hbe⟩ := hrel
    by_cases hlt : m < N
    · have HR := HH.out.below hbe
      have KR := Lib.hid HR
      have x0 := HR.row.cell m 0 hlt (by decide)
      have x1 := HR.row.cell m 1 hlt (by decide)
      have x2 := HR.row.cell m 2 hlt (by decide)
      obtain ⟨px, hpx⟩ := hp m hlt
      simp [slotN, hpx] at x0 x1 x2
      have ET := Lib.hid (hnds_succ k g tk m)
      cases ht : tk m with
      | false =>
        rw [ht] at x1
        rw [ht, if_neg (by decide)] at ET
        have KO := Lib.hid hown
        have KB := Lib.hid hbe
        clear hown hbe
        go_wp2_with fail
        go_roundw
        case rel => exact ⟨m + 1, by omega, by go_num, by rw [ET.out]; exact KO.out.alloc _, KB.out.alloc KB.out.size _⟩
        case measure => simp [intOf]; omega
      | true =>
        rw [ht] at x1
        rw [ht, if_pos rfl] at ET
        have KO := Lib.hid hown
        have KB := Lib.hid hbe
        have hlen := hnds_length k g tk m
        clear hown hbe
        go_wp2_with fail
        generalize hw1 : World.alloc wr _ = w1
        have own1 : w1.ownsRow _ _ _ _ _ _ := hw1 ▸ KO.out.alloc _
        have bw : Below wr.heap.size wr w1 := hw1 ▸ (Below.refl _ wr).alloc (Nat.le_refl _) _
        have b1 := KB.out.trans (bw.mono KB.out.size)
        have H1 := KR.out.below bw
        clear hw1
        refine (NM.out m _ hlt ht H1).mono ?_
        rintro e w2 ⟨rfl, q2⟩
        have own2 : w2.ownsRow _ _ _ _ _ _ := own_qt2 own1 q2
        have b2 := b1.trans (q2.below.mono b1.size)
        clear q2 H1 b1 own1 bw
        go_wp2_with ((at_builtin; refine appendN rfl _ _ 26 rfl w.heap.size 34 i0 _ 1 8 Tryd.underlying26 hi0 hz0 hz1 hz2 rfl (by decide) _ _ _ rfl own2 _ [.int .i64 (hnd k m (g m))] _ rfl rfl rfl (by simp [Value.oneCell']) (by unfold maxLen; omega) (by omega) b2.size b2 ?_; intro v' w3 own3 b3))
        go_roundw
        case rel => exact ⟨m + 1, by omega, by go_num, by rw [ET.out, List.length_append]; exact own3, b3⟩
        case measure => simp [intOf]; omega
    · obtain rfl : m = N := by omega
      go_wp2_with fail
      go_ret
      exact ⟨_, rfl, hown, hbe⟩
end Go.Proofs.YtmfmmopnapchjaaDoor
