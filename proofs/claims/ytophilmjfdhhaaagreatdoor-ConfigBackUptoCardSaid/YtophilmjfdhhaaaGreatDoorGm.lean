/- The laws of layer 25: sure; what Parse hands back may be. -/
import Derived.Test.YtophilmjfdhhaaaGreatDoorGl
namespace Go.Proofs.YtophilmjfdhhaaaGreatDoor
open Go Go.RowKit Go.Shelf Go.Sort
set_option linter.unusedVariables false
set_option linter.unusedSimpArgs false
set_option maxRecDepth 100000
set_option maxHeartbeats 4000000

structure EnvT (w : World) : Prop where
  E : Env w
  T : ETy w
theorem EnvT.below {w w' : World} (h : EnvT w) (hb : Below w.heap.size w w') : EnvT w' := ⟨h.E.below hb, h.T.below hb (Nat.le_refl _)⟩
abbrev sureB : List UInt8 := [115, 108, 97, 99, 107, 32, 50, 10, 97, 32, 49, 47, 50, 10, 32, 32, 98, 32, 51, 47, 52, 32, 116, 97, 115, 107, 115, 32, 48, 32, 53, 10]
abbrev sureT : Tr := ⟨[⟨[97], -1, 1, 2, []⟩, ⟨[98], 0, 3, 4, [0, 5]⟩], [2]⟩
theorem sure_parse : parseS sureB = (sureT, 0, 0) := by kernel_rfl
theorem sure_find : findS sureT [97, 47, 98] = (1, 0) := by kernel_rfl
theorem sureP_c (W : World) (E : Env W) : Calls Tryz.prog 8 #[str sureB] W fun e w' => ∃ v1 v2, e = .returned (.tuple #[.agg #[v1, v2], .int .i64 0, .nilIface]) ∧ RT w' v1 sureT.items ∧ RI w' v2 sureT.slack ∧ Below W.heap.size W w' := by
  refine (parse_c sureB W E (by decide)).mono ?_
  rintro e w' ⟨v1, v2, he, h1, h2, hb⟩
  rw [sure_parse] at he h1 h2
  exact ⟨v1, v2, he, h1, h2, hb⟩
theorem sureF_c (v1 v2 : Value) (W : World) (E : Env W) (h1 : RT W v1 sureT.items) (h2 : RI W v2 sureT.slack) : Calls Tryz.prog 17 #[.agg #[v1, v2], .string ⟨#[97, 47, 98]⟩] W fun e w' => e = .returned (.tuple #[.int .i64 1, .nilIface]) ∧ Below W.heap.size W w' := by
  have := find_c sureT [97, 47, 98] v1 v2 W E h1 h2 (by decide) (by decide) (by decide) (by decide) (by decide)
  rw [sure_find] at this
  exact this
theorem sure25_c (W : World) (E : Env W) : Calls Tryz.prog 12 #[] W fun e w' => e = .returned (.bool true) ∧ Below W.heap.size W w' := by
  have SP := Lib.hid (sureP_c W E)
  have EE := Lib.hid (fun w (h : Below W.heap.size W w) => E.below h)
  have n0 : ∀ w, (binOp BinOp.eql 27 .nilIface .nilIface).run Tryz.prog w = .ok (.bool true) w := fun w => by kernel_rfl
  clear E
  go_enter Tryz.func12, Tryz.ntmps12
  go_wp2_with fail
  refine SP.out.mono ?_
  rintro e w1 ⟨v1, v2, rfl, h1, h2, hb1⟩
  obtain ⟨p1, c1, rfl, _, _, hit⟩ := h1.out
  obtain ⟨p2, c2, rfl⟩ := RI_form h2
  obtain ⟨b, o, rfl, hbl, hx⟩ := hit (by decide)
  have hx1 := (hx 1 (by decide)).c1
  obtain ⟨w2, hw2⟩ : ∃ w2, w2 = w1.alloc (.cells #[.slice (some ⟨b, o, none⟩) 2 c1, .slice p2 1 c2] 25) := ⟨_, rfl⟩
  have B12 : Below w1.heap.size w1 w2 := by rw [hw2]; exact (Below.refl _ _).alloc (Nat.le_refl _) _
  have FD := Lib.hid (sureF_c _ _ w2 (EE.out _ (hb1.trans (B12.mono hb1.size))) (h1.below B12) (h2.below B12))
  have CT2 := Lib.hid (show w2.heap[w1.heap.size]? = some (.cells #[.slice (some ⟨b, o, none⟩) 2 c1, .slice p2 1 c2] 25) by rw [hw2]; exact new_blk _)
  have X1 : Hid (w2.cell? ⟨b, o + 5 + 1, none⟩ = some (.int .i64 0)) := Lib.hid ((B12.cell (p := ⟨b, o + 5 + 1, none⟩) hbl).trans hx1)
  have B2 := Lib.hid (hb1.trans (B12.mono hb1.size))
  have HW2 := Lib.hid hw2
  have hb2 : b < w2.heap.size := Nat.lt_of_lt_of_le hbl B12.size
  simp only [show sureT.items.length = 2 from rfl, show sureT.slack.length = 1 from rfl] at *
  clear h1 h2 hit hx hx1 hb1 hw2 B12 SP EE
  go_wp2_with fail
  rw [← HW2.out]
  refine FD.out.mono ?_
  rintro e w3 ⟨rfl, hb3⟩
  have CT3 := Lib.hid (blk_below CT2.out hb3)
  have t0 := blk_cell (j := 0) (v := .slice (some ⟨b, o, none⟩) 2 c1) CT3.out rfl
  have t1 := blk_cell (j := 1) (v := .slice p2 1 c2) CT3.out rfl
  have x1 := (hb3.cell (p := ⟨b, o + 5 + 1, none⟩) hb2).trans X1.out
  have B3 := Lib.hid (B2.out.trans (hb3.mono B2.out.size))
  clear hb3
  go_wp2_with fail
  go_ret
  exact ⟨rfl, B3.out⟩
theorem lineS_sl {t : Tr} {f : Bool} {s : List UInt8} (ht : t.slack.length ≤ 16) (h : (lineS t f s).2 = 0) : (lineS t f s).1.slack.length ≤ 16 := by
  unfold lineS at h ⊢
  by_cases hx : (splitC 32 [] (lead s)).getD 0 [] = wSlack
  · rw [if_pos hx] at h ⊢
    cases hn : numsS ((splitC 32 [] (lead s)).drop 1) with
    | none => exact ht
    | some l =>
      rw [hn] at h
      simp only at h ⊢
      by_cases h1 : f = false ∨ (lead s).length < s.length
      · rw [if_pos h1]; exact ht
      · rw [if_neg h1] at h ⊢
        by_cases h2 : prOk l = false
        · rw [if_pos h2]; exact ht
        · rw [if_neg h2] at h ⊢
          by_cases h3 : 16 < l.length
          · rw [if_pos h3]; exact ht
          · rw [if_neg h3]; exact Nat.le_of_not_lt h3
  · rw [if_neg hx]
    unfold nodeS
    cases nodeI t (splitC 32 [] (lead s)) (s.length - (lead s).length) <;> exact ht
theorem parseGo_ok : ∀ (ls : List (List UInt8)) (i : Nat) (t : Tr) (f : Bool), OkT t → t.slack.length ≤ 16 → OkT (parseGo ls i t f).1 ∧ (parseGo ls i t f).1.slack.length ≤ 16
  | [], i, t, f, h, hs => ⟨h, hs⟩
  | l :: r, i, t, f, h, hs => by
    unfold parseGo
    split
    · exact parseGo_ok r (i + 1) t f h hs
    · split
      · rename_i hz
        exact parseGo_ok r (i + 1) _ false (lineS_ok h hz) (lineS_sl hs hz)
      · exact ⟨OkT.nil, by simp⟩
theorem parseS_ok (s : List UInt8) : OkT (parseS s).1 ∧ (parseS s).1.slack.length ≤ 16 := by
  unfold parseS
  split
  · exact ⟨OkT.nil, by simp⟩
  · split
    · exact ⟨OkT.nil, by simp⟩
    · exact parseGo_ok _ _ _ _ OkT.nil (by simp)
end Go.Proofs.YtophilmjfdhhaaaGreatDoor
