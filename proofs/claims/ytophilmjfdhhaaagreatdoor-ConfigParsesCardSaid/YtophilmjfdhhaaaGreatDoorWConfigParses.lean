/- The walk of ConfigParses. -/
import Derived.Test.YtophilmjfdhhaaaGreatDoorGm
namespace Go.Proofs.YtophilmjfdhhaaaGreatDoor
open Go Go.RowKit Go.Shelf Go.Sort
set_option linter.unusedVariables false
set_option linter.unusedSimpArgs false
set_option maxRecDepth 100000
set_option maxHeartbeats 4000000

theorem configParses_walk (a : ByteArray) (ha : a.size ≤ 140737488351232) (W : World) (E : EnvT W) :
    Calls Tryz.prog 3 #[.string a] W fun e w' => e = .returned (.bool true) ∧ Below W.heap.size W w' := by
  obtain ⟨s, rfl⟩ : ∃ s : List UInt8, a = ⟨s.toArray⟩ := ⟨a.data.toList, by simp⟩
  rw [sz] at ha
  have P1 := Lib.hid (parse_c s W E.E (by omega))
  have P2 := Lib.hid (fun w => rparse_c s w (by omega))
  have EE := Lib.hid (fun w (h : Below W.heap.size W w) => E.below h)
  obtain ⟨hok, hsl⟩ := parseS_ok s
  have HOK := Lib.hid hok
  have hsl' : (parseS s).1.slack.length ≤ 140737488355328 := by omega
  have hil : (parseS s).1.items.length ≤ 1000000000000 := by have := hok.len; omega
  have HP : Hid (∀ x ∈ (parseS s).1.items, x.pr.length ≤ 140737488355328) := Lib.hid (fun x hx => by have := hok.pr x hx; omega)
  have SM := Lib.hid (fun v1 v2 u1 u2 w h1 h2 h3 h4 => same_t (parseS s).1 v1 v2 u1 u2 w h1 h2 h3 h4 hil hsl' HP.out)
  have P1' : Hid (Calls Tryz.prog 8 #[str s] W fun e w' => ∃ v1 v2, e = .returned (.tuple #[.agg #[v1, v2], .int .i64 ((parseS s).2.1 : Nat), errOf (parseS s).2.2]) ∧ RT w' v1 (parseS s).1.items ∧ RI w' v2 (parseS s).1.slack ∧ Below W.heap.size W w') := P1
  have P2' : Hid (∀ w, Calls Tryz.prog 9 #[str s] w fun e w' => ∃ v1 v2, e = .returned (.tuple #[.agg #[v1, v2], .int .i64 ((parseS s).2.1 : Nat), .int .i64 (parseS s).2.2]) ∧ RT w' v1 (parseS s).1.items ∧ RI w' v2 (parseS s).1.slack ∧ Below w.heap.size w w') := P2
  clear P1 P2 E hok HOK HP hsl hsl' hil
  generalize (parseS s).2.2 = er at *
  generalize (parseS s).2.1 = ln at *
  generalize (parseS s).1 = t at *
  have e1 : (((ln : Nat) : Int) == ((ln : Nat) : Int)) = true := by simp
  have e2 : (er == er) = true := by simp
  have e3 : (ln == ln) = true := by simp
  go_enter Tryz.func3, Tryz.ntmps3
  go_wp2_with fail
  refine P1'.out.mono ?_
  rintro e w1 ⟨v1, v2, rfl, h1, h2, hb1⟩
  obtain ⟨p1, c1, rfl, _⟩ := h1.out
  obtain ⟨p2, c2, rfl⟩ := RI_form h2
  obtain ⟨w2, hw2⟩ : ∃ w2, w2 = w1.alloc (.cells #[.slice p1 t.items.length c1, .slice p2 t.slack.length c2] 25) := ⟨_, rfl⟩
  have B12 : Below w1.heap.size w1 w2 := by rw [hw2]; exact (Below.refl _ _).alloc (Nat.le_refl _) _
  have CT2 := Lib.hid (show w2.heap[w1.heap.size]? = some (.cells #[.slice p1 t.items.length c1, .slice p2 t.slack.length c2] 25) by rw [hw2]; exact new_blk _)
  have HW2 := Lib.hid hw2
  have B2 := Lib.hid (hb1.trans (B12.mono hb1.size))
  have H1 := Lib.hid (h1.below B12)
  have H2 := Lib.hid (h2.below B12)
  clear hw2 h1 h2 hb1 B12 P1'
  go_wp2_with fail
  rw [← HW2.out]
  refine (P2'.out _).mono ?_
  rintro e w3 ⟨u1, u2, rfl, h3, h4, hb3⟩
  obtain ⟨p3, c3, rfl, _⟩ := h3.out
  obtain ⟨p4, c4, rfl⟩ := RI_form h4
  obtain ⟨w4, hw4⟩ : ∃ w4, w4 = w3.alloc (.cells #[.slice p3 t.items.length c3, .slice p4 t.slack.length c4] 32) := ⟨_, rfl⟩
  have B34 : Below w3.heap.size w3 w4 := by rw [hw4]; exact (Below.refl _ _).alloc (Nat.le_refl _) _
  have B24 : Below w2.heap.size w2 w4 := hb3.trans (B34.mono hb3.size)
  have SMC := Lib.hid (SM.out _ _ _ _ w4 (H1.out.below B24) (H2.out.below B24) (h3.below B34) (h4.below B34))
  have CT3 := Lib.hid (blk_below CT2.out hb3)
  have t0 := blk_cell (j := 0) (v := .slice p1 t.items.length c1) CT3.out rfl
  have t1 := blk_cell (j := 1) (v := .slice p2 t.slack.length c2) CT3.out rfl
  have lt3 : w1.heap.size < w3.heap.size := blk_lt CT3.out
  have B4 := Lib.hid (B2.out.trans (B24.mono B2.out.size))
  have HW4 := Lib.hid hw4
  clear hw4 h3 h4 hb3 B34 B24 SM P2'
  go_wp2_with fail
  rw [← HW4.out]
  refine SMC.out.mono ?_
  rintro e w5 ⟨rfl, hb5⟩
  have B5 := Lib.hid (B4.out.trans (hb5.mono B4.out.size))
  have NM := Lib.hid (num25_of er w5 (EE.out _ B5.out).T)
  clear hb5
  go_wp2_with fail
  refine NM.out.mono ?_
  rintro e w6 ⟨rfl, hb6⟩
  have B6 := Lib.hid (B5.out.trans (hb6.mono B5.out.size))
  have SU := Lib.hid (sure25_c w6 (EE.out _ B6.out).E)
  clear hb6
  go_wp2_with fail
  refine SU.out.mono ?_
  rintro e w7 ⟨rfl, hb7⟩
  have B7 := Lib.hid (B6.out.trans (hb7.mono B6.out.size))
  clear hb7
  go_wp2_with fail
  go_ret
  exact ⟨rfl, B7.out⟩
end Go.Proofs.YtophilmjfdhhaaaGreatDoor
