/- The walk of LexLines. -/
import Derived.Test.YtdcnlgjngfmbcaaDoorNw
namespace Go.Proofs.YtdcnlgjngfmbcaaDoor
open Go Go.RowKit Go.Shelf
set_option linter.unusedVariables false
set_option linter.unusedSimpArgs false
set_option maxRecDepth 100000
set_option maxHeartbeats 1600000

theorem splitC_all (c : UInt8) : ∀ (s cur : List UInt8), ((splitC c cur s).length ≤ s.length + 1) ∧ ∀ p ∈ splitC c cur s, p.length ≤ cur.length + s.length
  | [], cur => by simp [splitC]
  | b :: r, cur => by
    unfold splitC
    split
    · have := splitC_all c r []
      refine ⟨by simp; omega, fun p hp => ?_⟩
      rcases List.mem_cons.1 hp with rfl | hp
      · simp
      · have := this.2 p hp; simp at this ⊢; omega
    · have := splitC_all c r (cur ++ [b])
      refine ⟨by simp; omega, fun p hp => ?_⟩
      have := this.2 p hp; simp at this ⊢; omega
theorem linesGo_bound (M : Nat) : ∀ (ss : List (List UInt8)) (no : Nat) (o : List LnS), (∀ s ∈ ss, s.length ≤ M) → (∀ x ∈ o, x.2.length ≤ M + 1) → (linesGo ss no o).1.length ≤ o.length + ss.length ∧ ∀ x ∈ (linesGo ss no o).1, x.2.length ≤ M + 1
  | [], no, o, _, ho => by simp [linesGo]; exact fun a b h => ho (a, b) h
  | s :: r, no, o, hs, ho => by
    have hr : ∀ s ∈ r, s.length ≤ M := fun x hx => hs x (List.mem_cons_of_mem _ hx)
    unfold linesGo
    split
    · simp
    · split
      · have := linesGo_bound M r (no + 1) o hr ho
        exact ⟨by simp; omega, this.2⟩
      · split
        · simp
        · have hw : (wds (trimCR s)).length ≤ M + 1 := by
            have h1 := wds_len (trimCR s)
            have h2 := trimCR_len s
            have h3 := hs s List.mem_cons_self
            omega
          have := linesGo_bound M r (no + 1) (o ++ [(no, wds (trimCR s))]) hr (fun x hx => by
            rcases List.mem_append.1 hx with h | h
            · exact ho x h
            · obtain rfl := List.mem_singleton.1 h
              exact hw)
          refine ⟨?_, this.2⟩
          have h1 := this.1
          simp at h1 ⊢
          omega
theorem linesOf_bound (l : List UInt8) : (linesOf l).1.length ≤ l.length + 1 ∧ ∀ i, i < (linesOf l).1.length → ((linesOf l).1.getD i default).2.length ≤ l.length + 1 := by
  unfold linesOf
  split
  · simp
  · have hs := splitC_all 10 l []
    have := linesGo_bound l.length (splitC 10 [] l) 1 [] (fun s h => by have := hs.2 s h; simpa using this) (fun x h => by simp at h)
    refine ⟨by have := this.1; simp at this; omega, fun i hi => this.2 _ ?_⟩
    rw [List.getD, List.getElem?_eq_getElem hi]
    exact List.getElem_mem hi
theorem lexLines_walk (s : ByteArray) (hs : s.size ≤ 140737488351232) (W : World) (E : Env W) :
    Calls Tryd.prog 3 #[.string s] W fun e w' => e = .returned (.bool true) ∧ Below W.heap.size W w' := by
  obtain ⟨l, rfl⟩ : ∃ l : List UInt8, s = ⟨l.toArray⟩ := ⟨_, of_str s⟩
  rw [sz] at hs
  have LB := linesOf_bound l
  have C1 := Lib.hid (lines_any l W E (by omega))
  have C2 := Lib.hid (fun w => rlines_any l w (by omega))
  have C3 := Lib.hid (fun v u w (h1 : RL w v (linesOf l).1) (h2 : RL w u (linesOf l).1) => same_s _ v u w h1 h2 (by have := LB.1; omega) (fun i hi => by have := LB.2 i hi; omega))
  have EE := Lib.hid E
  have WC := Lib.hid works_c
  have NO := Lib.hid num_of
  clear E LB hs
  generalize linesOf l = R at *
  go_enter Tryd.func3, Tryd.ntmps3
  go_wp2_with fail
  refine C1.out.mono ?_
  rintro e w1 ⟨v1, rfl, rl1, be1⟩
  have BE1 := Lib.hid be1
  have RL1 := Lib.hid rl1
  clear rl1 be1 C1
  go_wp2_with fail
  refine (C2.out w1).mono ?_
  rintro e w2 ⟨v2, rfl, rl2, be2⟩
  have BE2 := Lib.hid (BE1.out.trans (be2.mono BE1.out.size))
  have SM := Lib.hid (C3.out v1 v2 w2 (RL1.out.below be2) rl2)
  clear rl2 be2 C2 C3 RL1 BE1
  go_wp2_with fail
  refine SM.out.mono ?_
  rintro e w3 ⟨rfl, nq, rfl⟩
  have BE3 : Hid (Below W.heap.size W (w2.drewN nq)) := Lib.hid (BE2.out.trans ((below_dr w2 nq).mono BE2.out.size))
  have hx : (((R.2.1 : Nat) : Int) == ((R.2.1 : Nat) : Int)) = true := by simp
  clear SM BE2
  go_wp2_with fail
  refine (NO.out _ _).mono ?_
  rintro e w' ⟨rfl, rfl⟩
  have hy : (R.2.2 == R.2.2) = true := by simp
  go_wp2_with fail
  refine (WC.out _ (EE.out.below BE3.out)).mono ?_
  rintro e w4 ⟨rfl, be4⟩
  have BE4 := Lib.hid (BE3.out.trans (be4.mono BE3.out.size))
  clear be4 BE3
  go_wp2_with fail
  go_ret
  exact ⟨rfl, BE4.out⟩
end Go.Proofs.YtdcnlgjngfmbcaaDoor
