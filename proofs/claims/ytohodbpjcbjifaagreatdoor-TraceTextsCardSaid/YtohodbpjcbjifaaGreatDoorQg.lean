/- Queues of marks: New, Room, Pop over the state of a queue. -/
import Derived.Test.YtohodbpjcbjifaaGreatDoorQf
namespace Go.Proofs.YtohodbpjcbjifaaGreatDoor
open Go Go.RowKit Go.ChangeShapes Go.WideShapes
set_option linter.unusedVariables false
set_option maxRecDepth 100000
set_option maxHeartbeats 800000

theorem new_q (W : World) (lim : Nat) (h1 : 1 ≤ lim) (h2 : lim ≤ 4096) :
    Calls Tryz.prog 51 #[.int .i64 lim] W fun e w' => e = .returned (.tuple #[.pointer (some ⟨W.heap.size, 0, none⟩), .nilIface]) ∧ w' = W.alloc (.cells #[.slice none 0 0, .int .i64 0, .int .i64 0, .int .i64 lim] 126) := by
  have a : ¬ (lim : Int) < 1 := by omega
  have b : ¬ (4096 : Int) < lim := by omega
  go_enter Tryz.func51, Tryz.ntmps51
  go_wp2
  go_ret2
  exact ⟨rfl, rfl⟩
theorem QS_new (W : World) (lim : Nat) : QS (W.alloc (.cells #[.slice none 0 0, .int .i64 0, .int .i64 0, .int .i64 lim] 126)) W.heap.size [] lim [] :=
  .inl ⟨rfl, rfl, ⟨by simp, cell_new W _ _ 0 _ rfl, cell_new W _ _ 1 _ rfl, cell_new W _ _ 2 _ rfl, cell_new W _ _ 3 _ rfl, fun o => frozen_new _ _ _ _⟩⟩

theorem room_q (W : World) (b : Nat) (gs : List Nat) (lim : Nat) (l : List Mk) (h : QS W b gs lim l) (hl : l.length ≤ lim) (h' : lim ≤ 4096) :
    Calls Tryz.prog 52 #[.pointer (some ⟨b, 0, none⟩)] W fun e w' => e = .returned (.int .i64 ((lim - l.length : Nat) : Int)) ∧ W = w' := by
  obtain ⟨rv, f, q⟩ := h.q4
  have := room_t W b rv f _ _ q (by omega) (by omega) (by omega)
  rwa [show ((lim : Int) - (l.length : Nat)) = ((lim - l.length : Nat) : Int) by omega] at this

theorem ringList_pop (ms : Nat → Mk) (f R n : Nat) (hf : f < R) (hn : n < R) : ringList (fun i => if i = f then Mk.zero else ms i) ((f + 1) % R) R n = (ringList ms f R (n + 1)).drop 1 := by
  apply List.ext_getElem?
  intro i
  rw [List.getElem?_drop]
  by_cases hi : i < n
  · simp only [ringList, List.getElem?_map, List.getElem?_range hi, List.getElem?_range (show 1 + i < n + 1 by omega), Option.map_some]
    have e : ((f + 1) % R + i) % R = (f + (1 + i)) % R := by rw [Nat.mod_add_mod]; congr 1; omega
    rw [e, if_neg]
    rw [mod2 _ _ (by omega)]
    split <;> omega
  · rw [List.getElem?_eq_none (by rw [ringList_length]; omega), List.getElem?_eq_none (by rw [ringList_length]; omega)]

theorem pop_q (W : World) (b : Nat) (gs : List Nat) (lim : Nat) (a : Mk) (l : List Mk) (h : QS W b gs lim (a :: l)) (hl : (a :: l).length ≤ lim) (h' : lim ≤ 4096) :
    Calls Tryz.prog 53 #[.pointer (some ⟨b, 0, none⟩)] W fun e w' => (∃ v, e = .returned v) ∧ QS w' b gs lim l ∧ Ch (fun k => k = b ∨ k ∈ gs) W w' := by
  rcases h with ⟨_, h, _⟩ | ⟨g, R, c, f, ms, rfl, h2, h, h3, h4, h5, h6, h7, h8, h9⟩
  · cases h
  · simp only [List.length_cons] at h h6 h9 hl
    refine (pop_t W b g R c f _ lim ms _ h h3 (by omega) h4 h5 (by omega) (by omega) (by omega) h8 rfl h2).mono ?_
    rintro e w' ⟨rfl, q, r, ch⟩
    refine ⟨⟨_, rfl⟩, .inr ⟨g, R, c, (f + 1) % R, _, rfl, h2, ?_, h3, h4, Nat.mod_lt _ h3, by omega, h7, r, ?_⟩, ch.mono (fun k hk => by simpa using hk)⟩
    · have e1 : ((f : Int) + 1) % (R : Int) = (((f + 1) % R : Nat) : Int) := by simp
      have e2 : (((l.length + 1 : Nat) : Int) - 1) = (l.length : Nat) := by omega
      rwa [e1, e2] at q
    · rw [ringList_pop ms f R l.length h5 (by omega), ← h9]
      rfl
end Go.Proofs.YtohodbpjcbjifaaGreatDoor
