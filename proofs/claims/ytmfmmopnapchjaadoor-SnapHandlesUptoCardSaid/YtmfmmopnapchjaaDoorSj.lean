/- strings.Join of a slice of strings that is read, between blanks. -/
import Derived.Test.YtmfmmopnapchjaaDoorSa
import Derived.Test.YtmfmmopnapchjaaDoorEnv
import Derived.Lib.Join
namespace Go.Proofs.YtmfmmopnapchjaaDoor
open Go Go.RowKit Go.Shelf
set_option linter.unusedVariables false
set_option maxRecDepth 100000
set_option maxHeartbeats 1600000

theorem sjoin_s (l : List (List UInt8)) (v : Value) (W : World) (h : RS W v l) (hl : l.length ≤ 140737488355328) (hj : (Lib.join l [32]).length ≤ 140737488355328) :
    Calls Tryd.prog 14 #[v, .string ⟨#[32]⟩] W fun e w' => e = .returned (str (Lib.join l [32])) ∧ Below W.heap.size W w' := by
  rcases h with ⟨hn, a, cap, rfl, _⟩ | ⟨b, off, cap, rfl, hcap, hb, hc⟩
  · obtain rfl : l = [] := by simpa using hn
    refine (Tryd.strings_Join_none a cap ⟨#[32]⟩ W).mono ?_
    intro e w' h
    exact ⟨h.1, by first | exact h.2 | (rw [h.2]; exact Below.refl _ _) | (rw [← h.2]; exact Below.refl _ _)⟩
  · have e : (l.map (fun x => (⟨x.toArray⟩ : ByteArray))).map (fun x => x.data.toList) = l := by
      rw [List.map_map]; simp [Function.comp_def]
    have := Tryd.strings_Join b off cap (l.map (fun x => (⟨x.toArray⟩ : ByteArray))) ⟨#[32]⟩ W (fun j x hx => by
      have hjl : j < l.length := by
        rcases Nat.lt_or_ge j l.length with h | h
        · exact h
        · rw [List.getElem?_eq_none (by simpa using h)] at hx; cases hx
      rw [hc j (by simpa using hjl), List.getD, List.getElem?_map]
      rw [List.getElem?_map] at hx
      rw [List.getElem?_eq_getElem hjl] at hx ⊢
      simp only [Option.map_some, Option.some.injEq, Option.getD_some] at hx ⊢
      rw [← hx]) hb (by simpa using hl) (by simpa using hcap) (by rw [e]; exact hj)
    rw [e] at this
    simpa using this
/-- A block of strings that has just been made. -/
theorem RS_new (w : World) (t : TypeId) (l : List (List UInt8)) (hl : 0 < l.length) : RS (w.alloc (.cells (l.map str).toArray t)) (.slice (some ⟨w.heap.size, 0, none⟩) l.length l.length) l := by
  refine .inr ⟨w.heap.size, 0, l.length, by simp, by simp, by simp, fun i hi => ?_⟩
  have hi' : i < l.length := by simpa using hi
  rw [Nat.zero_add]
  exact cell_new1 w _ t i _ (by simp [List.getD, hi'])
end Go.Proofs.YtmfmmopnapchjaaDoor
