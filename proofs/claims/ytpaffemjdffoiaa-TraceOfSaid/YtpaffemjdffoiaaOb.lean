/- slices.IndexFunc, at marks. -/
import Derived.Test.YtpaffemjdffoiaaOa
namespace Go.Proofs.Ytpaffemjdffoiaa
open Go Go.RowKit Go.ChangeShapes Go.WideShapes
set_option linter.unusedVariables false
set_option maxRecDepth 100000
set_option maxHeartbeats 800000

/-- The closure of trace.Of as a value. -/
abbrev delV (b : Nat) : Value := .func (.func 22) #[] #[.pointer (some ⟨b, 0, none⟩)]
/-- The place of the first mark of another node; the row's length if there is none. -/
def idxIs (l : List Mk) (node : Int) (k : Nat) : Prop := k ≤ l.length ∧ (∀ j, j < k → (l.getD j default).h = node) ∧ (k < l.length → (l.getD k default).h ≠ node)
theorem index_t (W : World) (v : Value) (l : List Mk) (b : Nat) (node : Int) (hv : RM W v l) (hl : l.length ≤ 3518437208780) (hb : b < W.heap.size) (hc : W.cell? ⟨b, 0, none⟩ = some (.int .i64 node)) :
    Calls Try.prog 30 #[v, delV b] W fun e w' => ∃ k, idxIs l node k ∧ e = .returned (.int .i64 (if k < l.length then k else -1)) ∧ Below W.heap.size W w' := by
  obtain ⟨p, c, rfl, hrow⟩ := hv.out
  have HC := Lib.hid hc
  clear hc hv
  go_enter Try.func30, Try.ntmps30
  go_wp2_with fail
  go_loopw [8] (fun i wr => ∃ k : Nat, k ≤ l.length ∧ i = .int .i64 k ∧ Hid (∀ j, j < k → (l.getD j default).h = node) ∧ Below W.heap.size W wr) (fun i _ => l.length - (intOf i).toNat)
  case atStart => exact ⟨0, Nat.zero_le _, by go_num, Lib.hid (fun j hj => by omega), Below.refl _ _⟩
  case round =>
    obtain ⟨k, hk, rfl, hall, hbe⟩ := hrel
    by_cases hlt : k < l.length
    · obtain ⟨g, o, rfl, hcap, hg, hrows⟩ := hrow (by omega)
      have hx := (hrows k hlt).of_block (hbe.block g hg)
      have DT := Lib.hid (del_t wr (l.getD k default) b node (Nat.lt_of_lt_of_le hb hbe.size) ((hbe.cell (p := ⟨b, 0, none⟩) hb).trans HC.out))
      have HALL := Lib.hid (show (l.getD k default).h = node → ∀ j, j < k + 1 → (l.getD j default).h = node from fun h j hj => by
        rcases Nat.lt_or_ge j k with h' | h'
        · exact hall.out j h'
        · obtain rfl : j = k := by omega
          exact h)
      have HNO := Lib.hid (show (l.getD k default).h ≠ node → idxIs l node k from fun h => ⟨hk, hall.out, fun _ => h⟩)
      generalize l.getD k default = m at *
      have hkn : (k : Int) < (l.length : Int) := by omega
      obtain ⟨x0, x1, x2, x3, x4⟩ := hx
      by_cases hm : m.h = node
      · have e1 : (m.h != node) = false := by simp [hm]
        have D2 : Hid (Calls Try.prog 22 #[m.val, .pointer (some ⟨b, 0, none⟩)] wr fun e w' => e = .returned (.bool false) ∧ Below wr.heap.size wr w') := Lib.hid (e1 ▸ DT.out)
        have HM := Lib.hid hm
        clear e1 hm DT
        go_wp2_with fail
        refine D2.out.mono ?_
        rintro e w2 ⟨rfl, hb2⟩
        go_wp2_with fail
        go_roundw
        case rel => exact ⟨k + 1, by omega, by go_num, Lib.hid (HALL.out HM.out), hbe.trans (hb2.mono hbe.size)⟩
        case measure => simp [intOf]; omega
      · have e1 : (m.h != node) = true := by simp [hm]
        have D2 : Hid (Calls Try.prog 22 #[m.val, .pointer (some ⟨b, 0, none⟩)] wr fun e w' => e = .returned (.bool true) ∧ Below wr.heap.size wr w') := Lib.hid (e1 ▸ DT.out)
        have HM := Lib.hid hm
        clear e1 hm DT
        go_wp2_with fail
        refine D2.out.mono ?_
        rintro e w2 ⟨rfl, hb2⟩
        go_wp2_with fail
        go_ret
        exact ⟨k, HNO.out HM.out, by rw [if_pos hlt]; rfl, hbe.trans (hb2.mono hbe.size)⟩
    · obtain rfl : k = l.length := by omega
      go_wp2_with fail
      go_ret
      exact ⟨l.length, ⟨Nat.le_refl _, hall.out, fun h => absurd h hlt⟩, by rw [if_neg hlt]; rfl, hbe⟩

end Go.Proofs.Ytpaffemjdffoiaa
