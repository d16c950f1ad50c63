/- Tables of nodes: Get, Set, Drop, Add. -/
import Derived.Test.YtmfmmopnapchjaaDoorUc
import Derived.Test.YtmfmmopnapchjaaDoorUaa
namespace Go.Proofs.YtmfmmopnapchjaaDoor
open Go Go.RowKit Go.ChangeShapes Go.WideShapes
set_option linter.unusedVariables false
set_option maxRecDepth 100000
set_option maxHeartbeats 800000

theorem getN_some (w : World) (b r N k i : Nat) (g : Nat → Nat) (tk : Nat → Bool) (t : Nat → Value) (x : Option Addr) (h : Int) (H : TabAt w b r 95 97 3 N k (slotN g tk t)) (hN : N ≤ 4096) (hf : fnd N k g tk h = some i) (hx : t i = .pointer x) :
    Calls Tryd.prog 39 #[.pointer (some ⟨b, 0, none⟩), .int .i64 h] w fun e w' => e = .returned (.tuple #[.pointer x, .nilIface]) ∧ Qt w w' := by
  have FS := Lib.hid (fun w' H' => findN_some w' b r N k i g tk t h H' hN hf)
  have HH := Lib.hid H
  have hiN := (fnd_some hf).2.2.2.1
  clear H hf
  go_enter Tryd.func39, Tryd.ntmps39
  go_wp2_with fail
  refine (FS.out _ HH.out).mono ?_
  rintro e w2 ⟨rfl, q2⟩
  have Q2 := Lib.hid q2
  have x0 := (HH.out.qt q2).row.cell i 2 hiN (by decide)
  simp [slotN, hx] at x0
  clear q2
  go_wp2_with fail
  go_ret2
  exact ⟨rfl, Q2.out⟩

theorem getN_none (w : World) (b r N k : Nat) (g : Nat → Nat) (tk : Nat → Bool) (t : Nat → Value) (h : Int) (H : TabAt w b r 95 97 3 N k (slotN g tk t)) (hk : 1 ≤ k) (hN : N ≤ 4096) (hf : fnd N k g tk h = none) :
    Calls Tryd.prog 39 #[.pointer (some ⟨b, 0, none⟩), .int .i64 h] w fun e w' => e = .returned (.tuple #[.pointer none, errN 20]) ∧ Qt w w' := by
  have FS := Lib.hid (fun w' H' => findN_none w' b r N k g tk t h H' hk hN hf)
  have HH := Lib.hid H
  clear H hf
  go_enter Tryd.func39, Tryd.ntmps39
  go_wp2_with fail
  refine (FS.out _ HH.out).mono ?_
  rintro e w2 ⟨rfl, q2⟩
  have Q2 := Lib.hid q2
  clear q2
  go_wp2_with fail
  go_ret2
  exact ⟨rfl, Q2.out⟩

end Go.Proofs.YtmfmmopnapchjaaDoor
