/- slack: Save of a pool without tasks. kernel.State of the kernel with the root alone. -/
import Derived.Test.YtmfmmopnapchjaaDoorVk
import Derived.Test.YtmfmmopnapchjaaDoorVi
import Derived.Test.YtmfmmopnapchjaaDoorVg
import Derived.Test.YtmfmmopnapchjaaDoorUj
namespace Go.Proofs.YtmfmmopnapchjaaDoor
open Go Go.RowKit Go.ChangeShapes Go.WideShapes
set_option linter.unusedVariables false
set_option linter.unusedSimpArgs false
set_option maxRecDepth 100000
set_option maxHeartbeats 1600000

theorem own_nil1 {w : World} {B : Nat} {e : TypeId} {v : Value} (h : w.ownsRow B e 1 v 0 []) : ∃ p c, v = .slice p 0 c := by
  rcases h.2 with ⟨rfl, _⟩ | ⟨g, cap, cur, rfl, _⟩
  · exact ⟨_, _, rfl⟩
  · exact ⟨_, _, rfl⟩
theorem SlotsR.below {W w w' : World} {g : Nat → Nat} {tk : Nat → Bool} {m : Nat} {a b : Value} (h : SlotsR W.heap.size W g tk m a b w) (hb : Below w.heap.size w w') : SlotsR W.heap.size W g tk m a b w' :=
  ⟨own_below1 h.ga hb, own_below1 h.ta hb, h.be.trans (hb.mono h.be.size)⟩
theorem results_tmp4 {fn : Func} {t u v x : Tmp} (h : fn.results = #[.tmp t, .tmp u, .tmp v, .tmp x]) (tmps : Array Value) (P : Program) (w : World) :
    (results fn tmps).run P w = .ok (.tuple #[tmps.getD t undef, tmps.getD u undef, tmps.getD v undef, tmps.getD x undef]) w := by
  simp [results, h]
theorem poolSave0_c (w : World) (l b r : Nat) (last : Int) (g : Nat → Nat) (t : Nat → TkV) (H : PoolAt w l b r last g (fun _ => false) t) :
    Calls Tryd.prog 42 #[.pointer (some ⟨l, 0, none⟩)] w fun e w' => ∃ va vb, e = .returned (.tuple #[va, vb, .slice none 0 0, .int .i64 last]) ∧ SlotsR w.heap.size w g (fun _ => false) 16 va vb w' := by
  have SL := Lib.hid (fun w' (b : Below w.heap.size w w') => slotsT_c w' _ _ _ _ _ _ _ (H.below b).tab (by decide))
  have AL := Lib.hid (fun w' (b : Below w.heap.size w w') => allT_c w' _ _ _ _ _ _ _ (H.below b).tab (by decide) (by decide) (fun i _ h => absurd h (by decide)))
  have PL := Lib.hid (fun w' (b : Below w.heap.size w w') => kb_cell (H.below b).pl)
  have c := PL.out w (Below.refl _ _)
  clear H
  go_enter Tryd.func42, Tryd.ntmps42
  go_wp2_with fail
  refine (SL.out _ (Below.refl _ _)).mono ?_
  rintro e w1 ⟨va, vb, rfl, h1⟩
  have c1 := PL.out w1 h1.be
  have H1 := Lib.hid h1
  clear h1 c
  go_wp2_with fail
  refine (AL.out _ H1.out.be).mono ?_
  rintro e w2 ⟨v0, rfl, own0, b2⟩
  have e0 : hnds 3 g (fun _ => false) 16 = [] := by
    unfold hnds
    rw [List.filter_eq_nil_iff.2 (by simp)]
    rfl
  rw [e0] at own0
  obtain ⟨p0, c0, rfl⟩ := own_nil1 own0
  have H2 := Lib.hid (H1.out.below b2)
  have c2 := PL.out w2 H2.out.be
  clear own0 b2 c1
  go_wp2_with fail
  go_loopw [8, 29] (fun u i wr => u = .slice none 0 0 ∧ i = .int .i64 0 ∧ wr = w2) (fun _ _ _ => 0)
  case atStart => exact ⟨rfl, rfl, rfl⟩
  case round =>
    obtain ⟨rfl, rfl, rfl⟩ := hrel
    go_wp2_with fail
    go_region
    go_wp2_with fail
    refine bodyPost_ret (results_tmp4 rfl _ _ _) rfl ?_
    exact ⟨_, _, rfl, H2.out.ga, H2.out.ta, H2.out.be.drew⟩
end Go.Proofs.YtmfmmopnapchjaaDoor
