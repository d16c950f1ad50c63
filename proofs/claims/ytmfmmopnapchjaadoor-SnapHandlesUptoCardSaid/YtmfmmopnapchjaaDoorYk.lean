/- snap.Handles and the reference's: the text of handles, a blank between. -/
import Derived.Test.YtmfmmopnapchjaaDoorHs
import Derived.Test.YtmfmmopnapchjaaDoorSj
import Derived.Test.YtmfmmopnapchjaaDoorRI
import Derived.Test.YtmfmmopnapchjaaDoorYb
import Derived.Test.YtmfmmopnapchjaaDoorYf
import Derived.Test.YtmfmmopnapchjaaDoorYd
namespace Go.Proofs.YtmfmmopnapchjaaDoor
open Go Go.RowKit Go.Shelf Go.Sort
set_option linter.unusedVariables false
set_option linter.unusedSimpArgs false
set_option maxRecDepth 100000
set_option maxHeartbeats 1600000

theorem hText_len64 (h : Int) : (hText h).length ≤ 64 := by
  unfold hText
  split
  · simp
  · split
    · next v =>
      have := Lib.itoa_length_le (hS h) (by have := v.2.2.1; omega) (by have := v.2.2.2.1; omega)
      have := Lib.itoa_length_le (hG h) (by have := v.2.2.2.2.1; omega) (by have := v.2.2.2.2.2; omega)
      simp only [List.length_cons, List.length_append]
      omega
    · simp
theorem join_snoc' (xs : List (List UInt8)) (y : List UInt8) (h : xs ≠ []) : Lib.join (xs ++ [y]) [32] = Lib.join xs [32] ++ [32] ++ y := by
  cases xs with
  | nil => exact absurd rfl h
  | cons x r =>
    rw [List.cons_append, Lib.join_cons, Lib.join_cons]
    simp [Lib.joinTail]
/-- The text of handles. -/
def hsT (l : List Int) : List UInt8 := Lib.join (l.map hText) [32]
theorem hsT_snoc (l : List Int) (h : Int) : hsT (l ++ [h]) = if l = [] then hText h else hsT l ++ [32] ++ hText h := by
  unfold hsT
  split
  · next e => subst e; simp [Lib.join_one]
  · next e =>
    rw [List.map_append]
    exact join_snoc' _ _ (by simpa using e)
theorem hsT_len (l : List Int) : (hsT l).length ≤ 65 * l.length := by
  rcases List.eq_nil_or_concat l with rfl | ⟨a, b, rfl⟩
  · simp [hsT, Lib.join_nil]
  · have : ∀ n (a : List Int), a.length = n → (hsT a).length ≤ 65 * a.length := by
      intro n
      induction n with
      | zero => intro a h; obtain rfl := List.eq_nil_of_length_eq_zero h; simp [hsT, Lib.join_nil]
      | succ n ih =>
        intro a h
        rcases List.eq_nil_or_concat a with rfl | ⟨c, d, rfl⟩
        · simp [hsT, Lib.join_nil]
        · rw [List.concat_eq_append] at h ⊢
          have h1 := ih c (by simpa using h)
          have h2 := hText_len64 d
          rw [hsT_snoc]
          split
          · simp; omega
          · simp only [List.length_append, List.length_cons, List.length_nil]; omega
    exact this _ _ rfl
theorem Tryd.infoStrV : (Tryd.prog.info? 9).map (fun i => (i.zero, i.size, i.bytes)) = some (some (.string ByteArray.empty), 1, 16) := by kernel_rfl
theorem RI_cells {w : World} {v : Value} {l : List Int} (h : RI w v l) : ∃ p c, v = .slice p l.length c ∧ ∀ j (hj : j < l.length), ∃ b o, p = some ⟨b, o, none⟩ ∧ b < w.heap.size ∧ w.cell? ⟨b, o + j, none⟩ = some (.int .i64 l[j]) := by
  rcases h with ⟨rfl, a, cap, rfl, _⟩ | ⟨b, off, cap, rfl, hb, hc⟩
  · exact ⟨a, cap, rfl, fun j hj => absurd hj (Nat.not_lt_zero j)⟩
  · refine ⟨_, cap, rfl, fun j hj => ⟨b, off, rfl, hb, ?_⟩⟩
    rw [hc j hj]
    simp [List.getD, hj]
theorem handles_c (l : List Int) (v : Value) (W : World) (hv : RI W v l) (hr : ∀ x ∈ l, I64 x) (hl : l.length ≤ 1048576) (E : Env W) :
    Calls Tryd.prog 8 #[v] W fun e w' => e = .returned (str (hsT l)) ∧ Below W.heap.size W w' := by
  obtain ⟨i0, hi0, hz0, hz1, hz2⟩ := info_of Tryd.infoStrV
  obtain ⟨p, c, rfl, hcell⟩ := RI_cells hv
  have HC := Lib.hid hcell
  have TX := Lib.hid (fun w' (b : Below W.heap.size W w') (h : Int) => text_any (h := h) w' (E.below b))
  have SJ := Lib.hid (fun w' v (h : RS w' v (l.map hText)) => sjoin_s (l.map hText) v w' h (by simp; omega) (by have := hsT_len l; unfold hsT at this; omega))
  clear hv hcell E
  go_enter Tryd.func8, Tryd.ntmps8
  go_wp2_with fail
  go_loopw [3, 8] (fun u i wr => ∃ j : Nat, j ≤ l.length ∧ i = .int .i64 j ∧ wr.ownsRow W.heap.size 9 1 u (((l.take j).map hText).map str).length (((l.take j).map hText).map str) ∧ Below W.heap.size W wr) (fun _ i _ => l.length - (intOf i).toNat)
  case atStart => exact ⟨0, Nat.zero_le _, rfl, World.ownsRow_nil _ _ _ _, Below.refl _ _⟩
  case round =>
    obtain ⟨j, hj, rfl, hown, hbe⟩ := hrel
    by_cases hlt : j < l.length
    · obtain ⟨x, hx⟩ : ∃ x, x = l[j] := ⟨_, rfl⟩
      obtain ⟨b, o, rfl, hb, hc⟩ := HC.out j hlt
      have e1 : wr.cell? ⟨b, o + j, none⟩ = some (.int .i64 x) := by rw [hbe.cell (p := ⟨b, o + j, none⟩) hb, hc, hx]
      have ET : Hid (((l.take (j + 1)).map hText).map str = ((l.take j).map hText).map str ++ [str (hText x)]) := Lib.hid (by rw [take_succ'' l j hlt, ← hx]; simp)
      have EL : Hid ((((l.take j).map hText).map str).length = j) := Lib.hid (by simp; omega)
      have KO := Lib.hid hown
      have KB := Lib.hid hbe
      have HM1 : Hid ((((l.take j).map hText).map str).length + 1 ≤ maxLen) := Lib.hid (by rw [EL.out]; unfold maxLen; omega)
      have HM2 : Hid (((((l.take j).map hText).map str).length + 1) * 16 ≤ 140737488355328) := Lib.hid (by rw [EL.out]; omega)
      clear hown hbe hc hx
      go_wp2_with fail
      refine (TX.out _ KB.out x).mono ?_
      rintro e w2 ⟨rfl, b2⟩
      have O2 := Lib.hid (own_below1 KO.out b2)
      have B2 := Lib.hid (KB.out.trans (b2.mono KB.out.size))
      clear b2
      generalize hText x = tx at *
      go_wp2_with ((at_builtin; refine appendN rfl _ _ 33 rfl W.heap.size 9 i0 _ 1 16 Tryd.underlying33 hi0 hz0 hz1 hz2 rfl (by decide) _ _ _ rfl O2.out _ [str tx] _ rfl rfl rfl (by simp [Value.oneCell']) HM1.out HM2.out B2.out.size B2.out ?_; intro v' w3 own3 b3))
      go_roundw
      case rel => exact ⟨j + 1, by omega, by go_num, by rw [ET.out, List.length_append]; exact own3, b3⟩
      case measure => simp [intOf]; omega
    · obtain rfl : j = l.length := by omega
      rw [List.take_length] at hown
      have RSv := (RS_own hown).1
      have KB := Lib.hid hbe
      have JJ := Lib.hid (SJ.out wr _ RSv)
      clear hown hbe RSv
      go_wp2_with fail
      refine JJ.out.mono ?_
      rintro e w2 ⟨rfl, b2⟩
      have B2 := Lib.hid (KB.out.trans (b2.mono KB.out.size))
      clear b2
      go_wp2_with fail
      go_ret
      exact ⟨rfl, B2.out⟩
end Go.Proofs.YtmfmmopnapchjaaDoor
