/- snap: account, flag; tasks of slots without tasks. -/
import Derived.Test.YtmfmmopnapchjaaDoorYd
namespace Go.Proofs.YtmfmmopnapchjaaDoor
open Go Go.RowKit Go.Shelf Go.Sort
set_option linter.unusedVariables false
set_option linter.unusedSimpArgs false
set_option maxRecDepth 100000
set_option maxHeartbeats 1600000

theorem own_new {w : World} {B : Nat} {T : TypeId} (arr : List Value) (hB : B ≤ w.heap.size) (hl : arr.length ≤ 1000000) : (w.alloc (.cells arr.toArray T)).ownsRow B T 1 (.slice (some ⟨w.heap.size, 0, none⟩) arr.length arr.length) arr.length arr :=
  ⟨by simp, .inr ⟨w.heap.size, arr.length, arr.toArray, rfl, hB, kb_new w _, Nat.le_refl _, by unfold maxLen; omega, by simp, by simp⟩⟩
theorem below_two (w : World) (a b : Obj) : Below w.heap.size w ((w.alloc a).alloc b) := ((Below.refl _ w).alloc (Nat.le_refl _) a).alloc (by simp) b
theorem flag_c (b : Bool) (w : World) : Calls Tryd.prog 23 #[.bool b] w fun e w' => e = .returned (.int .i64 (if b = true then 1 else 0)) ∧ w = w' := by
  cases b
  all_goals
    go_enter Tryd.func23, Tryd.ntmps23
    go_wp2
    go_ret
    exact ⟨rfl, rfl⟩
theorem account_c (a : Acc6) (w : World) : Calls Tryd.prog 24 #[a.val] w fun e w' => ∃ k, e = .returned (.slice (some ⟨k, 0, none⟩) 6 6) ∧ w'.ownsRow w.heap.size 3 1 (.slice (some ⟨k, 0, none⟩) 6 6) 6 a.cells ∧ Below w.heap.size w w' := by
  obtain ⟨a1, a2, a3, a4, a5, a6⟩ := a
  simp only [Acc6.val, Acc6.cells]
  go_enter Tryd.func24, Tryd.ntmps24
  go_wp2
  go_ret
  refine ⟨w.heap.size + 1, rfl, ?_, below_two w _ _⟩
  have h := own_new (w := w.alloc (.cells #[.int .i64 a1, .int .i64 a2, .int .i64 a3, .int .i64 a4, .int .i64 a5, .int .i64 a6] 77)) (B := w.heap.size) (T := 3) [.int .i64 a1, .int .i64 a2, .int .i64 a3, .int .i64 a4, .int .i64 a5, .int .i64 a6] (by simp) (by simp)
  rw [show (World.alloc w (.cells #[.int .i64 a1, .int .i64 a2, .int .i64 a3, .int .i64 a4, .int .i64 a5, .int .i64 a6] 77)).heap.size = w.heap.size + 1 by simp] at h
  exact h
/-- The numbers of slots. -/
def slotT0 (g : Nat → Nat) (tk : Nat → Bool) (m : Nat) : List Int := (List.range m).map fun i => if tk i = true then -(g i : Int) else (g i : Int)
theorem slotT0_succ (g : Nat → Nat) (tk : Nat → Bool) (m : Nat) : slotT0 g tk (m + 1) = slotT0 g tk m ++ [if tk m = true then -(g m : Int) else (g m : Int)] := by simp [slotT0, List.range_succ]
theorem slotT0_len (g : Nat → Nat) (tk : Nat → Bool) (m : Nat) : (slotT0 g tk m).length = m := by simp [slotT0]
theorem gensL_get (g : Nat → Nat) (m i : Nat) (h : i < m) : (gensL g m)[i]? = some (.int .i64 (g i)) := by simp [gensL, h]
theorem tkL_get (tk : Nat → Bool) (m i : Nat) (h : i < m) : (tkL tk m)[i]? = some (.bool (tk i)) := by simp [tkL, h]
theorem tasks0_c (B b : Nat) (l : List UInt8) (va vb : Value) (m : Nat) (g : Nat → Nat) (tk : Nat → Bool) (B' : Nat) (w : World) (h : Bd B b l w) (hga : w.ownsRow B' 3 1 va m (gensL g m)) (hta : w.ownsRow B' 4 1 vb m (tkL tk m)) (hg : ∀ i, i < m → g i ≤ 1024) (hm : m ≤ 4096) (hlen : l.length ≤ 10000000) (hB : B ≤ w.heap.size) (E : Env w) (hBE : ∀ w', Below B w w' → Env w') :
    Calls Tryd.prog 25 #[.pointer (some ⟨b, 0, none⟩), .agg #[va, vb, .slice none 0 0]] w fun e w' => e = .returned (.tuple #[]) ∧ Bd B b (l ++ lineT [115, 108, 111, 116, 115] (slotT0 g tk m)) w' ∧ Below B w w' := by
  obtain ⟨i0, hi0, hz0, hz1, hz2⟩ := info_of Tryd.infoIntV
  obtain ⟨pa, ca, rfl, cella⟩ := own_cell hga
  obtain ⟨pb, cb, rfl, cellb⟩ := own_cell hta
  obtain ⟨w1, hw1⟩ : ∃ w1, w1 = w.alloc (.cells #[.slice pa m ca, .slice pb m cb, .slice none 0 0] 65) := ⟨_, rfl⟩
  have b1 : Below w.heap.size w w1 := hw1 ▸ (Below.refl _ w).alloc (Nat.le_refl _) _
  have n1 : w1.heap[w.heap.size]? = _ := hw1 ▸ kb_new w _
  have q1 := kb_cell n1
  have N1 := Lib.hid n1
  have H1 := Lib.hid (Bd.below h b1)
  have GA := Lib.hid (own_below1 hga b1)
  have TA := Lib.hid (own_below1 hta b1)
  have HW := Lib.hid hw1
  have B1 := Lib.hid (b1.mono hB)
  have hB1 := Lib.hid (Nat.le_trans hB b1.size)
  have HE := Lib.hid hBE
  clear h hga hta b1 n1 hw1 cella cellb hBE
  go_enter Tryd.func25, Tryd.ntmps25
  go_wp2_with fail
  rw [← HW.out]
  go_loopw [4, 15] (fun u i wr => ∃ j : Nat, j ≤ m ∧ i = .int .i64 j ∧ wr.ownsRow w1.heap.size 3 1 u (slotT0 g tk j).length ((slotT0 g tk j).map (Value.int .i64)) ∧ Below w1.heap.size w1 wr) (fun _ i _ => m - (intOf i).toNat)
  case atStart => exact ⟨0, Nat.zero_le _, rfl, World.ownsRow_nil _ _ _ _, Below.refl _ _⟩
  case round =>
    obtain ⟨j, hj, rfl, hown, hbe⟩ := hrel
    by_cases hlt : j < m
    · obtain ⟨p', c', hv, cell⟩ := own_cell (own_below1 GA.out hbe)
      injection hv with hv1 _ hv3
      subst hv1 hv3
      obtain ⟨x, rfl, e1⟩ := cell j _ (gensL_get g m j hlt)
      obtain ⟨p2, c2, hv, cell2⟩ := own_cell (own_below1 TA.out hbe)
      injection hv with hv1 _ hv3
      subst hv1 hv3
      obtain ⟨y, rfl, e2⟩ := cell2 j _ (tkL_get tk m j hlt)
      have qr := kb_cell (kb_below N1.out hbe)
      have ET := Lib.hid (slotT0_succ g tk j)
      have EL := Lib.hid (slotT0_len g tk j)
      have KO := Lib.hid hown
      have KB := Lib.hid hbe
      have hgj := hg j hlt
      have HM1 : Hid ((slotT0 g tk j).length + 1 ≤ maxLen) := Lib.hid (by rw [EL.out]; unfold maxLen; omega)
      have HM2 : Hid (((slotT0 g tk j).length + 1) * 8 ≤ 140737488355328) := Lib.hid (by rw [EL.out]; omega)
      clear hown hbe cell cell2 q1
      cases ht : tk j with
      | false =>
        rw [ht] at e2
        rw [ht, if_neg (by decide)] at ET
        go_wp2_with ((at_builtin; refine appendN rfl _ _ 60 rfl w1.heap.size 3 i0 _ 1 8 Tryd.underlying60 hi0 hz0 hz1 hz2 rfl (by decide) _ _ _ rfl KO.out _ [.int .i64 (g j)] _ rfl rfl rfl (by simp [Value.oneCell']) HM1.out HM2.out KB.out.size KB.out ?_; intro v' w3 own3 b3))
        go_roundw
        case rel => exact ⟨j + 1, by omega, by go_num, by rw [ET.out, List.length_append, List.map_append]; exact own3, b3⟩
        case measure => simp [intOf]; omega
      | true =>
        rw [ht] at e2
        rw [ht, if_pos rfl] at ET
        have hwr : IntKind.i64.wrap (-(g j : Int)) = -(g j : Int) := by rw [IntKind.wrap_i64]; omega
        go_wp2_with ((at_builtin; refine appendN rfl _ _ 60 rfl w1.heap.size 3 i0 _ 1 8 Tryd.underlying60 hi0 hz0 hz1 hz2 rfl (by decide) _ _ _ rfl KO.out _ [.int .i64 (-(g j : Int))] _ rfl rfl rfl (by simp [Value.oneCell']) HM1.out HM2.out KB.out.size KB.out ?_; intro v' w3 own3 b3))
        go_roundw
        case rel => exact ⟨j + 1, by omega, by go_num, by rw [ET.out, List.length_append, List.map_append]; exact own3, b3⟩
        case measure => simp [intOf]; omega
    · obtain rfl : j = m := by omega
      have EL := slotT0_len g tk j
      have BX := Lib.hid (B1.out.trans (hbe.mono hB1.out))
      have LC := Lib.hid (line_c B b l [115, 108, 111, 116, 115] u4 _ (slotT0 g tk j) wr (Bd.below H1.out hbe) hown (fun n hn => by
        obtain ⟨i, hi, rfl⟩ := List.mem_map.1 hn
        have := hg i (List.mem_range.1 hi)
        unfold I64
        split <;> omega) (by omega) (by simp; omega) (Nat.le_trans hB1.out hbe.size) (HE.out _ BX.out) (fun w' hb => HE.out _ (BX.out.trans hb)))
      have qr := kb_cell (kb_below N1.out hbe)
      have KN := Lib.hid (kb_below N1.out hbe)
      clear q1 hown hbe
      go_wp2_with fail
      refine LC.out.mono ?_
      rintro e w3 ⟨rfl, h3, b3, k3⟩
      have H3 := Lib.hid h3
      have B3 := Lib.hid (BX.out.trans b3)
      have q3 := kb_cell (k3 _ _ _ _ KN.out (by decide) (by decide))
      clear h3 b3 k3 qr
      go_wp2_with fail
      go_loopw [38] (fun i wr => i = .int .i64 0 ∧ wr = w3) (fun _ _ => 0)
      case atStart => exact ⟨rfl, rfl⟩
      case round =>
        obtain ⟨rfl, rfl⟩ := hrel
        go_wp2_with fail
        go_end0
        exact ⟨rfl, H3.out, B3.out⟩
end Go.Proofs.YtmfmmopnapchjaaDoor
