/- Pack of the reference, and same: which lists are alike. -/
import Derived.Test.YtpnjedcijbpngaaDoorHe
import Derived.Test.YtpnjedcijbpngaaDoorHr
import Derived.Deep.QuietTactic
import Derived.BigQuiet
namespace Go.Proofs.YtpnjedcijbpngaaDoor
open Go Go.RowKit Go.Shelf Go.Sort
set_option maxHeartbeats 800000
set_option maxRecDepth 100000
set_option linter.unusedVariables false

/-- The counter behind j bytes. -/
def SK (j : Nat) (s : Int) : Prop := (j = 0 ∧ s = 5) ∨ (j = 1 ∧ s = 4) ∨ (j = 2 ∧ s = 3) ∨ (j = 3 ∧ s = 2) ∨ (j = 4 ∧ s = 1) ∨ (j = 5 ∧ s = 0) ∨ (j = 6 ∧ s = -1)

theorem rpack_s (l : List Int) (v : Value) (W : World) (hv : RI W v l) (hl : l.length ≤ 4096) :
    Calls Tryd.prog 28 #[v] W fun e w' => e = .returned (.tuple #[.string (packR l).1, Value.int .i64 (packR l).2]) ∧ Below W.heap.size W w' := by
  rcases hv with ⟨rfl, a, cap, rfl, -⟩ | ⟨b, off, cap, rfl, hb, hcell⟩
  · go_enter Tryd.func28, Tryd.ntmps28
    go_wp2_with fail
    go_loopw [4, 5] (fun v i wr => v = .slice none 0 0 ∧ i = .int .i64 0 ∧ wr = W) (fun _ _ _ => 0)
    case atStart => exact ⟨rfl, rfl, rfl⟩
    case round =>
      obtain ⟨rfl, rfl, rfl⟩ := hrel
      have hc := run_convert_bytes_nil (P := Tryd.prog) wr 67 5 Tryd.underlying67 Tryd.underlying5 0 0 _ Tryd.underlying9
      go_wp2_with fail
      go_ret2
      exact ⟨rfl, Below.refl _ _⟩
  · obtain ⟨i0, hi, hz0, hz1, hz2⟩ := info_parts Tryd.infou8
    have HC := Lib.hid hcell; clear hcell
    go_enter Tryd.func28, Tryd.ntmps28
    go_wp2_with fail
    go_loopw [4, 5] (fun v i wr => ∃ k : Nat, k ≤ l.length ∧ i = .int .i64 k ∧ Hid (∀ h ∈ l.take k, pOk h) ∧ wr.ownsRow W.heap.size 5 1 v (6 * k) ((packI (l.take k)).map (Value.int .u8)) ∧ Below W.heap.size W wr) (fun _ i _ => l.length - (intOf i).toNat)
    case atStart => exact ⟨0, Nat.zero_le _, rfl, (by intro h hh; simp at hh), by simpa [packI] using World.ownsRow_nil _ _ _ _, Below.refl _ _⟩
    case round =>
      obtain ⟨k, hk, rfl, hall, hown, hbe⟩ := hrel
      by_cases hlt : k < l.length
      · have hcx : wr.cell? ⟨b, off + k, none⟩ = some (.int .i64 (l.getD k 0)) := (hbe.cell (by exact hb)).trans (HC.out k hlt)
        have hm : l.getD k 0 ∈ l := by rw [List.getD, List.getElem?_eq_getElem hlt]; exact List.getElem_mem hlt
        generalize he : l.getD k 0 = h at *
        have HE := Lib.hid he; clear he
        have HM := Lib.hid hm; clear hm
        by_cases hp : pOk h
        case neg =>
          have hz : (h != 0) = true := by simp; exact fun z => hp (.inl z)
          have VV := Lib.hid (fun v : HV h => hp (.inr v))
          have R : packR l = (⟨#[]⟩, 20) := if_neg (fun a => hp (a h HM.out))
          have RR := Lib.hid R; clear R hp
          go_wp2_with (go_at_call 20; refine (rvalid_f _ VV.out).mono ?_; rintro e w' ⟨rfl, rfl⟩)
          go_ret2
          exact ⟨by rw [RR.out]; rfl, hbe⟩
        have hall' : Hid (∀ h ∈ l.take (k + 1), pOk h) := by
          intro x hx
          rw [List.take_succ_eq_append_getElem hlt, List.mem_append] at hx
          rcases hx with hx | hx
          · exact hall x hx
          · have e : x = h := by rw [← HE.out]; simpa [List.getD, List.getElem?_eq_getElem hlt] using hx
            rw [e]; exact hp
        have hz : ((h != 0) = false) ∨ ((h != 0) = true ∧ HV h) := by
          by_cases z : h = 0
          · exact .inl (by simp [z])
          · exact .inr ⟨by simp [z], hp.resolve_left z⟩
        clear hp
        have hB := hbe.size
        rcases hz with hz | ⟨hz, vv⟩
        all_goals
          try have VV := Lib.hid vv; clear vv
          go_wp2_with (go_at_call 20; refine (rvalid_t _ VV.out).mono ?_; rintro e w' ⟨rfl, rfl⟩)
          go_loopw [4, 6] (fun v s w2 => ∃ j : Nat, ∃ sh : Int, SK j sh ∧ s = .int .i64 sh ∧ w2.ownsRow W.heap.size 5 1 v (6 * k + j) ((packI (l.take k) ++ (b6 h).take j).map (Value.int .u8)) ∧ Below W.heap.size W w2) (fun _ s _ => (intOf s + 1).toNat)
          case atStart => exact ⟨0, 5, .inl ⟨rfl, rfl⟩, rfl, by simpa using hown, hbe⟩
          case round =>
            obtain ⟨j, sh, hsh, rfl, hown2, hbe2⟩ := hrel
            have hcx := (hbe2.cell (by exact hb)).trans ((HC.out k hlt).trans (congrArg (fun q => some (Value.int .i64 q)) HE.out))
            rcases hsh with ⟨rfl, rfl⟩ | ⟨rfl, rfl⟩ | ⟨rfl, rfl⟩ | ⟨rfl, rfl⟩ | ⟨rfl, rfl⟩ | ⟨rfl, rfl⟩ | ⟨rfl, rfl⟩
            case inr.inr.inr.inr.inr.inr =>
              go_wp2_with fail
              go_roundw
              case rel => exact ⟨k + 1, by omega, by go_num, hall', by rw [packI_snoc l k hlt h HE.out]; have := hown2; rwa [show (b6 h).take 6 = b6 h from rfl] at this, hbe2⟩
              case measure => simp [intOf]; omega
            case inl =>
              go_wp2_with (at_builtin; refine append1 rfl _ _ 67 rfl W.heap.size 5 i0 (.int .u8 0) 1 Tryd.underlying67 hi hz0 hz1 hz2 rfl _ _ _ rfl hown2 _ _ rfl rfl (by unfold maxLen; omega) (by omega) (by have := hbe2.size; omega) hbe2 ?_; intro v' w3 hown3 hbe3)
              go_roundw
              case rel => exact ⟨1, 4, .inr (.inl ⟨rfl, rfl⟩), rfl, own_next hown3 (by simp [b6]) (by omega), hbe3⟩
              case measure => simp [intOf]
            case inr.inl =>
              go_wp2_with (at_builtin; refine append1 rfl _ _ 67 rfl W.heap.size 5 i0 (.int .u8 0) 1 Tryd.underlying67 hi hz0 hz1 hz2 rfl _ _ _ rfl hown2 _ _ rfl rfl (by unfold maxLen; omega) (by omega) (by have := hbe2.size; omega) hbe2 ?_; intro v' w3 hown3 hbe3)
              go_roundw
              case rel => exact ⟨2, 3, .inr (.inr (.inl ⟨rfl, rfl⟩)), rfl, own_next hown3 (by simp [b6]) (by omega), hbe3⟩
              case measure => simp [intOf]
            case inr.inr.inl =>
              go_wp2_with (at_builtin; refine append1 rfl _ _ 67 rfl W.heap.size 5 i0 (.int .u8 0) 1 Tryd.underlying67 hi hz0 hz1 hz2 rfl _ _ _ rfl hown2 _ _ rfl rfl (by unfold maxLen; omega) (by omega) (by have := hbe2.size; omega) hbe2 ?_; intro v' w3 hown3 hbe3)
              go_roundw
              case rel => exact ⟨3, 2, .inr (.inr (.inr (.inl ⟨rfl, rfl⟩))), rfl, own_next hown3 (by simp [b6]) (by omega), hbe3⟩
              case measure => simp [intOf]
            case inr.inr.inr.inl =>
              go_wp2_with (at_builtin; refine append1 rfl _ _ 67 rfl W.heap.size 5 i0 (.int .u8 0) 1 Tryd.underlying67 hi hz0 hz1 hz2 rfl _ _ _ rfl hown2 _ _ rfl rfl (by unfold maxLen; omega) (by omega) (by have := hbe2.size; omega) hbe2 ?_; intro v' w3 hown3 hbe3)
              go_roundw
              case rel => exact ⟨4, 1, .inr (.inr (.inr (.inr (.inl ⟨rfl, rfl⟩)))), rfl, own_next hown3 (by simp [b6]) (by omega), hbe3⟩
              case measure => simp [intOf]
            case inr.inr.inr.inr.inl =>
              go_wp2_with (at_builtin; refine append1 rfl _ _ 67 rfl W.heap.size 5 i0 (.int .u8 0) 1 Tryd.underlying67 hi hz0 hz1 hz2 rfl _ _ _ rfl hown2 _ _ rfl rfl (by unfold maxLen; omega) (by omega) (by have := hbe2.size; omega) hbe2 ?_; intro v' w3 hown3 hbe3)
              go_roundw
              case rel => exact ⟨5, 0, .inr (.inr (.inr (.inr (.inr (.inl ⟨rfl, rfl⟩))))), rfl, own_next hown3 (by simp [b6]) (by omega), hbe3⟩
              case measure => simp [intOf]
            case inr.inr.inr.inr.inr.inl =>
              go_wp2_with (at_builtin; refine append1 rfl _ _ 67 rfl W.heap.size 5 i0 (.int .u8 0) 1 Tryd.underlying67 hi hz0 hz1 hz2 rfl _ _ _ rfl hown2 _ _ rfl rfl (by unfold maxLen; omega) (by omega) (by have := hbe2.size; omega) hbe2 ?_; intro v' w3 hown3 hbe3)
              go_roundw
              case rel => exact ⟨6, (-1), .inr (.inr (.inr (.inr (.inr (.inr ⟨rfl, rfl⟩))))), rfl, own_next hown3 (by simp [b6]) (by omega), hbe3⟩
              case measure => simp [intOf]
      · have hc := conv_own hown
        have ek : l.take k = l := List.take_of_length_le (by omega)
        rw [ek] at hc hall
        have R : packR l = (strOfNums (packI l), 0) := if_pos hall
        have RR := Lib.hid R
        clear hown ek R
        go_wp2_with fail
        go_ret2
        exact ⟨by rw [RR.out]; rfl, hbe⟩


theorem rpack_long (l : List Int) (v : Value) (W : World) (hv : RI W v l) (hl : 4096 < l.length) :
    Calls Tryd.prog 28 #[v] W fun e w' => e = .returned (.tuple #[.string ⟨#[]⟩, .int .i64 3]) ∧ Below W.heap.size W w' := by
  rcases hv with ⟨rfl, a, cap, rfl, -⟩ | ⟨b, off, cap, rfl, hb, hcell⟩
  · simp at hl
  · clear hcell
    go_enter Tryd.func28, Tryd.ntmps28
    go_wp2_with fail
    go_ret2
    exact ⟨rfl, Below.refl _ _⟩

theorem same_eq (l : List Int) (u v : Value) (W : World) (hu : RI W u l) (hv : RI W v l) (hl : l.length * 8 ≤ 140737488355328) :
    Calls Tryd.prog 31 #[u, v] W fun e w' => e = .returned (.bool true) ∧ Below W.heap.size W w' := by
  rcases hu with ⟨rfl, a, cap, rfl, -⟩ | ⟨b, off, cap, rfl, hb, hcell⟩
  · obtain ⟨a2, cap2, rfl⟩ : ∃ a2 cap2, v = .slice a2 0 cap2 := by
      rcases hv with ⟨_, a2, c2, rfl, -⟩ | ⟨b2, o2, c2, rfl, _⟩
      · exact ⟨_, _, rfl⟩
      · exact ⟨_, _, rfl⟩
    clear hv
    go_enter Tryd.func31, Tryd.ntmps31
    go_wp2_with fail
    go_loopw [5] (fun i wr => i = .int .i64 0 ∧ wr = W) (fun _ _ => 0)
    case atStart => exact ⟨rfl, rfl⟩
    case round =>
      obtain ⟨rfl, rfl⟩ := hrel
      go_wp2_with fail
      go_ret
      exact ⟨rfl, Below.refl _ _⟩
  · obtain ⟨a2, cap2, rfl, hc2⟩ : ∃ a2 cap2, v = .slice a2 l.length cap2 ∧ (0 < l.length → ∃ b2 o2, a2 = some ⟨b2, o2, none⟩ ∧ b2 < W.heap.size ∧ ∀ i, i < l.length → W.cell? ⟨b2, o2 + i, none⟩ = some (.int .i64 (l.getD i 0))) := by
      rcases hv with ⟨rfl, a2, c2, rfl, -⟩ | ⟨b2, o2, c2, rfl, h1, h2⟩
      · exact ⟨_, _, rfl, fun h => absurd h (by simp)⟩
      · exact ⟨_, _, rfl, fun _ => ⟨_, _, rfl, h1, h2⟩⟩
    have HC := Lib.hid hcell; clear hcell
    have HC2 := Lib.hid hc2; clear hc2 hv
    go_enter Tryd.func31, Tryd.ntmps31
    go_wp2_with fail
    go_loopw [5] (fun i wr => ∃ k : Nat, k ≤ l.length ∧ i = .int .i64 k ∧ Below W.heap.size W wr) (fun i _ => l.length - (intOf i).toNat)
    case atStart => exact ⟨0, Nat.zero_le _, rfl, Below.refl _ _⟩
    case round =>
      obtain ⟨k, hk, rfl, hbe⟩ := hrel
      by_cases hlt : k < l.length
      · obtain ⟨b2, o2, rfl, hb2, hcell2⟩ := HC2.out (by omega)
        have h1 := (hbe.cell (by exact hb)).trans (HC.out k hlt)
        have h2 := (hbe.cell (by exact hb2)).trans (hcell2 k hlt)
        clear hcell2
        generalize l.getD k 0 = x at *
        go_wp2_with fail
        go_quiet (fail)
        go_wp2_with fail
        go_roundw
        case rel => exact ⟨k + 1, by omega, by go_num, hbe.trans (below_drewN (Below.refl _ _) _)⟩
        case measure => simp [intOf]; omega
      · go_wp2_with fail
        go_ret
        exact ⟨rfl, hbe⟩
end Go.Proofs.YtpnjedcijbpngaaDoor
