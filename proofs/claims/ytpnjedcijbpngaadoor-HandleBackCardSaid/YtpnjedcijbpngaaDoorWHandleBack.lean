/- The walk of HandleBack. -/
import Derived.Test.YtpnjedcijbpngaaDoorHw
import Derived.Test.YtpnjedcijbpngaaDoorHy
namespace Go.Proofs.YtpnjedcijbpngaaDoor
open Go Go.RowKit Go.Shelf Go.Sort
set_option maxHeartbeats 800000
set_option maxRecDepth 100000
set_option linter.unusedVariables false

theorem back_long (l : List Int) (v : Value) {W : World} (hv : RI W v l) (h : 4096 < l.length) (E : Env W) :
    Calls Tryd.prog 8 #[v] W fun e w' => e = .returned (.bool true) ∧ Below W.heap.size W w' := by
  have WK := Lib.hid (works_ok W E); clear E
  rcases hv with ⟨rfl, a, cap, rfl, -⟩ | ⟨b, off, cap, rfl, hb, hcell⟩
  · simp at h
  · clear hcell
    go_enter Tryd.func8, Tryd.ntmps8
    go_wp2_with (go_at_call 12; refine (WK.out).mono ?_; rintro e w1 ⟨rfl, hb1⟩)
    go_ret
    exact ⟨rfl, hb1⟩

theorem own_slice {w : World} {B : Nat} {e : TypeId} {size : Nat} {v : Value} {n : Nat} {xs : List Value} (h : w.ownsRow B e size v n xs) : ∃ a c, v = .slice a n c := by
  rcases h.2 with ⟨rfl, rfl⟩ | ⟨g, cap, cur, rfl, _⟩
  · exact ⟨_, _, rfl⟩
  · exact ⟨_, _, rfl⟩

/-- What is left to do behind the loop, the valid handles gathered. -/
theorem back_s (l : List Int) (v : Value) {W : World} (hv : RI W v l) (hl : l.length ≤ 4096) (E : Env W) :
    Calls Tryd.prog 8 #[v] W fun e w' => e = .returned (.bool true) ∧ Below W.heap.size W w' := by
  obtain ⟨i0, hi, hz0, hz1, hz2⟩ := info_parts Tryd.infoH
  have EE := Lib.hid E; clear E
  obtain ⟨a, cap, rfl, hc⟩ : ∃ a cap, v = .slice a l.length cap ∧ (0 < l.length → ∃ b off, a = some ⟨b, off, none⟩ ∧ b < W.heap.size ∧ ∀ i, i < l.length → W.cell? ⟨b, off + i, none⟩ = some (.int .i64 (l.getD i 0))) := by
    rcases hv with ⟨rfl, a2, c2, rfl, -⟩ | ⟨b2, o2, c2, rfl, h1, h2⟩
    · exact ⟨_, _, rfl, fun h => absurd h (by simp)⟩
    · exact ⟨_, _, rfl, fun _ => ⟨_, _, rfl, h1, h2⟩⟩
  have HC := Lib.hid hc; clear hc hv
  go_enter Tryd.func8, Tryd.ntmps8
  go_wp2_with fail
  go_loopw [3, 4] (fun g i wr => ∃ k : Nat, k ≤ l.length ∧ i = .int .i64 k ∧ wr.ownsRow W.heap.size 22 1 g (goodL l k).length ((goodL l k).map (Value.int .i64)) ∧ Below W.heap.size W wr) (fun _ i _ => l.length - (intOf i).toNat)
  case atStart => exact ⟨0, Nat.zero_le _, rfl, by simpa [goodL] using World.ownsRow_nil _ _ _ _, Below.refl _ _⟩
  case round =>
    obtain ⟨k, hk, rfl, hown, hbe⟩ := hrel
    by_cases hlt : k < l.length
    · obtain ⟨b, off, rfl, hb, hcell⟩ := HC.out (by omega)
      have hcx := (hbe.cell (by exact hb)).trans (hcell k hlt)
      clear hcell
      have hB := hbe.size
      generalize he : l.getD k 0 = h at *
      have HE := Lib.hid he; clear he
      by_cases v : HV h
      case neg =>
        have VV := Lib.hid (fun W => valid_f (h := h) W v)
        have GN := Lib.hid (goodL_no l k hlt HE.out v)
        clear v
        have HO := Lib.hid hown; clear hown
        go_wp2_with (go_at_call 19; refine (VV.out _).mono ?_; rintro e w' ⟨rfl, rfl⟩)
        go_roundw
        case rel => exact ⟨k + 1, by omega, by go_num, by rw [GN.out]; exact HO.out, hbe⟩
        case measure => simp [intOf]; omega
      have gl := goodL_length l k
      have GY := Lib.hid (goodL_yes l k hlt HE.out v)
      have VT := Lib.hid (fun W => valid_t (h := h) W v)
      have TX := Lib.hid (fun W E => text_any (h := h) W E)
      have RD := Lib.hid (fun W E => by have := read_any ⟨(hText h).toArray⟩ W E; rw [show (⟨(hText h).toArray⟩ : ByteArray).data.toList = hText h from rfl, hRead_text v] at this; simp only [errOf_0] at this; exact this)
      have GT := Lib.hid (fun W => gen_t (h := h) W v)
      have hr1 := (HV_range v).1
      have hr2 := (HV_range v).2
      generalize hText h = tx at *
      by_cases g : hG h = 1023
      · have NX := Lib.hid (fun W => next_last (h := h) W v g)
        have gb : (hG h == 1023) = true := by simp [g]
        clear v g
        go_wp2_with (first | (go_at_call 19; refine (VT.out _).mono ?_; rintro e w' ⟨rfl, rfl⟩) | (at_builtin; refine append1 rfl _ _ 42 rfl W.heap.size 22 i0 (.int .i64 0) 8 Tryd.underlying42 hi hz0 hz1 hz2 rfl _ _ _ rfl hown _ _ rfl rfl (by unfold maxLen; omega) (by omega) (by omega) hbe ?_; intro v' w3 hown3 hbe3; have hcx3 := (hbe3.cell (by exact hb)).trans ((hbe.cell (by exact hb)).symm.trans hcx)))
        have E3 := EE.out.below hbe3
        refine (TX.out _ E3).mono ?_
        rintro e w4 ⟨rfl, hb4⟩
        have E4 := E3.below hb4
        go_wp2_with fail
        refine (RD.out _ E4).mono ?_
        rintro e w5 ⟨rfl, hb5⟩
        have hb35 := below_then hb4 hb5
        have hbe5 := hbe3.trans (hb35.mono hbe3.size)
        have hcx5 := (hbe5.cell (by exact hb)).trans ((hbe.cell (by exact hb)).symm.trans hcx)
        have HO5 := Lib.hid (own_below hown3 hb35)
        clear hown3 hcx3 hb4 hb5 hb35 hown
        go_wp2_with (first | (go_at_call 17; refine (NX.out _).mono ?_; rintro e w' ⟨rfl, rfl⟩) | (go_at_call 25; refine (GT.out _).mono ?_; rintro e w' ⟨rfl, rfl⟩) | (go_at_call 11; refine (num_err 30 _).mono ?_; rintro e w' ⟨rfl, rfl⟩))
        go_roundw
        case rel => exact ⟨k + 1, by omega, by go_num, by rw [GY.out]; simpa using HO5.out, hbe5⟩
        case measure => simp [intOf]; omega
      · have NX := Lib.hid (fun W => next_ok (h := h) W v g)
        have gb : (hG h == 1023) = false := by simp [g]
        have VN := Lib.hid (fun W => valid_t (h := h + 1) W (HV_next v g))
        clear v g
        go_wp2_with (first | (go_at_call 19; refine (VT.out _).mono ?_; rintro e w' ⟨rfl, rfl⟩) | (at_builtin; refine append1 rfl _ _ 42 rfl W.heap.size 22 i0 (.int .i64 0) 8 Tryd.underlying42 hi hz0 hz1 hz2 rfl _ _ _ rfl hown _ _ rfl rfl (by unfold maxLen; omega) (by omega) (by omega) hbe ?_; intro v' w3 hown3 hbe3; have hcx3 := (hbe3.cell (by exact hb)).trans ((hbe.cell (by exact hb)).symm.trans hcx)))
        have E3 := EE.out.below hbe3
        refine (TX.out _ E3).mono ?_
        rintro e w4 ⟨rfl, hb4⟩
        have E4 := E3.below hb4
        go_wp2_with fail
        refine (RD.out _ E4).mono ?_
        rintro e w5 ⟨rfl, hb5⟩
        have hb35 := below_then hb4 hb5
        have hbe5 := hbe3.trans (hb35.mono hbe3.size)
        have hcx5 := (hbe5.cell (by exact hb)).trans ((hbe.cell (by exact hb)).symm.trans hcx)
        have HO5 := Lib.hid (own_below hown3 hb35)
        clear hown3 hcx3 hb4 hb5 hb35 hown
        go_wp2_with (first | (go_at_call 17; refine (NX.out _).mono ?_; rintro e w' ⟨rfl, rfl⟩) | (go_at_call 25; refine (GT.out _).mono ?_; rintro e w' ⟨rfl, rfl⟩) | (go_at_call 11; refine (num_nil _).mono ?_; rintro e w' ⟨rfl, rfl⟩) | (go_at_call 19; refine (VN.out _).mono ?_; rintro e w' ⟨rfl, rfl⟩))
        go_roundw
        case rel => exact ⟨k + 1, by omega, by go_num, by rw [GY.out]; simpa using HO5.out, hbe5⟩
        case measure => simp [intOf]; omega
    · have ek : k = l.length := by omega
      have gv := goodL_valid l k
      have gl := goodL_length l k
      have PK := Lib.hid (fun v W (hv : RI W v (goodL l k)) => by have := pack_any (goodL l k) v W hv; rw [pkA_valid _ gv (by omega)] at this; simp only [errOf_0] at this; exact this)
      have UN := Lib.hid (fun W => by have := unpack_any (strOfNums (packI (goodL l k))) W; rw [unA_pack _ gv (by omega)] at this; simp only [errOf_0] at this; exact this)
      have ps : (strOfNums (packI (goodL l k))).size = 6 * (goodL l k).length := by rw [strOfNums_size, packI_length]
      have RG := Lib.hid (RI_own hown)
      obtain ⟨gg, gcap, hgg⟩ : ∃ gg gcap, _ = Value.slice gg (goodL l k).length gcap := own_slice hown
      subst hgg
      have HO := Lib.hid hown
      clear hown gv ek
      generalize packI (goodL l k) = pk at *
      generalize strOfNums pk = st at *
      generalize goodL l k = gs at *
      go_wp2_with fail
      refine (PK.out _ _ RG.out).mono ?_
      rintro e w1 ⟨rfl, hb1⟩
      have hbe1 := hbe.trans (hb1.mono hbe.size)
      have RG1 := Lib.hid (RG.out.below hb1)
      clear hb1
      go_wp2_with fail
      refine (UN.out _).mono ?_
      rintro e w2 ⟨⟨vb, rfl, hbb⟩, hb2⟩
      have hbe2 := below_then hbe1 hb2
      have RG2 := Lib.hid (RG1.out.below hb2)
      have RB := Lib.hid hbb
      clear hb2 hbb
      go_wp2_with fail
      refine (same_eq gs _ _ _ RB.out RG2.out (by omega)).mono ?_
      rintro e w3 ⟨rfl, hb3⟩
      have hbe3 := below_then hbe2 hb3
      clear hb3
      go_wp2_with fail
      refine (works_ok _ (EE.out.below hbe3)).mono ?_
      rintro e w4 ⟨rfl, hb4⟩
      go_wp2_with fail
      go_ret
      exact ⟨rfl, below_then hbe3 hb4⟩

theorem handleBack_walk (l : List Int) (v : Value) {W : World} (hv : RI W v l) (hr : ∀ x ∈ l, -9223372036854775808 ≤ x ∧ x ≤ 9223372036854775807) (hl : l.length * 8 ≤ 140737488351232) (_W : World) (E : Env W) :
    Calls Tryd.prog 8 #[v] W fun e w' => e = .returned (.bool true) ∧ Below W.heap.size W w' := by
  by_cases h : 4096 < l.length
  · exact back_long l v hv h E
  · exact back_s l v hv (by omega) E
end Go.Proofs.YtpnjedcijbpngaaDoor
