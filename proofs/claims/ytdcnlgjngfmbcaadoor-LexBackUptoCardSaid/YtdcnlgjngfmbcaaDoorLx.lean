/- titheref24: blank, plain, words. -/
import Derived.Test.YtdcnlgjngfmbcaaDoorLw
namespace Go.Proofs.YtdcnlgjngfmbcaaDoor
open Go Go.RowKit Go.Shelf
set_option linter.unusedVariables false
set_option maxRecDepth 100000
set_option maxHeartbeats 800000

theorem rblank_c (n : Nat) (W : World) : Calls Tryd.prog 44 #[.int .u8 (n : Int)] W fun e w' => e = .returned (.bool (isBlN n)) ∧ W = w' := by
  by_cases h1 : n = 32
  · subst h1
    go_enter Tryd.func44, Tryd.ntmps44
    go_wp2_with fail
    go_ret
    exact ⟨rfl, rfl⟩
  · have e1 : ((n : Int) == 32) = false := by rw [beq_eq_false_iff_ne]; omega
    by_cases h2 : n = 9
    · subst h2
      go_enter Tryd.func44, Tryd.ntmps44
      go_wp2_with fail
      go_ret
      exact ⟨rfl, rfl⟩
    · have e2 : ((n : Int) == 9) = false := by rw [beq_eq_false_iff_ne]; omega
      have HR : Hid (isBlN n = false) := Lib.hid (by unfold isBlN; simp; omega)
      clear h1 h2
      go_enter Tryd.func44, Tryd.ntmps44
      go_wp2_with fail
      go_ret
      exact ⟨by rw [HR.out]; rfl, rfl⟩
def plN (n : Nat) : Bool := decide (33 ≤ n) && decide (n ≤ 126)
theorem plN_byte (b : UInt8) : plN b.toNat = pl b := rfl
theorem okN_eq (n : Nat) : okN n = (isBlN n || plN n) := rfl
theorem rplain_c (n : Nat) (W : World) : Calls Tryd.prog 33 #[.int .u8 (n : Int)] W fun e w' => e = .returned (.bool (plN n)) ∧ W = w' := by
  by_cases h1 : 33 ≤ n
  · have e1 : (33 : Int) ≤ n := by omega
    by_cases h2 : n ≤ 126
    · have e2 : decide ((n : Int) ≤ 126) = true := decide_eq_true (by omega)
      have HR : Hid (plN n = true) := Lib.hid (by unfold plN; simp; omega)
      clear h1 h2
      go_enter Tryd.func33, Tryd.ntmps33
      go_wp2_with fail
      go_ret
      exact ⟨by rw [HR.out]; rfl, rfl⟩
    · have e2 : decide ((n : Int) ≤ 126) = false := decide_eq_false (by omega)
      have HR : Hid (plN n = false) := Lib.hid (by unfold plN; simp; omega)
      clear h1 h2
      go_enter Tryd.func33, Tryd.ntmps33
      go_wp2_with fail
      go_ret
      exact ⟨by rw [HR.out]; rfl, rfl⟩
  · have e1 : decide ((33 : Int) ≤ n) = false := decide_eq_false (by omega)
    have HR : Hid (plN n = false) := Lib.hid (by unfold plN; simp; omega)
    clear h1
    go_enter Tryd.func33, Tryd.ntmps33
    go_wp2_with fail
    go_ret
    exact ⟨by rw [HR.out]; rfl, rfl⟩

theorem rwords_bad (s : ByteArray) (W : World) (hs : s.size ≤ 4294967296) (h : okLine s.data.toList = false) :
    Calls Tryd.prog 31 #[.string s] W fun e w' => e = .returned (.tuple #[.slice none 0 0, .bool false]) ∧ W = w' := by
  have HN := Lib.hid h
  clear h
  have BC := Lib.hid rblank_c
  have PC := Lib.hid rplain_c
  go_enter Tryd.func31, Tryd.ntmps31
  go_wp2_with fail
  go_loop [4] (fun i => ∃ k : Nat, k ≤ s.size ∧ i = .int .i64 k ∧ Hid (∀ (j : Nat) (h : j < s.size), j < k → okN (s[j]).toNat = true)) (fun i => s.size - (intOf i).toNat)
  case atStart => exact ⟨0, Nat.zero_le _, by go_num, Lib.hid (fun j h h0 => by omega)⟩
  case round =>
    obtain ⟨k, hk, rfl, hall⟩ := hrel
    by_cases hlt : k < s.size
    · have hkn : (k : Int) < (s.size : Int) := by omega
      have hkb : (k : Int) ≤ 4294967296 := by omega
      have B1 := BC.out (s[k]).toNat
      have P1 := PC.out (s[k]).toNat
      have NX := Lib.hid (fun (h : okN (s[k]).toNat = true) => (fun j hj hjk => by
        rcases Nat.lt_or_ge j k with h' | h'
        · exact hall.out j hj h'
        · obtain rfl : j = k := by omega
          exact h : ∀ (j : Nat) (h : j < s.size), j < k + 1 → okN (s[j]).toNat = true))
      rw [okN_eq] at NX
      cases hb : isBlN (s[k]).toNat with
      | true =>
        rw [hb] at B1 NX
        have BH := Lib.hid B1
        clear B1 P1 hb
        go_wp2_with fail
        refine (BH.out _).mono ?_
        rintro e w' ⟨rfl, rfl⟩
        go_wp2_with fail
        go_round
        case rel => exact ⟨k + 1, by omega, by go_num, Lib.hid (NX.out rfl)⟩
        case measure => simp [intOf]; omega
      | false =>
        rw [hb] at B1 NX
        have BH := Lib.hid B1
        cases hp : plN (s[k]).toNat with
        | true =>
          rw [hp] at P1 NX
          have PH := Lib.hid P1
          clear B1 P1 hb hp
          go_wp2_with fail
          refine (BH.out _).mono ?_
          rintro e w' ⟨rfl, rfl⟩
          go_wp2_with fail
          refine (PH.out _).mono ?_
          rintro e w' ⟨rfl, rfl⟩
          go_wp2_with fail
          go_round
          case rel => exact ⟨k + 1, by omega, by go_num, Lib.hid (NX.out rfl)⟩
          case measure => simp [intOf]; omega
        | false =>
          rw [hp] at P1
          have PH := Lib.hid P1
          clear B1 P1 hb hp
          go_wp2_with fail
          refine (BH.out _).mono ?_
          rintro e w' ⟨rfl, rfl⟩
          go_wp2_with fail
          refine (PH.out _).mono ?_
          rintro e w' ⟨rfl, rfl⟩
          go_wp2_with fail
          go_ret2
          exact ⟨rfl, rfl⟩
    · have : okLine s.data.toList = true := okLine_at.2 (fun j h => hall.out j h (by omega))
      have h2 := HN.out
      rw [this] at h2
      cases h2

theorem byte_at (s : ByteArray) (k : Nat) (h : k < s.size) : s.data.toList.getD k 0 = s[k] := by
  have h' : k < s.data.toList.length := by rw [Array.length_toList]; exact h
  rw [List.getD, List.getElem?_eq_getElem h']
  rfl
theorem drop_at (s : ByteArray) (k : Nat) (h : k < s.size) : s.data.toList.drop k = s[k] :: s.data.toList.drop (k + 1) := by
  have h' : k < s.data.toList.length := by rw [Array.length_toList]; exact h
  rw [List.drop_eq_getElem_cons h']
  rfl
theorem extract_str (s : ByteArray) (k j : Nat) : Value.string (s.extract k j) = str ((s.data.toList.drop k).take (j - k)) := by
  rw [of_str (s.extract k j), extract_list]
theorem word_step (s : ByteArray) (o ws : List (List UInt8)) (k j : Nat) (hk : k < s.size) (hkj : k ≤ j) (hj : j ≤ s.size) (hws : ws = o ++ (fldsGo [] (s.data.toList.drop k)).takeWhile noRem) (hall : ∀ (q : Nat) (h : q < s.size), k ≤ q → q < j → isBlN (s[q]).toNat = false) (hb : isBlN (s[k]).toNat = false)
    (he : ∀ h : j < s.size, isBlN (s[j]).toNat = true) (h35 : s[k] ≠ 35) :
    k < j ∧ ws = (o ++ [(s.data.toList.drop k).take (j - k)]) ++ (fldsGo [] (s.data.toList.drop j)).takeWhile noRem ∧ (o ++ [(s.data.toList.drop k).take (j - k)]).map str = o.map str ++ [Value.string (s.extract k j)] := by
  have hkj' : k < j := by
    rcases Nat.lt_or_ge k j with h | h
    · exact h
    · obtain rfl : j = k := by omega
      rw [he hk] at hb
      cases hb
  have hsz : s.size = s.data.toList.length := by rw [Array.length_toList]; rfl
  refine ⟨hkj', ?_, ?_⟩
  · rw [hws, word_take s.data.toList k j hkj' (by omega) ?_ ?_ ?_]
    · simp
    · intro i h1 h2
      rw [byte_at s i (by omega), ← isBlN_byte]
      exact hall i (by omega) h1 h2
    · rcases Nat.lt_or_ge j s.size with h | h
      · exact .inr (by rw [byte_at s j h, ← isBlN_byte]; exact he h)
      · exact .inl (by omega)
    · rw [byte_at s k hk]; exact h35
  · rw [List.map_append, extract_str]
    rfl
theorem rwords_ok (s : ByteArray) (W : World) (hs : s.size ≤ 4294967296) (h : okLine s.data.toList = true) :
    Calls Tryd.prog 31 #[.string s] W fun e w' => ∃ v, e = .returned (.tuple #[v, .bool true]) ∧ RS w' v (wds s.data.toList) ∧ Below W.heap.size W w' ∧ ∀ k, v.ownBlock = some k → W.heap.size ≤ k := by
  obtain ⟨i0, hi, hz0, hz1, hz2⟩ := info_of1 Tryd.infoStr
  have HO := Lib.hid (okLine_at.1 h)
  clear h
  have BC := Lib.hid rblank_c
  have PC := Lib.hid rplain_c
  have hln : s.data.toList.length = s.size := by rw [Array.length_toList]; rfl
  have HLN := Lib.hid hln
  have HWS : Hid (wds s.data.toList = [] ++ (fldsGo [] (s.data.toList.drop 0)).takeWhile noRem) := Lib.hid (by simp [wds, flds])
  generalize wds s.data.toList = ws at *
  clear hln
  go_enter Tryd.func31, Tryd.ntmps31
  go_wp2_with fail
  go_loop [4] (fun i => ∃ k : Nat, k ≤ s.size ∧ i = .int .i64 k) (fun i => s.size - (intOf i).toNat)
  case atStart => exact ⟨0, Nat.zero_le _, by go_num⟩
  case round =>
    obtain ⟨k, hk, rfl⟩ := hrel
    by_cases hlt : k < s.size
    · have hkn : (k : Int) < (s.size : Int) := by omega
      have hkb : (k : Int) ≤ 4294967296 := by omega
      have B1 := BC.out (s[k]).toNat
      have P1 := PC.out (s[k]).toNat
      have ok := HO.out k hlt
      rw [okN_eq] at ok
      cases hb : isBlN (s[k]).toNat with
      | true =>
        rw [hb] at B1
        have BH := Lib.hid B1
        clear B1 P1 hb ok
        go_wp2_with fail
        refine (BH.out _).mono ?_
        rintro e w' ⟨rfl, rfl⟩
        go_wp2_with fail
        go_round
        case rel => exact ⟨k + 1, by omega, by go_num⟩
        case measure => simp [intOf]; omega
      | false =>
        rw [hb] at B1 ok
        have hp : plN (s[k]).toNat = true := by simpa using ok
        rw [hp] at P1
        have BH := Lib.hid B1
        have PH := Lib.hid P1
        clear B1 P1 hb hp ok
        go_wp2_with fail
        refine (BH.out _).mono ?_
        rintro e w' ⟨rfl, rfl⟩
        go_wp2_with fail
        refine (PH.out _).mono ?_
        rintro e w' ⟨rfl, rfl⟩
        go_wp2_with fail
        go_round
        case rel => exact ⟨k + 1, by omega, by go_num⟩
        case measure => simp [intOf]; omega
    · obtain rfl : k = s.size := by omega
      go_wp2_with fail
      go_loopw [5, 6] (fun a i wr => ∃ (k : Nat) (o : List (List UInt8)), k ≤ s.size ∧ i = .int .i64 k ∧ o.length ≤ k ∧ wr.ownsRow W.heap.size 9 1 a o.length (o.map str) ∧ Below W.heap.size W wr ∧ Hid (ws = o ++ (fldsGo [] (s.data.toList.drop k)).takeWhile noRem)) (fun _ i _ => s.size - (intOf i).toNat)
      case atStart => exact ⟨0, [], Nat.zero_le _, by go_num, Nat.le_refl _, World.ownsRow_nil _ _ _ _, Below.refl _ _, HWS⟩
      case round =>
        obtain ⟨k, o, hk, rfl, hol, hown, hbe, hws⟩ := hrel
        obtain ⟨wo, rfl⟩ : ∃ wo : World, wo = wr := ⟨_, rfl⟩
        have hkb : (k : Int) ≤ 4294967296 := by omega
        by_cases hlt : k < s.size
        · have hkn : (k : Int) < (s.size : Int) := by omega
          have B1 := BC.out (s[k]).toNat
          have DA := Lib.hid (drop_at s k hlt)
          cases hb : isBlN (s[k]).toNat with
          | true =>
            rw [hb] at B1
            have BH := Lib.hid B1
            have NX : Hid (ws = o ++ (fldsGo [] (s.data.toList.drop (k + 1))).takeWhile noRem) := Lib.hid (by
              have := hws.out
              rw [DA.out, blank_skip _ (by rw [← isBlN_byte]; exact hb)] at this
              exact this)
            clear B1 hb
            go_wp2_with fail
            refine (BH.out _).mono ?_
            rintro e w' ⟨rfl, rfl⟩
            go_wp2_with fail
            go_roundw
            case rel => exact ⟨k + 1, o, by omega, by go_num, by omega, hown, hbe, NX⟩
            case measure => simp [intOf]; omega
          | false =>
            rw [hb] at B1
            have BH := Lib.hid B1
            have HB := Lib.hid hb
            clear B1 hb
            by_cases h35 : s[k] = 35
            · have NX : Hid (ws = o) := Lib.hid (by
                have := hws.out
                rw [DA.out, h35, rem_end, List.append_nil] at this
                exact this)
              have e35 : (((s[k]).toNat : Int) == 35) = true := by rw [h35]; rfl
              have OW := Lib.hid hown
              clear h35 hown
              go_wp2_with fail
              refine (BH.out _).mono ?_
              rintro e w' ⟨rfl, rfl⟩
              go_wp2_with fail
              go_ret2
              exact ⟨_, rfl, by rw [NX.out]; exact (RS_own OW.out).1, hbe, own_ge1 OW.out⟩
            · have e35 : (((s[k]).toNat : Int) == 35) = false := by
                rw [beq_eq_false_iff_ne]
                intro e
                exact h35 (UInt8.toNat_inj.1 (by have : (s[k]).toNat = 35 := by omega
                                                 rw [this]; rfl))
              have H35 := Lib.hid h35
              clear h35
              go_wp2_with fail
              refine (BH.out _).mono ?_
              rintro e w' ⟨rfl, rfl⟩
              go_wp2_with fail
              go_loop [6] (fun i => ∃ j : Nat, k ≤ j ∧ j ≤ s.size ∧ i = .int .i64 j ∧ Hid (∀ (q : Nat) (h : q < s.size), k ≤ q → q < j → isBlN (s[q]).toNat = false)) (fun i => s.size - (intOf i).toNat)
              case atStart => exact ⟨k, Nat.le_refl _, by omega, by go_num, Lib.hid (fun q h h1 h2 => by omega)⟩
              case round =>
                obtain ⟨j, hkj, hjs, rfl, hall⟩ := hrel
                have hjb : (j : Int) ≤ 4294967296 := by omega
                by_cases hj : j < s.size
                · have hjn : (j : Int) < (s.size : Int) := by omega
                  have B2 := BC.out (s[j]).toNat
                  cases hb2 : isBlN (s[j]).toNat with
                  | false =>
                    rw [hb2] at B2
                    have JH := Lib.hid B2
                    have H2 := Lib.hid hb2
                    clear B2 hb2
                    go_wp2_with fail
                    refine (JH.out _).mono ?_
                    rintro e w' ⟨rfl, rfl⟩
                    go_wp2_with fail
                    go_round
                    case rel =>
                      refine ⟨j + 1, by omega, by omega, by go_num, Lib.hid (fun q h h1 h2 => ?_)⟩
                      rcases Nat.lt_or_ge q j with h' | h'
                      · exact hall.out q h h1 h'
                      · obtain rfl : q = j := by omega
                        exact H2.out
                    case measure => simp [intOf]; omega
                  | true =>
                    rw [hb2] at B2
                    have JH := Lib.hid B2
                    have HE : Hid (∀ h : j < s.size, isBlN (s[j]).toNat = true) := Lib.hid (fun _ => hb2)
                    clear B2 hb2
                    have hsz := hbe.size
                    have STEP := word_step s o ws k j hlt hkj hjs hws.out hall.out HB.out HE.out H35.out
                    have hkj2 := STEP.1
                    have hkj3 : (k : Int) ≤ (j : Int) := by omega
                    have hjs3 : (j : Int) ≤ (s.size : Int) := by omega
                    have ST2 := Lib.hid STEP.2.1
                    have ST3 := Lib.hid STEP.2.2
                    clear STEP hall hws
                    go_wp2_with (first | (go_at_call 44; refine (JH.out _).mono ?_; rintro e w' ⟨rfl, rfl⟩) | (at_builtin; refine appendN (W := W) rfl _ _ 34 rfl W.heap.size 9 i0 (.string ⟨#[]⟩) 1 16 Tryd.underlying34 hi hz0 hz1 hz2 rfl (by decide) _ _ _ rfl hown _ [Value.string (s.extract k j)] _ rfl rfl rfl (by intro u hu; simp at hu; subst hu; rfl) (by unfold maxLen; omega) (by omega) hsz hbe ?_; intro v' w3 hown3 hbe3))
                    go_roundw
                    case rel => exact ⟨j, o ++ [(s.data.toList.drop k).take (j - k)], by omega, by go_num, by simp; omega, by rw [ST3.out, List.length_append]; exact hown3, hbe3, ST2⟩
                    case measure => simp [intOf]; omega
                · have HE : Hid (∀ h : j < s.size, isBlN (s[j]).toNat = true) := Lib.hid (fun h => absurd h hj)
                  obtain rfl : j = s.size := by omega
                  clear hj
                  have hsz := hbe.size
                  have STEP := word_step s o ws k s.size hlt hkj hjs hws.out hall.out HB.out HE.out H35.out
                  have hkj2 := STEP.1
                  have hkj3 : (k : Int) ≤ (s.size : Int) := by omega
                  have hjs3 : (s.size : Int) ≤ (s.size : Int) := by omega
                  have ST2 := Lib.hid STEP.2.1
                  have ST3 := Lib.hid STEP.2.2
                  clear STEP hall hws
                  go_wp2_with (first | (at_builtin; refine appendN (W := W) rfl _ _ 34 rfl W.heap.size 9 i0 (.string ⟨#[]⟩) 1 16 Tryd.underlying34 hi hz0 hz1 hz2 rfl (by decide) _ _ _ rfl hown _ [Value.string (s.extract k s.size)] _ rfl rfl rfl (by intro u hu; simp at hu; subst hu; rfl) (by unfold maxLen; omega) (by omega) hsz hbe ?_; intro v' w3 hown3 hbe3))
                  go_roundw
                  case rel => exact ⟨s.size, o ++ [(s.data.toList.drop k).take (s.size - k)], by omega, by go_num, by simp; omega, by rw [ST3.out, List.length_append]; exact hown3, hbe3, ST2⟩
                  case measure => simp [intOf]; omega
        · obtain rfl : k = s.size := by omega
          have NX : Hid (ws = o) := Lib.hid (by
            have := hws.out
            rw [List.drop_eq_nil_of_le (by rw [HLN.out]; exact Nat.le_refl _)] at this
            simpa [fldsGo] using this)
          have OW := Lib.hid hown
          clear hown
          go_wp2_with fail
          go_ret2
          exact ⟨_, rfl, by rw [NX.out]; exact (RS_own OW.out).1, hbe, own_ge1 OW.out⟩
end Go.Proofs.YtdcnlgjngfmbcaaDoor
