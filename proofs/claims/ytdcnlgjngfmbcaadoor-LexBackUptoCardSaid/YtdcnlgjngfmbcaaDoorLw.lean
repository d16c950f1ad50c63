/- lex: plain, words. -/
import Derived.Test.YtdcnlgjngfmbcaaDoorEnv
import Derived.Test.YtdcnlgjngfmbcaaDoorSa
import Derived.Test.YtdcnlgjngfmbcaaDoorLp
import Derived.Deep.QuietTactic
import Derived.BigQuiet
namespace Go.Proofs.YtdcnlgjngfmbcaaDoor
open Go Go.RowKit Go.Shelf
set_option linter.unusedVariables false
set_option maxRecDepth 100000
set_option maxHeartbeats 800000

def okN (n : Nat) : Bool := n == 32 || n == 9 || (decide (33 ≤ n) && decide (n ≤ 126))
theorem okN_byte (b : UInt8) : okN b.toNat = (bl b || pl b) := by
  have := isBlN_byte b
  unfold okN pl
  unfold isBlN at this
  rw [this]
theorem okLine_at {s : ByteArray} : okLine s.data.toList = true ↔ ∀ (k : Nat) (h : k < s.size), okN (s[k]).toNat = true := by
  unfold okLine
  rw [List.all_eq_true]
  constructor
  · intro h k hk
    have hk' : k < s.data.toList.length := by rw [Array.length_toList]; exact hk
    have := h (s.data.toList[k]) (List.getElem_mem hk')
    rw [← okN_byte] at this
    exact this
  · intro h b hb
    obtain ⟨k, hk, rfl⟩ := List.getElem_of_mem hb
    have hk' : k < s.size := by rw [Array.length_toList] at hk; exact hk
    have := h k hk'
    rw [← okN_byte]
    exact this

theorem plain_c (n : Nat) (hn : n < 256) (W : World) :
    Calls Tryd.prog 40 #[.int .u8 (n : Int)] W fun e w' => e = .returned (.bool (okN n)) ∧ W = w' := by
  by_cases h1 : n = 32
  · subst h1
    go_enter Tryd.func40, Tryd.ntmps40
    go_wp2_with fail
    go_ret
    exact ⟨rfl, rfl⟩
  · by_cases h2 : n = 9
    · subst h2
      go_enter Tryd.func40, Tryd.ntmps40
      go_wp2_with fail
      go_ret
      exact ⟨rfl, rfl⟩
    · have e1 : ((n : Int) == 32) = false := by rw [beq_eq_false_iff_ne]; omega
      have e2 : ((n : Int) == 9) = false := by rw [beq_eq_false_iff_ne]; omega
      by_cases h3 : 33 ≤ n
      · have e3 : (32 : Int) < n := by omega
        by_cases h4 : n ≤ 126
        · have e4 : (n : Int) < 127 := by omega
          have HR : Hid (okN n = true) := Lib.hid (by unfold okN; simp; omega)
          clear h1 h2 h3 h4
          go_enter Tryd.func40, Tryd.ntmps40
          go_wp2_with fail
          go_ret
          exact ⟨by rw [HR.out]; rfl, rfl⟩
        · have e4 : ¬ (n : Int) < 127 := by omega
          have HR : Hid (okN n = false) := Lib.hid (by unfold okN; simp; omega)
          clear h1 h2 h3 h4
          go_enter Tryd.func40, Tryd.ntmps40
          go_wp2_with fail
          go_ret
          exact ⟨by rw [HR.out]; rfl, rfl⟩
      · have e3 : ¬ (32 : Int) < n := by omega
        have HR : Hid (okN n = false) := Lib.hid (by unfold okN; simp; omega)
        clear h1 h2 h3
        go_enter Tryd.func40, Tryd.ntmps40
        go_wp2_with fail
        go_ret
        exact ⟨by rw [HR.out]; rfl, rfl⟩

theorem isbl_c (n : Nat) (W : World) : Calls Tryd.prog 42 #[.int .i32 (n : Int)] W fun e w' => e = .returned (.bool (isBlN n)) ∧ W = w' := by
  by_cases h1 : n = 32
  · subst h1
    go_enter Tryd.func42, Tryd.ntmps42
    go_wp2_with fail
    go_ret
    exact ⟨rfl, rfl⟩
  · have e1 : ((n : Int) == 32) = false := by rw [beq_eq_false_iff_ne]; omega
    by_cases h2 : n = 9
    · subst h2
      go_enter Tryd.func42, Tryd.ntmps42
      go_wp2_with fail
      go_ret
      exact ⟨rfl, rfl⟩
    · have e2 : ((n : Int) == 9) = false := by rw [beq_eq_false_iff_ne]; omega
      have HR : Hid (isBlN n = false) := Lib.hid (by unfold isBlN; simp; omega)
      clear h1 h2
      go_enter Tryd.func42, Tryd.ntmps42
      go_wp2_with fail
      go_ret
      exact ⟨by rw [HR.out]; rfl, rfl⟩

theorem ff_c (s : ByteArray) (W : World) (hs : s.size ≤ 4294967296) (h : okLine s.data.toList = true) :
    Calls Tryd.prog 41 #[.string s, .func (.func 42) #[] #[]] W fun e w' => ∃ A, e = .returned (.slice (some ⟨A, 0, none⟩) (flds s.data.toList).length (flds s.data.toList).length) ∧ RS w' (.slice (some ⟨A, 0, none⟩) (flds s.data.toList).length (flds s.data.toList).length) (flds s.data.toList) ∧ Below W.heap.size W w' := by
  refine (Tryd.strings_FieldsFunc_runes 42 #[] (fun args w => by kernel_rfl) isBlN s W hs (fun W' x _ _ => ?_)).mono ?_
  · refine (isbl_c x W').mono ?_
    rintro e w' ⟨rfl, rfl⟩
    exact ⟨rfl, 0, rfl⟩
  · rintro e w' ⟨A, rfl, _, hown, hb⟩
    rw [goFields_len s h, goFields_flds s h] at *
    exact ⟨A, rfl, (RS_own hown).1, hb⟩

theorem Tryd.infoStr : (Tryd.prog.info? 9).map (fun i => (i.zero, i.size, i.bytes)) = some (some (.string ⟨#[]⟩), 1, 16) := by kernel_rfl
theorem info_of1 {P : Program} {e : TypeId} {z : Value} {s b : Nat} (h : (P.info? e).map (fun i => (i.zero, i.size, i.bytes)) = some (some z, s, b)) : ∃ i, P.info? e = some i ∧ i.zero = some z ∧ i.size = s ∧ i.bytes = b := by
  cases hq : P.info? e with
  | none => simp [hq] at h
  | some i => simp [hq] at h; exact ⟨i, rfl, h.1, h.2.1, h.2.2⟩

theorem words_bad (s : ByteArray) (W : World) (hs : s.size ≤ 4294967296) (h : okLine s.data.toList = false) :
    Calls Tryd.prog 29 #[.string s] W fun e w' => e = .returned (.tuple #[.slice none 0 0, .bool false]) ∧ W = w' := by
  have HN := Lib.hid h
  clear h
  have PC := Lib.hid plain_c
  go_enter Tryd.func29, Tryd.ntmps29
  go_wp2_with fail
  go_loop [10] (fun i => ∃ k : Nat, k ≤ s.size ∧ i = .int .i64 k ∧ Hid (∀ (j : Nat) (h : j < s.size), j < k → okN (s[j]).toNat = true)) (fun i => s.size - (intOf i).toNat)
  case atStart => exact ⟨0, Nat.zero_le _, by go_num, Lib.hid (fun j h h0 => by omega)⟩
  case round =>
    obtain ⟨k, hk, rfl, hall⟩ := hrel
    by_cases hlt : k < s.size
    · have hkn : (k : Int) < (s.size : Int) := by omega
      have hkb : (k : Int) ≤ 4294967296 := by omega
      have PK := Lib.hid (PC.out (s[k]).toNat (UInt8.toNat_lt _))
      by_cases hc : okN (s[k]).toNat = true
      · have PK2 := Lib.hid (fun W => hc ▸ PK.out W)
        have HC := Lib.hid hc
        clear hc PK
        go_wp2_with fail
        refine (PK2.out _).mono ?_
        rintro e w' ⟨rfl, rfl⟩
        go_wp2_with fail
        go_round
        case rel =>
          refine ⟨k + 1, by omega, by go_num, Lib.hid (fun j h hj => ?_)⟩
          rcases Nat.lt_or_ge j k with h' | h'
          · exact hall.out j h h'
          · obtain rfl : j = k := by omega
            exact HC.out
        case measure => simp [intOf]; omega
      · have hc' : okN (s[k]).toNat = false := by simpa using hc
        have PK2 := Lib.hid (fun W => hc' ▸ PK.out W)
        clear hc hc' PK
        go_wp2_with fail
        refine (PK2.out _).mono ?_
        rintro e w' ⟨rfl, rfl⟩
        go_wp2_with fail
        go_ret2
        exact ⟨rfl, rfl⟩
    · have : okLine s.data.toList = true := okLine_at.2 (fun j h => hall.out j h (by omega))
      have h2 := HN.out
      rw [this] at h2
      cases h2

theorem words_ok (s : ByteArray) (W : World) (hs : s.size ≤ 4294967296) (h : okLine s.data.toList = true) :
    Calls Tryd.prog 29 #[.string s] W fun e w' => ∃ v, e = .returned (.tuple #[v, .bool true]) ∧ RS w' v (wds s.data.toList) ∧ Below W.heap.size W w' ∧ ∀ k, v.ownBlock = some k → W.heap.size ≤ k := by
  obtain ⟨i0, hi, hz0, hz1, hz2⟩ := info_of1 Tryd.infoStr
  have HO := Lib.hid (okLine_at.1 h)
  have FF := Lib.hid (ff_c s W hs h)
  have hfl : (flds s.data.toList).length ≤ s.size + 1 := by have := fldsGo_len s.data.toList []; rw [Array.length_toList] at this; exact this
  have HNE := Lib.hid (flds_ne s.data.toList)
  have HWD : Hid (wds s.data.toList = (flds s.data.toList).takeWhile noRem) := Lib.hid rfl
  clear h
  have PC := Lib.hid plain_c
  generalize flds s.data.toList = fs at *
  generalize wds s.data.toList = ws at *
  go_enter Tryd.func29, Tryd.ntmps29
  go_wp2_with fail
  go_loop [10] (fun i => ∃ k : Nat, k ≤ s.size ∧ i = .int .i64 k) (fun i => s.size - (intOf i).toNat)
  case atStart => exact ⟨0, Nat.zero_le _, by go_num⟩
  case round =>
    obtain ⟨k, hk, rfl⟩ := hrel
    by_cases hlt : k < s.size
    · have hkn : (k : Int) < (s.size : Int) := by omega
      have hkb : (k : Int) ≤ 4294967296 := by omega
      have PK := PC.out (s[k]).toNat (UInt8.toNat_lt _)
      rw [HO.out k hlt] at PK
      have PK2 := Lib.hid PK
      clear PK
      go_wp2_with fail
      refine (PK2.out _).mono ?_
      rintro e w' ⟨rfl, rfl⟩
      go_wp2_with fail
      go_round
      case rel => exact ⟨k + 1, by omega, by go_num⟩
      case measure => simp [intOf]; omega
    · obtain rfl : k = s.size := by omega
      go_wp2_with fail
      refine FF.out.mono ?_
      rintro e w1 ⟨A, rfl, rs, hb1⟩
      have HB1 := Lib.hid hb1
      obtain ⟨p, c, hp, hrow⟩ := rs.out
      injection hp with hp1 hp2 hp3
      subst hp1 hp3
      have HROW := Lib.hid hrow
      clear rs hrow hb1 hp2
      go_wp2_with fail
      go_loopw [5, 22] (fun a i wr => ∃ k : Nat, k ≤ fs.length ∧ i = .int .i64 k ∧ wr.ownsRow w1.heap.size 9 1 a k ((fs.take k).map str) ∧ Below w1.heap.size w1 wr ∧ Hid (∀ x ∈ fs.take k, noRem x = true)) (fun _ i _ => fs.length - (intOf i).toNat)
      case atStart => exact ⟨0, Nat.zero_le _, by go_num, World.ownsRow_nil _ _ _ _, Below.refl _ _, Lib.hid (by simp)⟩
      case round =>
        obtain ⟨k, hk, rfl, hown, hbe, hall⟩ := hrel
        have hkb : (k : Int) ≤ 4294967297 := by omega
        by_cases hlt : k < fs.length
        · obtain ⟨b, o, hbo, hb, hc⟩ := HROW.out k hlt
          injection hbo with hbo
          injection hbo with hbo1 hbo2
          subst hbo1 hbo2
          have hcx := (hbe.cell (p := ⟨A, 0 + k, none⟩) hb).trans hc
          have hx : fs.getD k [] = fs[k] := by rw [List.getD, List.getElem?_eq_getElem hlt]; rfl
          rw [hx] at hcx
          have hne := HNE.out _ (List.getElem_mem hlt)
          have ST := Lib.hid (fun (h : noRem fs[k] = false) => HWD.out.trans (takeWhile_stop noRem fs k hall.out hlt h))
          have TK : Hid ((fs.take (k + 1)).map str = (fs.take k).map str ++ [str fs[k]]) := Lib.hid (by rw [List.take_succ_eq_append_getElem hlt, List.map_append]; rfl)
          have AL := Lib.hid (fun (h : noRem fs[k] = true) => (by rw [List.take_succ_eq_append_getElem hlt]; intro x hx; rcases List.mem_append.1 hx with e | e; exact hall.out x e; simp at e; subst e; exact h : ∀ x ∈ fs.take (k + 1), noRem x = true))
          generalize fs[k] = x at *
          obtain ⟨y, t, rfl⟩ : ∃ y t, x = y :: t := by cases x with | nil => exact absurd rfl hne | cons y t => exact ⟨y, t, rfl⟩
          have hkn : (k : Int) < (fs.length : Int) := by omega
          have hsz := hbe.size
          clear hne hx hc
          rw [Nat.zero_add] at hcx
          by_cases hy : y = 35
          · subst hy
            have HW := Lib.hid (ST.out rfl)
            have OW := Lib.hid hown
            have BE := Lib.hid (HB1.out.trans (hbe.mono HB1.out.size))
            clear ST AL TK hown hbe
            go_wp2_with fail
            go_ret2
            exact ⟨_, rfl, by rw [HW.out]; exact (RS_own OW.out).1, BE.out, fun k hk => Nat.le_trans HB1.out.size (own_ge1 OW.out k hk)⟩
          · have hb0 : 0 < (⟨(y :: t).toArray⟩ : ByteArray).size := by rw [sz]; simp
            have ey : ((((⟨(y :: t).toArray⟩ : ByteArray)[0]'hb0).toNat : Int) == 35) = false := by
              rw [show ((⟨(y :: t).toArray⟩ : ByteArray)[0]'hb0) = y from rfl, beq_eq_false_iff_ne]
              intro e
              exact hy (UInt8.toNat_inj.1 (by have : y.toNat = 35 := by omega
                                              rw [this]; rfl))
            have HA := Lib.hid (AL.out (by unfold noRem; simp [hy]))
            clear ST AL hy
            go_wp2_with (at_builtin; refine appendN (W := w1) rfl _ _ 34 rfl w1.heap.size 9 i0 (.string ⟨#[]⟩) 1 16 Tryd.underlying34 hi hz0 hz1 hz2 rfl (by decide) _ _ _ rfl hown _ [str (y :: t)] _ rfl rfl rfl (by intro u hu; simp at hu; subst hu; rfl) (by unfold maxLen; omega) (by omega) hsz hbe ?_; intro v' w3 hown3 hbe3)
            go_roundw
            case rel => exact ⟨k + 1, by omega, by go_num, by rw [TK.out]; exact hown3, hbe3, HA⟩
            case measure => simp [intOf]; omega
        · obtain rfl : k = fs.length := by omega
          rw [List.take_length] at hown hall
          have HW : Hid (ws = fs) := Lib.hid (HWD.out.trans (takeWhile_full noRem fs hall.out))
          have OW := Lib.hid hown
          have BE := Lib.hid (HB1.out.trans (hbe.mono HB1.out.size))
          clear hown hbe hall
          go_wp2_with fail
          go_ret2
          exact ⟨_, rfl, by rw [HW.out]; exact (RS_own OW.out).1, BE.out, fun k hk => Nat.le_trans HB1.out.size (own_ge1 OW.out k hk)⟩
end Go.Proofs.YtdcnlgjngfmbcaaDoor
