/- cut of the reference of layer 19; its Number; Digits of layer 1's reference; Word. -/
import Derived.Test.YtohodbpjcbjifaaGreatDoorKb
import Derived.Test.YtohodbpjcbjifaaGreatDoorSg
import Derived.Outline
namespace Go.Proofs.YtohodbpjcbjifaaGreatDoor
open Go Go.RowKit Go.Shelf Go.Sort
set_option linter.unusedVariables false
set_option linter.unusedSimpArgs false
set_option maxRecDepth 100000
set_option maxHeartbeats 1600000

theorem Tryz.infoStrK : (Tryz.prog.info? 9).map (fun i => (i.zero, i.size, i.bytes)) = some (some (.string ⟨#[]⟩), 1, 16) := by kernel_rfl
theorem info_of1K {P : Program} {e : TypeId} {z : Value} {s b : Nat} (h : (P.info? e).map (fun i => (i.zero, i.size, i.bytes)) = some (some z, s, b)) : ∃ i, P.info? e = some i ∧ i.zero = some z ∧ i.size = s ∧ i.bytes = b := by
  cases hi : P.info? e with
  | none => rw [hi] at h; cases h
  | some i => rw [hi] at h; simp at h; exact ⟨i, rfl, h.1, h.2.1, h.2.2⟩
theorem rcut_any (s : ByteArray) (W : World) (h : s.size ≤ 16777216) :
    Calls Tryz.prog 28 #[.string s] W fun e w' => ∃ v, e = .returned v ∧ RS w' v (splitC 32 [] s.data.toList) ∧ Below W.heap.size W w' := by
  obtain ⟨i0, hi, hz0, hz1, hz2⟩ := info_of1K Tryz.infoStrK
  have hln : s.size = s.data.toList.length := by rw [Array.length_toList]; rfl
  have HR : Hid (CInv 32 s.data.toList (splitC 32 [] s.data.toList) 0 0 []) := Lib.hid ⟨Nat.le_refl _, .inl ⟨Nat.zero_le _, by simp [seg_self]⟩⟩
  generalize splitC 32 [] s.data.toList = R at *
  have HLN := Lib.hid hln
  have BA := Lib.hid (fun i (h : i < s.size) => (byte_at s i h).symm)
  clear hln
  have hss : (s.size : Int) ≤ 16777216 := by omega
  go_enter Tryz.func28, Tryz.ntmps28
  go_wp2_with fail
  go_loopw [3, 4, 5] (fun a f i wr => ∃ (i' f' : Nat) (o : List (List UInt8)), f = .int .i64 f' ∧ i = .int .i64 i' ∧ i' ≤ s.size + 1 ∧ f' ≤ i' ∧ o.length ≤ i' ∧ wr.ownsRow W.heap.size 9 1 a o.length (o.map str) ∧ Below W.heap.size W wr ∧ Hid (CInv 32 s.data.toList R i' f' o)) (fun _ _ i _ => s.size + 1 - (intOf i).toNat)
  case atStart => exact ⟨0, 0, [], by go_num, by go_num, by omega, by omega, by simp, World.ownsRow_nil _ _ _ _, Below.refl _ _, HR⟩
  case round =>
    obtain ⟨i, f, o, rfl, rfl, hile, hfi, hol, hown, hbe, hr⟩ := hrel
    have hib : (i : Int) ≤ 16777217 := by omega
    have OWN := Lib.hid hown
    have HBE := Lib.hid hbe
    have HSZ := Lib.hid hbe.size
    obtain ⟨pa, ca, rfl⟩ := own_form1 hown
    clear hown hbe
    by_cases hdone : i = s.size + 1
    · have HX : Hid (R = o) := Lib.hid (by
        rcases hr.out.2 with ⟨h, _⟩ | ⟨_, h⟩
        · have := HLN.out; omega
        · exact h)
      have OW := Lib.hid (RS_own OWN.out).1
      have hgt : ¬ (i : Int) ≤ (s.size : Int) := by omega
      clear hdone
      go_wp2_with fail
      go_ret
      exact ⟨_, rfl, by rw [HX.out]; exact OW.out, HBE.out⟩
    · have hil : i ≤ s.size := by omega
      have hile2 : (i : Int) ≤ (s.size : Int) := by omega
      have MB := Lib.hid (show o.length + 1 ≤ maxLen ∧ (o.length + 1) * 16 ≤ 140737488355328 from ⟨by unfold maxLen; omega, by omega⟩)
      by_cases hend : i = s.size
      · have NX := Lib.hid (hr.out.piece (.inl (by have := HLN.out; omega)))
        have he : ((i : Int) == (s.size : Int)) = true := by rw [beq_iff_eq]; omega
        have hfs : (f : Int) ≤ (i : Int) := by omega
        clear hdone hend hil
        go_wp2_with (at_builtin; rw [extract_seg]; refine appendN2 (W := W) rfl _ _ 39 rfl W.heap.size 9 i0 _ 1 16 Tryz.underlying39 hi hz0 hz1 hz2 rfl (by decide) _ _ _ rfl OWN.out _ [str (seg s.data.toList f i)] _ rfl rfl rfl (by intro u hu; simp at hu; subst hu; rfl) MB.out.1 MB.out.2 HSZ.out HBE.out ?_; intro m' w3 hown3 hbe3 hgr)
        go_roundw
        case rel => exact ⟨i + 1, i + 1, o ++ [seg s.data.toList f i], by go_num, by go_num, by omega, by omega, by simp; omega, by rw [List.length_append, List.map_append]; exact hown3, hbe3, NX⟩
        case measure => show s.size + 1 - ((i : Int) + 1).toNat < s.size + 1 - ((i : Int)).toNat; omega
      · have hlt : i < s.size := by omega
        have he : ((i : Int) == (s.size : Int)) = false := by rw [beq_eq_false_iff_ne]; omega
        have hlt' : (i : Int) < (s.size : Int) := by omega
        have hix : ∀ w, (Instr.index 9 (.string s) (.int .i64 (i : Int))).run Tryz.prog w = .ok (.int .u8 (s[i]).toNat) w := fun w => by
          rw [run_index_string _ _ _ _ _ Tryz.underlying9]; simp [hlt]
        by_cases hb : s.data.toList.getD i 0 = 32
        · have NX := Lib.hid (hr.out.piece (.inr ⟨by have := HLN.out; omega, hb⟩))
          have hb32 : (((s[i]).toNat : Int) == 32) = true := by rw [BA.out i hlt] at hb; rw [hb]; rfl
          generalize (s[i]).toNat = n at *
          have hfs : (f : Int) ≤ (i : Int) := by omega
          clear hdone hend hil hb hlt
          go_wp2_with (at_builtin; rw [extract_seg]; refine appendN2 (W := W) rfl _ _ 39 rfl W.heap.size 9 i0 _ 1 16 Tryz.underlying39 hi hz0 hz1 hz2 rfl (by decide) _ _ _ rfl OWN.out _ [str (seg s.data.toList f i)] _ rfl rfl rfl (by intro u hu; simp at hu; subst hu; rfl) MB.out.1 MB.out.2 HSZ.out HBE.out ?_; intro m' w3 hown3 hbe3 hgr)
          go_roundw
          case rel => exact ⟨i + 1, i + 1, o ++ [seg s.data.toList f i], by go_num, by go_num, by omega, by omega, by simp; omega, by rw [List.length_append, List.map_append]; exact hown3, hbe3, NX⟩
          case measure => show s.size + 1 - ((i : Int) + 1).toNat < s.size + 1 - ((i : Int)).toNat; omega
        · have NX := Lib.hid (hr.out.go (by have := HLN.out; omega) hb)
          have hb32 : (((s[i]).toNat : Int) == 32) = false := by
            rw [BA.out i hlt] at hb
            rw [beq_eq_false_iff_ne]
            intro e
            exact hb (UInt8.toNat_inj.1 (by have : (s[i]).toNat = 32 := by omega
                                            rw [this]; rfl))
          generalize (s[i]).toNat = n at *
          clear hdone hend hil hb hlt
          go_wp2_with fail
          go_roundw
          case rel => exact ⟨i + 1, f, o, by go_num, by go_num, by omega, by omega, by omega, OWN.out, HBE.out, NX⟩
          case measure => show s.size + 1 - ((i : Int) + 1).toNat < s.size + 1 - ((i : Int)).toNat; omega
theorem cons_strB (c : UInt8) (T : List UInt8) : (⟨#[c]⟩ : ByteArray) ++ ⟨T.toArray⟩ = ⟨(c :: T).toArray⟩ := by
  apply ByteArray.ext
  simp [ByteArray.data_append]
/-- What the loop of Digits holds. -/
theorem dig_step (n : Nat) (h : ¬ n < 10) (T : List UInt8) : Lib.decDigits n ++ T = Lib.decDigits (n / 10) ++ (UInt8.ofNat (48 + n % 10) :: T) := by
  rw [decDigits_step n h]; simp
theorem rdigits01 (n : Nat) (hn : n < 9223372036854775808) (W : World) :
    Calls Tryz.prog 17 #[.int .i64 n] W fun e w' => e = .returned (str (Lib.decDigits n)) ∧ W = w' := by
  have HL := Lib.hid (decDigits_len n hn)
  have h0 : ¬ (n : Int) < 0 := by omega
  have hni : (n : Int) < 9223372036854775808 := by omega
  obtain ⟨D, hD⟩ : ∃ D, D = Lib.decDigits n := ⟨_, rfl⟩
  have HD := Lib.hid hD
  rw [← hD] at HL
  rw [← hD]
  clear hD
  go_enter Tryz.func17, Tryz.ntmps17
  go_wp2_with fail
  clear h0
  go_loopw [0, 4] (fun v s wr => ∃ (m : Nat) (T : List UInt8), v = .int .i64 m ∧ s = str T ∧ m ≤ n ∧ wr = W ∧ Hid (Lib.decDigits m ++ T = D)) (fun v _ _ => (intOf v).toNat)
  case atStart => exact ⟨n, [], rfl, rfl, Nat.le_refl _, rfl, Lib.hid (by rw [HD.out]; simp)⟩
  case round =>
    obtain ⟨m, T, rfl, rfl, hm, rfl, hd⟩ := hrel
    have hmi : (m : Int) < 9223372036854775808 := by omega
    have hT : T.length ≤ 20 := by have h1 := congrArg List.length hd.out; have := HL.out; simp at h1; omega
    by_cases h10 : m < 10
    · have hm' : ¬ 10 ≤ (m : Int) := by omega
      have hm2 : (m : Int) < 10 := by omega
      have PC := dig_piece m h10
      have EQ : Hid (D = UInt8.ofNat (48 + m) :: T) := Lib.hid (by rw [← hd.out, Lib.decDigits_one h10]; rfl)
      have n1 : ¬ 9223372036854775807 < 1 + T.length := by omega
      clear h10
      generalize UInt8.ofNat (48 + m) = c at *
      go_wp2_with fail
      go_ret
      exact ⟨by rw [EQ.out]; exact congrArg (fun s => Ending.returned (Value.string s)) (cons_strB c T), rfl⟩
    · have hm' : 10 ≤ (m : Int) := by omega
      have PC := dig_piece (m % 10) (Nat.mod_lt _ (by decide))
      have NX := Lib.hid ((dig_step m h10 T).symm.trans hd.out)
      have hm10 : (m : Int) % 10 < 10 := by omega
      have hm0 : 0 ≤ (m : Int) % 10 := by omega
      have n1 : ¬ 9223372036854775807 < 1 + T.length := by omega
      clear h10
      generalize UInt8.ofNat (48 + m % 10) = c at *
      go_wp2_with fail
      go_roundw
      case rel => exact ⟨m / 10, c :: T, by go_num, congrArg Value.string (cons_strB c T), by omega, trivial, NX⟩
      case measure => show ((m : Int) / 10).toNat < ((m : Int)).toNat; omega
theorem rNum_short {s : ByteArray} (h : s.size = 0 ∨ 10 < s.size ∨ (1 < s.size ∧ (s.data.toList.getD 0 0).toNat = 48)) : rNum s.data.toList = -1 := by
  unfold rNum
  rw [size_list, if_pos h]
theorem rNum_bad {s : ByteArray} (h0 : 0 < s.size) (h10 : s.size ≤ 10) (hl : ¬ (1 < s.size ∧ (s.data.toList.getD 0 0).toNat = 48)) {k : Nat} (hk : k < s.size) (hb : dgt s[k] = false) : rNum s.data.toList = -1 := by
  unfold rNum
  rw [size_list, if_neg (by rintro (h | h | h); omega; omega; exact hl h), if_neg]
  rw [List.all_eq_true]
  intro h
  have := h s[k] (by rw [byte_at s k hk, List.getD, List.getElem?_eq_getElem (by rw [size_list]; exact hk)]; exact List.getElem_mem _)
  rw [hb] at this
  cases this
theorem rNum_ok {s : ByteArray} (h0 : 0 < s.size) (h10 : s.size ≤ 10) (hl : ¬ (1 < s.size ∧ (s.data.toList.getD 0 0).toNat = 48)) (h : ∀ c ∈ s.data.toList.take s.size, dgt c = true) : rNum s.data.toList = decV (s.data.toList.take s.size) := by
  rw [List.take_of_length_le (by rw [size_list]; exact Nat.le_refl _)] at h ⊢
  unfold rNum
  rw [size_list, if_neg (by rintro (h | h | h); omega; omega; exact hl h), if_pos]
  exact List.all_eq_true.2 h
theorem take_at (s : ByteArray) (k : Nat) (hk : k < s.size) : s.data.toList.take (k + 1) = s.data.toList.take k ++ [s[k]] := by
  rw [List.take_succ_eq_append_getElem (by rw [size_list]; exact hk), byte_at s k hk, List.getD, List.getElem?_eq_getElem (by rw [size_list]; exact hk)]
  rfl
theorem rnumber_short (s : ByteArray) (W : World) (h : s.size = 0 ∨ 10 < s.size) :
    Calls Tryz.prog 29 #[.string s] W fun e w' => e = .returned (.int .i64 (rNum s.data.toList)) ∧ W = w' := by
  rw [rNum_short (h.imp_right .inl)]
  by_cases h0 : s.size = 0
  · have h0' : ((s.size : Int) == 0) = true := by rw [h0]; rfl
    have h0'' : (s.size == 0) = true := by rw [h0]; rfl
    clear h
    go_enter Tryz.func29, Tryz.ntmps29
    go_wp2_with fail
    go_ret
    exact ⟨rfl, rfl⟩
  · have h0' : ((s.size : Int) == 0) = false := by rw [beq_eq_false_iff_ne]; omega
    have h1 : (10 : Int) < (s.size : Int) := by omega
    have h2 : decide (10 < s.size) = true := decide_eq_true (by omega)
    clear h
    go_enter Tryz.func29, Tryz.ntmps29
    go_wp2_with fail
    go_ret
    exact ⟨rfl, rfl⟩
theorem rnumber_any (s : ByteArray) (W : World) :
    Calls Tryz.prog 29 #[.string s] W fun e w' => e = .returned (.int .i64 (rNum s.data.toList)) ∧ W = w' := by
  by_cases hsh : s.size = 0 ∨ 10 < s.size
  · exact rnumber_short s W hsh
  have h0 : 0 < s.size := by omega
  have h10 : s.size ≤ 10 := by omega
  have h0' : ((s.size : Int) == 0) = false := by rw [beq_eq_false_iff_ne]; omega
  have h1' : ¬ (10 : Int) < (s.size : Int) := by omega
  have h2' : decide (10 < s.size) = false := decide_eq_false (by omega)
  have hsi : (s.size : Int) ≤ 10 := by omega
  have e0 := byte_at s 0 h0
  by_cases hl : 1 < s.size ∧ (s.data.toList.getD 0 0).toNat = 48
  · rw [rNum_short (.inr (.inr hl))]
    have hz0 : ((((s[0]).toNat : Int)) == 48) = true := by rw [e0, hl.2]; rfl
    have hz1 : decide (1 < s.size) = true := decide_eq_true hl.1
    have hz2 : (1 : Int) < (s.size : Int) := by omega
    clear hl e0 hsh
    go_enter Tryz.func29, Tryz.ntmps29
    go_wp2_with fail
    go_ret
    exact ⟨rfl, rfl⟩
  · have BAD := Lib.hid (fun k (hk : k < s.size) (hb : dgt s[k] = false) => rNum_bad h0 h10 hl hk hb)
    have OKV := Lib.hid (fun h => rNum_ok (s := s) h0 h10 hl h)
    have TK := Lib.hid (take_at s)
    have hl2 : ¬ (1 < s.size ∧ (s[0]).toNat = 48) := by rw [e0]; exact hl
    generalize rNum s.data.toList = R at *
    clear hl e0 hsh
    rcases (by omega : (s[0]).toNat ≠ 48 ∧ 1 < s.size ∨ (s[0]).toNat ≠ 48 ∧ ¬ 1 < s.size ∨ (s[0]).toNat = 48 ∧ ¬ 1 < s.size) with ⟨hz, hs1⟩ | ⟨hz, hs1⟩ | ⟨hz, hs1⟩
    all_goals
      first
        | (have hz0 : ((((s[0]).toNat : Int)) == 48) = true := by rw [hz]; rfl)
        | (have hz0 : ((((s[0]).toNat : Int)) == 48) = false := by rw [beq_eq_false_iff_ne]; omega)
      first
        | (have hz1 : decide (1 < s.size) = true := decide_eq_true hs1)
        | (have hz1 : decide (1 < s.size) = false := decide_eq_false hs1)
      first
        | (have hz2 : (1 : Int) < (s.size : Int) := by omega)
        | (have hz2 : ¬ (1 : Int) < (s.size : Int) := by omega)
      clear hz hl2 hs1
      go_enter Tryz.func29, Tryz.ntmps29
      go_wp2_with fail
      clear hz0 hz1 hz2 h0' h1' h2'
      go_loopw [3, 4] (fun v i wr => ∃ pos : Nat, v = .int .i64 (decV (s.data.toList.take pos)) ∧ i = .int .i64 pos ∧ wr = W ∧ pos ≤ s.size ∧ Hid (∀ c ∈ s.data.toList.take pos, dgt c = true)) (fun _ i _ => s.size - (intOf i).toNat)
      case atStart => exact ⟨0, by simp [decV], by go_num, rfl, Nat.zero_le _, Lib.hid (fun c h => by simp at h)⟩
      case round =>
        obtain ⟨pos, rfl, rfl, rfl, hpos, hok⟩ := hrel
        have hpi : (pos : Int) ≤ 10 := by omega
        have hbd := decV_bound _ hok.out
        have hpow : (10 : Int) ^ (s.data.toList.take pos).length ≤ 10 ^ 10 := by
          have h1 : (s.data.toList.take pos).length ≤ 10 := by rw [List.length_take]; omega
          have h2 : (10 : Nat) ^ (s.data.toList.take pos).length ≤ 10 ^ 10 := Nat.pow_le_pow_right (by decide) h1
          have h3 : (((10 : Nat) ^ (s.data.toList.take pos).length : Nat) : Int) ≤ ((10 ^ 10 : Nat) : Int) := Int.ofNat_le.2 h2
          simpa using h3
        have hv0 := hbd.1
        have hv1 : decV (s.data.toList.take pos) < 10000000000 := by have := hbd.2; omega
        clear hbd hpow
        by_cases hlt : pos < s.size
        · have hlt' : (pos : Int) < (s.size : Int) := by omega
          have hix : ∀ w, (Instr.index 9 (.string s) (.int .i64 (pos : Int))).run Tryz.prog w = .ok (.int .u8 (s[pos]).toNat) w := fun w => by
            rw [run_index_string _ _ _ _ _ Tryz.underlying9]; simp [hlt]
          have TKp := TK.out pos hlt
          have DS : Hid (decV (s.data.toList.take (pos + 1)) = 10 * decV (s.data.toList.take pos) + (((s[pos]).toNat : Int) - 48)) := Lib.hid (by rw [TKp, decV_snoc])
          have HN : Hid (dgt s[pos] = true → ∀ c ∈ s.data.toList.take (pos + 1), dgt c = true) := Lib.hid (fun h c hc => by
            rw [TKp] at hc
            rcases List.mem_append.1 hc with hc | hc
            · exact hok.out c hc
            · rw [List.mem_singleton.1 hc]; exact h)
          have BADp := Lib.hid (BAD.out pos hlt)
          have hdg : dgt s[pos] = decide (48 ≤ (s[pos]).toNat ∧ (s[pos]).toNat ≤ 57) := rfl
          clear TKp
          generalize decV (s.data.toList.take pos) = v at *
          generalize dgt s[pos] = dg at *
          generalize (s[pos]).toNat = n at *
          clear hlt
          by_cases hb : 48 ≤ n ∧ n ≤ 57
          · have NX := Lib.hid (HN.out (by rw [hdg]; exact decide_eq_true hb))
            have f0 : ¬ (n : Int) < 48 := by omega
            have f1 : decide ((57 : Int) < (n : Int)) = false := decide_eq_false (by omega)
            have f2 : 48 ≤ (n : Int) := by omega
            have f3 : (n : Int) ≤ 57 := by omega
            clear hb hdg HN BADp hok
            go_wp2_with fail
            go_roundw
            case rel => exact ⟨pos + 1, by rw [DS.out]; congr 1; omega, by go_num, trivial, by omega, NX⟩
            case measure => show s.size - ((pos : Int) + 1).toNat < s.size - ((pos : Int)).toNat; omega
          · have HR := Lib.hid (BADp.out (by rw [hdg]; exact decide_eq_false hb))
            clear hdg HN BADp hok
            by_cases hlo : n < 48
            · have f0 : (n : Int) < 48 := by omega
              clear hb hlo
              go_wp2_with fail
              go_ret
              exact ⟨by rw [HR.out]; rfl, rfl⟩
            · have f0 : ¬ (n : Int) < 48 := by omega
              have f1 : decide ((57 : Int) < (n : Int)) = true := decide_eq_true (by omega)
              clear hb hlo
              go_wp2_with fail
              go_ret
              exact ⟨by rw [HR.out]; rfl, rfl⟩
        · obtain rfl : pos = s.size := by omega
          have HR := Lib.hid (OKV.out hok.out)
          generalize decV (s.data.toList.take s.size) = v at *
          clear hlt hok
          go_wp2_with fail
          go_ret
          exact ⟨by rw [HR.out]; rfl, rfl⟩
end Go.Proofs.YtohodbpjcbjifaaGreatDoor
