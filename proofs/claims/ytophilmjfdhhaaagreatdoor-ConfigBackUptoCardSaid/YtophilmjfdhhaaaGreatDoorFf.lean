/- Reserves, priorities, rows of numbers of layer 25, both sides; the reference's split and Number. -/
import Derived.Test.YtophilmjfdhhaaaGreatDoorFb
namespace Go.Proofs.YtophilmjfdhhaaaGreatDoor
open Go Go.RowKit Go.Shelf Go.Sort
set_option linter.unusedVariables false
set_option linter.unusedSimpArgs false
set_option maxRecDepth 100000
set_option maxHeartbeats 1600000

theorem Tryz.infoStrF : (Tryz.prog.info? 9).map (fun i => (i.zero, i.size, i.bytes)) = some (some (.string ⟨#[]⟩), 1, 16) := by kernel_rfl
theorem info_of1F {P : Program} {e : TypeId} {z : Value} {s b : Nat} (h : (P.info? e).map (fun i => (i.zero, i.size, i.bytes)) = some (some z, s, b)) : ∃ i, P.info? e = some i ∧ i.zero = some z ∧ i.size = s ∧ i.bytes = b := by
  cases hi : P.info? e with
  | none => rw [hi] at h; cases h
  | some i => rw [hi] at h; simp at h; exact ⟨i, rfl, h.1, h.2.1, h.2.2⟩
theorem rsplit_any (s : ByteArray) (c : UInt8) (W : World) (h : s.size ≤ 16777216) :
    Calls Tryz.prog 26 #[.string s, .int .u8 c.toNat] W fun e w' => ∃ v, e = .returned v ∧ RS w' v (splitC c [] s.data.toList) ∧ Below W.heap.size W w' := by
  obtain ⟨i0, hi, hz0, hz1, hz2⟩ := info_of1F Tryz.infoStrF
  have hln : s.size = s.data.toList.length := by rw [Array.length_toList]; rfl
  have HR : Hid (CInv c s.data.toList (splitC c [] s.data.toList) 0 0 []) := Lib.hid ⟨Nat.le_refl _, .inl ⟨Nat.zero_le _, by simp [seg_self]⟩⟩
  generalize splitC c [] s.data.toList = R at *
  have HLN := Lib.hid hln
  have BA := Lib.hid (fun i (h : i < s.size) => (byte_at s i h).symm)
  clear hln
  have hss : (s.size : Int) ≤ 16777216 := by omega
  go_enter Tryz.func26, Tryz.ntmps26
  go_wp2_with fail
  go_loopw [5, 6, 7] (fun a f i wr => ∃ (i' f' : Nat) (o : List (List UInt8)), f = .int .i64 f' ∧ i = .int .i64 i' ∧ i' ≤ s.size + 1 ∧ f' ≤ i' ∧ o.length ≤ i' ∧ wr.ownsRow W.heap.size 9 1 a o.length (o.map str) ∧ Below W.heap.size W wr ∧ Hid (CInv c s.data.toList R i' f' o)) (fun _ _ i _ => s.size + 1 - (intOf i).toNat)
  case atStart => exact ⟨0, 0, [], by go_num, by go_num, by omega, by omega, by simp, World.ownsRow_nil _ _ _ _, Below.refl _ _, HR⟩
  case round =>
    obtain ⟨i, f, o, rfl, rfl, hile, hfi, hol, hown, hbe, hr⟩ := hrel
    have hib : (i : Int) ≤ 16777217 := by omega
    have OWN := Lib.hid hown
    have HBE := Lib.hid hbe
    have HSZ := Lib.hid hbe.size
    obtain ⟨pa, ca, rfl⟩ := own_form1 hown
    clear hown hbe
    by_cases hdone : i = s.size + 1
    · have HX : Hid (R = o) := Lib.hid (by
        rcases hr.out.2 with ⟨h, _⟩ | ⟨_, h⟩
        · have := HLN.out; omega
        · exact h)
      have OW := Lib.hid (RS_own OWN.out).1
      have hgt : ¬ (i : Int) ≤ (s.size : Int) := by omega
      clear hdone
      go_wp2_with fail
      go_ret
      exact ⟨_, rfl, by rw [HX.out]; exact OW.out, HBE.out⟩
    · have hil : i ≤ s.size := by omega
      have hile2 : (i : Int) ≤ (s.size : Int) := by omega
      have MB := Lib.hid (show o.length + 1 ≤ maxLen ∧ (o.length + 1) * 16 ≤ 140737488355328 from ⟨by unfold maxLen; omega, by omega⟩)
      by_cases hend : i = s.size
      · have NX := Lib.hid (hr.out.piece (.inl (by have := HLN.out; omega)))
        have he : ((i : Int) == (s.size : Int)) = true := by rw [beq_iff_eq]; omega
        have hfs : (f : Int) ≤ (i : Int) := by omega
        clear hdone hend hil
        go_wp2_with (at_builtin; rw [extract_seg]; refine appendN2 (W := W) rfl _ _ 40 rfl W.heap.size 9 i0 _ 1 16 Tryz.underlying40 hi hz0 hz1 hz2 rfl (by decide) _ _ _ rfl OWN.out _ [str (seg s.data.toList f i)] _ rfl rfl rfl (by intro u hu; simp at hu; subst hu; rfl) MB.out.1 MB.out.2 HSZ.out HBE.out ?_; intro m' w3 hown3 hbe3 hgr)
        go_roundw
        case rel => exact ⟨i + 1, i + 1, o ++ [seg s.data.toList f i], by go_num, by go_num, by omega, by omega, by simp; omega, by rw [List.length_append, List.map_append]; exact hown3, hbe3, NX⟩
        case measure => show s.size + 1 - ((i : Int) + 1).toNat < s.size + 1 - ((i : Int)).toNat; omega
      · have hlt : i < s.size := by omega
        have he : ((i : Int) == (s.size : Int)) = false := by rw [beq_eq_false_iff_ne]; omega
        have hlt' : (i : Int) < (s.size : Int) := by omega
        have hix : ∀ w, (Instr.index 9 (.string s) (.int .i64 (i : Int))).run Tryz.prog w = .ok (.int .u8 (s[i]).toNat) w := fun w => by
          rw [run_index_string _ _ _ _ _ Tryz.underlying9]; simp [hlt]
        by_cases hb : s.data.toList.getD i 0 = c
        · have NX := Lib.hid (hr.out.piece (.inr ⟨by have := HLN.out; omega, hb⟩))
          have hb32 : (((s[i]).toNat : Int) == (c.toNat : Int)) = true := by rw [BA.out i hlt] at hb; rw [hb]; exact beq_self_eq_true _
          generalize (s[i]).toNat = n at *
          have hfs : (f : Int) ≤ (i : Int) := by omega
          clear hdone hend hil hb hlt
          go_wp2_with (at_builtin; rw [extract_seg]; refine appendN2 (W := W) rfl _ _ 40 rfl W.heap.size 9 i0 _ 1 16 Tryz.underlying40 hi hz0 hz1 hz2 rfl (by decide) _ _ _ rfl OWN.out _ [str (seg s.data.toList f i)] _ rfl rfl rfl (by intro u hu; simp at hu; subst hu; rfl) MB.out.1 MB.out.2 HSZ.out HBE.out ?_; intro m' w3 hown3 hbe3 hgr)
          go_roundw
          case rel => exact ⟨i + 1, i + 1, o ++ [seg s.data.toList f i], by go_num, by go_num, by omega, by omega, by simp; omega, by rw [List.length_append, List.map_append]; exact hown3, hbe3, NX⟩
          case measure => show s.size + 1 - ((i : Int) + 1).toNat < s.size + 1 - ((i : Int)).toNat; omega
        · have NX := Lib.hid (hr.out.go (by have := HLN.out; omega) hb)
          have hb32 : (((s[i]).toNat : Int) == (c.toNat : Int)) = false := by
            rw [BA.out i hlt] at hb
            rw [beq_eq_false_iff_ne]
            intro e
            exact hb (UInt8.toNat_inj.1 (by omega))
          generalize (s[i]).toNat = n at *
          clear hdone hend hil hb hlt
          go_wp2_with fail
          go_roundw
          case rel => exact ⟨i + 1, f, o, by go_num, by go_num, by omega, by omega, by omega, OWN.out, HBE.out, NX⟩
          case measure => show s.size + 1 - ((i : Int) + 1).toNat < s.size + 1 - ((i : Int)).toNat; omega

/-- An Errno as an error. -/
abbrev errN (n : Int) : Value := .iface 64 (.int .i64 n)
def errOf (n : Int) : Value := if n = 0 then .nilIface else errN n
/-- A reserve that may be; its share. -/
def okR (q p : Int) : Bool := decide (1 ≤ q) && decide (p ≤ 1048576) && decide (q ≤ p)
def shareI (q p : Int) : Int := (q * 1048576 + p - 1) / p
theorem okR_out {q p : Int} (h : okR q p = true) : 1 ≤ q ∧ p ≤ 1048576 ∧ q ≤ p := by
  unfold okR at h; simp at h; omega
theorem okR_not {q p : Int} (h : okR q p = false) : q < 1 ∨ (1 ≤ q ∧ 1048576 < p) ∨ (1 ≤ q ∧ p ≤ 1048576 ∧ p < q) := by
  unfold okR at h; simp at h; omega
theorem valid_c (q p : Int) (W : World) :
    Calls Tryz.prog 74 #[.agg #[.int .i64 q, .int .i64 p]] W fun e w' => e = .returned (if okR q p then .nilIface else errN 2) ∧ Below W.heap.size W w' := by
  cases h : okR q p with
  | true =>
    obtain ⟨h1, h2, h3⟩ := okR_out h
    have n1 : ¬ q < 1 := by omega
    have n2 : ¬ 1048576 < p := by omega
    have n3 : ¬ p < q := by omega
    clear h
    go_enter Tryz.func74, Tryz.ntmps74
    go_wp2_with fail
    go_ret
    exact ⟨rfl, (Below.refl _ _).alloc (Nat.le_refl _) _⟩
  | false =>
    rcases okR_not h with h1 | ⟨h1, h2⟩ | ⟨h1, h2, h3⟩
    · clear h
      go_enter Tryz.func74, Tryz.ntmps74
      go_wp2_with fail
      go_ret
      exact ⟨rfl, (Below.refl _ _).alloc (Nat.le_refl _) _⟩
    · have n1 : ¬ q < 1 := by omega
      clear h
      go_enter Tryz.func74, Tryz.ntmps74
      go_wp2_with fail
      go_ret
      exact ⟨rfl, (Below.refl _ _).alloc (Nat.le_refl _) _⟩
    · have n1 : ¬ q < 1 := by omega
      have n2 : ¬ 1048576 < p := by omega
      clear h
      go_enter Tryz.func74, Tryz.ntmps74
      go_wp2_with fail
      go_ret
      exact ⟨rfl, (Below.refl _ _).alloc (Nat.le_refl _) _⟩
theorem rvalid_c (q p : Int) (W : World) :
    Calls Tryz.prog 54 #[.agg #[.int .i64 q, .int .i64 p]] W fun e w' => e = .returned (.int .i64 (if okR q p then 0 else 2)) ∧ Below W.heap.size W w' := by
  cases h : okR q p with
  | true =>
    obtain ⟨h1, h2, h3⟩ := okR_out h
    have n1 : ¬ q < 1 := by omega
    have n2 : ¬ 1048576 < p := by omega
    have n3 : ¬ p < q := by omega
    clear h
    go_enter Tryz.func54, Tryz.ntmps54
    go_wp2_with fail
    go_ret
    exact ⟨rfl, (Below.refl _ _).alloc (Nat.le_refl _) _⟩
  | false =>
    rcases okR_not h with h1 | ⟨h1, h2⟩ | ⟨h1, h2, h3⟩
    · clear h
      go_enter Tryz.func54, Tryz.ntmps54
      go_wp2_with fail
      go_ret
      exact ⟨rfl, (Below.refl _ _).alloc (Nat.le_refl _) _⟩
    · have n1 : ¬ q < 1 := by omega
      clear h
      go_enter Tryz.func54, Tryz.ntmps54
      go_wp2_with fail
      go_ret
      exact ⟨rfl, (Below.refl _ _).alloc (Nat.le_refl _) _⟩
    · have n1 : ¬ q < 1 := by omega
      have n2 : ¬ 1048576 < p := by omega
      clear h
      go_enter Tryz.func54, Tryz.ntmps54
      go_wp2_with fail
      go_ret
      exact ⟨rfl, (Below.refl _ _).alloc (Nat.le_refl _) _⟩
theorem share_bounds {q p : Int} (h : okR q p = true) : 0 ≤ shareI q p ∧ shareI q p ≤ 1048576 := by
  obtain ⟨h1, h2, h3⟩ := okR_out h
  unfold shareI
  refine ⟨Int.ediv_nonneg (by omega) (by omega), ?_⟩
  have : (q * 1048576 + p - 1) / p < 1048577 := Int.ediv_lt_of_lt_mul (by omega) (by
    have h4 : q * 1048576 ≤ p * 1048576 := Int.mul_le_mul_of_nonneg_right h3 (by decide)
    rw [Int.mul_comm 1048577 p] 
    omega)
  omega
theorem units_c (q p : Int) (h : okR q p = true) (W : World) :
    Calls Tryz.prog 67 #[.agg #[.int .i64 q, .int .i64 p]] W fun e w' => e = .returned (.int .i64 (shareI q p)) ∧ Below W.heap.size W w' := by
  obtain ⟨h1, h2, h3⟩ := okR_out h
  have hq : q ≤ 1048576 := by omega
  have hb := share_bounds h
  have ht : (q * 1048576 + p - 1).tdiv p = shareI q p := Int.tdiv_eq_ediv_of_nonneg (by omega)
  have hp0 : ¬ p = 0 := by omega
  have hp1 : (p == 0) = false := by rw [beq_eq_false_iff_ne]; exact hp0
  generalize hS : shareI q p = S at *
  clear h
  go_enter Tryz.func67, Tryz.ntmps67
  go_wp2_with fail
  go_ret
  refine ⟨?_, (Below.refl _ _).alloc (Nat.le_refl _) _⟩
  first | rfl | (rw [← ht]; rfl)
theorem share_c (q p : Int) (h : okR q p = true) (W : World) :
    Calls Tryz.prog 66 #[.agg #[.int .i64 q, .int .i64 p]] W fun e w' => e = .returned (.tuple #[.int .i64 (shareI q p), .nilIface]) ∧ Below W.heap.size W w' := by
  have VC := Lib.hid (fun W => valid_c q p W)
  rw [h] at VC
  obtain ⟨h1, h2, h3⟩ := okR_out h
  have hq : q ≤ 1048576 := by omega
  have hb := share_bounds h
  have ht : (q * 1048576 + p - 1).tdiv p = shareI q p := Int.tdiv_eq_ediv_of_nonneg (by omega)
  have hp0 : ¬ p = 0 := by omega
  have hp1 : (p == 0) = false := by rw [beq_eq_false_iff_ne]; exact hp0
  generalize hS : shareI q p = S at *
  obtain ⟨w0, hw0⟩ : ∃ w0, w0 = W.alloc (.cells #[.int .i64 q, .int .i64 p] 43) := ⟨_, rfl⟩
  have b0 : Below W.heap.size W w0 := by rw [hw0]; exact (Below.refl _ _).alloc (Nat.le_refl _) _
  have C : w0.heap[W.heap.size]? = some (.cells #[.int .i64 q, .int .i64 p] 43) := by rw [hw0]; exact new_blk _
  have hs0 : w0.heap.size = W.heap.size + 1 := by rw [hw0]; simp
  have HW := Lib.hid hw0
  clear h hw0
  go_enter Tryz.func66, Tryz.ntmps66
  go_wp2_with (first | (go_at_call 74; rw [← HW.out]; refine (VC.out w0).mono ?_; rintro e w1 ⟨rfl, hb1⟩; have c0 := two_a ((hb1.block _ (by omega)).trans C); have c1 := two_b ((hb1.block _ (by omega)).trans C)))
  go_ret2
  refine ⟨?_, b0.trans (hb1.mono (by omega))⟩
  first | rfl | (rw [← ht]; rfl)
end Go.Proofs.YtophilmjfdhhaaaGreatDoor
