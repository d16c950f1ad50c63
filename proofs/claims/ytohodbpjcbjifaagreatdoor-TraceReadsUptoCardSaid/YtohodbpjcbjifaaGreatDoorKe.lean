/- Word of the reference of layer 19. -/
import Derived.Test.YtohodbpjcbjifaaGreatDoorKd
namespace Go.Proofs.YtohodbpjcbjifaaGreatDoor
open Go Go.RowKit Go.Shelf Go.Sort
set_option linter.unusedVariables false
set_option linter.unusedSimpArgs false
set_option maxRecDepth 100000
set_option maxHeartbeats 3200000

theorem word_last (k : Int) (h : 1 ≤ k ∧ k ≤ 9) : ∃ (p : List UInt8) (c : UInt8), wordS k = p ++ [c] ∧ c ≠ 32 ∧ p.length ≤ 5 := by
  have hk : k = 1 ∨ k = 2 ∨ k = 3 ∨ k = 4 ∨ k = 5 ∨ k = 6 ∨ k = 7 ∨ k = 8 ∨ k = 9 := by omega
  rcases hk with rfl | rfl | rfl | rfl | rfl | rfl | rfl | rfl | rfl
  · exact ⟨[103, 105, 118, 101], 110, rfl, by decide, by decide⟩
  · exact ⟨[108, 101, 110], 116, rfl, by decide, by decide⟩
  · exact ⟨[105, 100, 108], 101, rfl, by decide, by decide⟩
  · exact ⟨[102, 114, 101], 101, rfl, by decide, by decide⟩
  · exact ⟨[101, 110], 100, rfl, by decide, by decide⟩
  · exact ⟨[115, 119, 105, 116, 99], 104, rfl, by decide, by decide⟩
  · exact ⟨[103, 111, 110], 101, rfl, by decide, by decide⟩
  · exact ⟨[100, 111, 110], 101, rfl, by decide, by decide⟩
  · exact ⟨[99, 117], 116, rfl, by decide, by decide⟩
theorem index_last (p : List UInt8) (c : UInt8) (w : World) : (Instr.index 9 (str (p ++ [c])) (.int .i64 (p.length : Int))).run Tryz.prog w = .ok (.int .u8 c.toNat) w := by
  rw [run_index_string _ _ _ _ _ Tryz.underlying9]
  have h1 : p.length < (⟨(p ++ [c]).toArray⟩ : ByteArray).size := by rw [sz]; simp
  rw [dif_pos ⟨by omega, by omega⟩]
  have e : (⟨(p ++ [c]).toArray⟩ : ByteArray)[((p.length : Int)).toNat]'(by simpa using h1) = c := by
    rw [byte_at _ _ (by simpa using h1)]
    simp [List.getD]
  rw [e]
theorem drop_last (p : List UInt8) (c : UInt8) : (⟨(p ++ [c]).toArray⟩ : ByteArray).extract 0 p.length = ⟨p.toArray⟩ := by
  rw [extract_seg]
  congr 2
  unfold seg
  simp
theorem rword_c (k : Int) (h : 1 ≤ k ∧ k ≤ 9) (W : World) :
    Calls Tryz.prog 18 #[.int .i64 k] W fun e w' => e = .returned (str (wordS k)) ∧ W = w' := by
  have WL := Lib.hid (word_last k h)
  have hk : k = 1 ∨ k = 2 ∨ k = 3 ∨ k = 4 ∨ k = 5 ∨ k = 6 ∨ k = 7 ∨ k = 8 ∨ k = 9 := by omega
  clear h
  generalize hw : wordS k = wd at *
  have HW := Lib.hid hw
  clear hw
  rcases hk with rfl | rfl | rfl | rfl | rfl | rfl | rfl | rfl | rfl
  all_goals
    go_enter Tryz.func18, Tryz.ntmps18
    go_wp2_with fail
    go_loopw [3] (fun s wr => ∃ j : Nat, s = str (wd ++ List.replicate j 32) ∧ j ≤ 5 ∧ wr = W) (fun s _ => match s with | .string b => b.size | _ => 0)
    case atStart =>
      first
        | exact ⟨0, by rw [← HW.out]; exact congrArg Value.string (by decide), by decide, rfl⟩
        | exact ⟨1, by rw [← HW.out]; exact congrArg Value.string (by decide), by decide, rfl⟩
        | exact ⟨2, by rw [← HW.out]; exact congrArg Value.string (by decide), by decide, rfl⟩
        | exact ⟨3, by rw [← HW.out]; exact congrArg Value.string (by decide), by decide, rfl⟩
    case round =>
      obtain ⟨j, rfl, hj, rfl⟩ := hrel
      cases j with
      | zero =>
        obtain ⟨p, c, hpc, hc, hpl⟩ := WL.out
        have EQ : Hid (p ++ [c] = wd) := Lib.hid hpc.symm
        rw [show wd ++ List.replicate 0 32 = p ++ [c] by rw [hpc]; simp]
        have hix := index_last p c
        have hcB : ((c.toNat : Int) == 32) = false := by
          rw [beq_eq_false_iff_ne]
          intro e
          exact hc (UInt8.toNat_inj.1 (by have : c.toNat = 32 := by omega
                                          rw [this]; rfl))
        have hpi : (p.length : Int) ≤ 5 := by omega
        generalize c.toNat = n at *
        clear hc hpc
        go_wp2_with fail
        go_ret
        exact ⟨by rw [← EQ.out]; rfl, rfl⟩
      | succ j =>
        obtain ⟨p, hp⟩ : ∃ p, p = wd ++ List.replicate j 32 := ⟨_, rfl⟩
        have EQ : Hid (p = wd ++ List.replicate j 32) := Lib.hid hp
        have hpl : p.length ≤ 11 := by
          obtain ⟨q, c, hpc, _, hql⟩ := WL.out
          rw [hp, hpc]; simp; omega
        rw [show wd ++ List.replicate (j + 1) 32 = p ++ [32] by rw [hp, List.replicate_succ', List.append_assoc]]
        have hix := index_last p 32
        have hdl := drop_last p 32
        have hpi : (p.length : Int) ≤ 11 := by omega
        clear hp
        go_wp2_with fail
        go_roundw
        case rel => exact ⟨j, by rw [← EQ.out], by omega, trivial⟩
        case measure =>
          show (⟨p.toArray⟩ : ByteArray).size < (⟨(p ++ [32]).toArray⟩ : ByteArray).size
          rw [sz, sz]; simp
end Go.Proofs.YtohodbpjcbjifaaGreatDoor
