/- The walk of LexOptions. -/
import Derived.Test.YtdcnlgjngfmbcaaDoorNw
import Derived.Test.YtdcnlgjngfmbcaaDoorNr
import Derived.Test.YtdcnlgjngfmbcaaDoorNu
namespace Go.Proofs.YtdcnlgjngfmbcaaDoor
open Go Go.RowKit Go.Shelf
set_option linter.unusedVariables false
set_option linter.unusedSimpArgs false
set_option maxRecDepth 100000
set_option maxHeartbeats 1600000

theorem optS_len (l keys : List (List UInt8)) : (optS l keys).1.length ≤ keys.length := by
  rw [optS_chk]
  split
  · simp
  · split <;> simp
theorem lexOptions_walk (l : List (List UInt8)) (v : Value) {W : World} (hv : RS W v l) (hl : sumB l ≤ 1048576) (keys : List (List UInt8)) (kv : Value) (hk : RS W kv keys) (hkl : sumB keys ≤ 1048576) (_W : World) (E : Env W) :
    Calls Tryd.prog 4 #[v, kv] W fun e w' => e = .returned (.bool true) ∧ Below W.heap.size W w' := by
  have LB := sumB_bounds l
  have KB := sumB_bounds keys
  have OL := optS_len l keys
  have hjl : (Lib.join l [32]).length ≤ 140737488355328 := by
    by_cases h : l = []
    · subst h; simp [Lib.join_nil]
    · have := join_sum l h; omega
  have HV := Lib.hid hv
  have HK := Lib.hid hk
  have EE := Lib.hid E
  have TL := Lib.hid (fun w (h : RS w v l) => twin_c l v w h (by omega))
  have TK := Lib.hid (fun w (h : RS w kv keys) => twin_c keys kv w h (by omega))
  have J1 := Lib.hid (fun u w (h : RS w u l) => join_any l u w h (by omega) (fun k hk => by have := LB.2 k hk; omega) hjl)
  have J2 := Lib.hid (fun w (h : RS w v l) => rjoin_any l v w h (by omega) (fun k hk => by have := LB.2 k hk; omega) (by omega))
  have O1 := Lib.hid (fun u ku w (h : RS w u l) (h2 : RS w ku keys) => options_any l keys u ku w h h2 (by omega) (by omega))
  have O2 := Lib.hid (fun w (h : RS w v l) (h2 : RS w kv keys) => roptions_any l keys v kv w h h2 (by omega) (by omega))
  have T1 := Lib.hid (fun a b w (h : RS w a (optS l keys).1) (h2 : RS w b (optS l keys).1) => texts_s _ a b w h h2 (by omega))
  have T2 := Lib.hid (fun a w (h : RS w a l) (h2 : RS w v l) => texts_s l a v w h h2 (by omega))
  have T3 := Lib.hid (fun a w (h : RS w a keys) (h2 : RS w kv keys) => texts_s keys a kv w h h2 (by omega))
  have WC := Lib.hid works_c
  have NO := Lib.hid num_of
  clear hv hk E LB KB OL hjl hl hkl
  generalize joinS l = RJ at *
  generalize optS l keys = RO at *
  go_enter Tryd.func4, Tryd.ntmps4
  go_wp2_with fail
  refine (TL.out W HV.out).mono ?_
  rintro e w1 ⟨m, rfl, rm, b1⟩
  have B1 := Lib.hid b1
  have RM1 := Lib.hid rm
  clear rm b1 TL
  go_wp2_with fail
  refine (TK.out w1 (HK.out.below B1.out)).mono ?_
  rintro e w2 ⟨ku, rfl, rk, b2⟩
  have B2 := Lib.hid (B1.out.trans (b2.mono B1.out.size))
  have RM2 := Lib.hid (RM1.out.below b2)
  have RK2 := Lib.hid rk
  clear rk b2 TK B1 RM1
  go_wp2_with fail
  refine (J1.out m w2 RM2.out).mono ?_
  rintro e w3 ⟨rfl, b3⟩
  have B3 := Lib.hid (B2.out.trans (b3.mono B2.out.size))
  have RM3 := Lib.hid (RM2.out.below b3)
  have RK3 := Lib.hid (RK2.out.below b3)
  clear b3 J1 B2 RM2 RK2
  go_wp2_with fail
  refine (J2.out w3 (HV.out.below B3.out)).mono ?_
  rintro e w4 ⟨rfl, b4⟩
  have B4 := Lib.hid (B3.out.trans (b4.mono B3.out.size))
  have RM4 := Lib.hid (RM3.out.below b4)
  have RK4 := Lib.hid (RK3.out.below b4)
  clear b4 J2 B3 RM3 RK3
  go_wp2_with fail
  refine (O1.out m ku w4 RM4.out RK4.out).mono ?_
  rintro e w5 ⟨c1, rfl, rc, b5⟩
  have B5 := Lib.hid (B4.out.trans (b5.mono B4.out.size))
  have RM5 := Lib.hid (RM4.out.below b5)
  have RK5 := Lib.hid (RK4.out.below b5)
  have RC5 := Lib.hid rc
  clear b5 rc O1 B4 RM4 RK4
  go_wp2_with fail
  refine (O2.out w5 (HV.out.below B5.out) (HK.out.below B5.out)).mono ?_
  rintro e w6 ⟨d1, rfl, rd, b6⟩
  have B6 := Lib.hid (B5.out.trans (b6.mono B5.out.size))
  have RM6 := Lib.hid (RM5.out.below b6)
  have RK6 := Lib.hid (RK5.out.below b6)
  have RC6 := Lib.hid (RC5.out.below b6)
  have RD6 := Lib.hid rd
  clear b6 rd O2 B5 RM5 RK5 RC5
  have h1 : (RJ.1 == RJ.1) = true := by simp
  have h2 : (RJ.2 == RJ.2) = true := by simp
  have h3 : (RO.2 == RO.2) = true := by simp
  go_wp2_with fail
  refine (NO.out _ _).mono ?_
  rintro e w' ⟨rfl, rfl⟩
  go_wp2_with fail
  refine (T1.out c1 d1 w6 RC6.out RD6.out).mono ?_
  rintro e w7 ⟨rfl, n7, rfl⟩
  have RM7 := Lib.hid (RM6.out.below (below_dr w6 n7))
  have RK7 := Lib.hid (RK6.out.below (below_dr w6 n7))
  have B7 : Hid (Below W.heap.size W (w6.drewN n7)) := Lib.hid (B6.out.trans ((below_dr w6 n7).mono B6.out.size))
  clear RM6 RK6 RC6 RD6 B6 T1
  generalize w6.drewN n7 = w7 at *
  go_wp2_with fail
  refine (NO.out _ _).mono ?_
  rintro e w' ⟨rfl, rfl⟩
  go_wp2_with fail
  refine (T2.out m w7 RM7.out (HV.out.below B7.out)).mono ?_
  rintro e w8 ⟨rfl, n8, rfl⟩
  have RK8 := Lib.hid (RK7.out.below (below_dr w7 n8))
  have B8 : Hid (Below W.heap.size W (w7.drewN n8)) := Lib.hid (B7.out.trans ((below_dr w7 n8).mono B7.out.size))
  clear RM7 RK7 B7 T2
  generalize w7.drewN n8 = w8 at *
  go_wp2_with fail
  refine (T3.out ku w8 RK8.out (HK.out.below B8.out)).mono ?_
  rintro e w9 ⟨rfl, n9, rfl⟩
  have B9 : Hid (Below W.heap.size W (w8.drewN n9)) := Lib.hid (B8.out.trans ((below_dr w8 n9).mono B8.out.size))
  clear RK8 B8 T3
  generalize w8.drewN n9 = w9 at *
  go_wp2_with fail
  refine (WC.out _ (EE.out.below B9.out)).mono ?_
  rintro e w10 ⟨rfl, b10⟩
  have B10 := Lib.hid (B9.out.trans (b10.mono B9.out.size))
  clear b10 B9
  go_wp2_with fail
  go_ret
  exact ⟨rfl, B10.out⟩
end Go.Proofs.YtdcnlgjngfmbcaaDoor
