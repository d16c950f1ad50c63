/- Read of the reference of layer 19 at every text. -/
import Derived.Test.YtohodbpjcbjifaaGreatDoorKf
import Derived.Test.YtohodbpjcbjifaaGreatDoorKc
import Derived.Deep.RegionHeld3
import Derived.Deep.DeepCutAuto
namespace Go.Proofs.YtohodbpjcbjifaaGreatDoor
open Go Go.RowKit Go.Shelf Go.Sort
set_option linter.unusedVariables false
set_option linter.unusedSimpArgs false
set_option maxRecDepth 100000
set_option maxHeartbeats 3200000

theorem rread0_len (l : List UInt8) (W : World) (hs : l.length ≤ 16777216) (h5 : (splitC 32 [] l).length ≠ 5) :
    Calls Tryz.prog 11 #[str l] W fun e w' => e = .returned (.tuple #[mZero.val, .int .i64 4]) ∧ Below W.heap.size W w' := by
  have f0 := five_new W mZero
  have b0 : Below W.heap.size W (W.alloc (.cells #[.int .i64 mZero.t, .int .i64 mZero.k, .int .i64 mZero.h, .int .i64 mZero.j, .int .i64 mZero.n] 24)) := (Below.refl _ _).alloc (Nat.le_refl _) _
  obtain ⟨w0, hw0⟩ : ∃ w0, w0 = W.alloc (.cells #[.int .i64 mZero.t, .int .i64 mZero.k, .int .i64 mZero.h, .int .i64 mZero.j, .int .i64 mZero.n] 24) := ⟨_, rfl⟩
  rw [← hw0] at f0 b0
  have HW : Hid (w0 = W.alloc (.cells #[.int .i64 0, .int .i64 0, .int .i64 0, .int .i64 0, .int .i64 0] 24)) := Lib.hid hw0
  have SP := Lib.hid (rcut_any ⟨l.toArray⟩ w0 (by rw [sz]; exact hs))
  have B0 := Lib.hid b0
  have F0 := Lib.hid f0
  have h6' : ((splitC 32 [] l).length != 5) = true := by simpa using h5
  have h7' : (((splitC 32 [] l).length : Int) != 5) = true := by rw [bne_iff_ne]; omega
  clear b0 f0 hw0 h5
  simp only at SP
  generalize splitC 32 [] l = ws at *
  go_enter Tryz.func11, Tryz.ntmps11
  go_wp2_with fail
  rw [← HW.out]
  refine SP.out.mono ?_
  rintro e w1 ⟨v, rfl, rs, b1⟩
  have F1 := F0.out.below b1
  have B1 := Lib.hid (B0.out.trans (b1.mono B0.out.size))
  obtain ⟨p, c, rfl, _⟩ := RS.out rs
  have k0 := F1.c0
  have k1 := F1.c1
  have k2 := F1.c2
  have k3 := F1.c3
  have k4 := F1.c4
  have g0 := F1.f
  have HL := Lib.hid (set5_load F1 mZero)
  have HB := Lib.hid (set5_below B1.out (Nat.le_refl W.heap.size) mZero)
  clear rs b1
  go_wp2_with fail
  (try simp only [Exit.inBlock, Exit.then])
  refine bodyPost_ret (v := .tuple #[mZero.val, .int .i64 4]) ?_ rfl ⟨rfl, HB.out⟩
  rw [results_cell_tmp rfl]
  have hld := HL.out
  simp only [mZero] at hld
  simp [asAddr, Result.andThen, hld]
  rfl
theorem rnum_b (x : List UInt8) (w : World) : Calls Tryz.prog 29 #[str x] w fun e w' => e = .returned (.int .i64 (rNum x)) ∧ Below w.heap.size w w' :=
  (rnumber_any ⟨x.toArray⟩ w).mono fun _ _ ⟨a, b⟩ => ⟨a, b ▸ Below.refl _ _⟩
theorem rread0_five (l : List UInt8) (W : World) (hs : l.length ≤ 16777216) (h5 : (splitC 32 [] l).length = 5) :
    Calls Tryz.prog 11 #[str l] W fun e w' => e = .returned (.tuple #[(mReadR l).1.val, .int .i64 (mReadR l).2]) ∧ Below W.heap.size W w' := by
  have f0 := five_new W mZero
  have b0 : Below W.heap.size W (W.alloc (.cells #[.int .i64 mZero.t, .int .i64 mZero.k, .int .i64 mZero.h, .int .i64 mZero.j, .int .i64 mZero.n] 24)) := (Below.refl _ _).alloc (Nat.le_refl _) _
  obtain ⟨w0, hw0⟩ : ∃ w0, w0 = W.alloc (.cells #[.int .i64 mZero.t, .int .i64 mZero.k, .int .i64 mZero.h, .int .i64 mZero.j, .int .i64 mZero.n] 24) := ⟨_, rfl⟩
  rw [← hw0] at f0 b0
  have HW : Hid (w0 = W.alloc (.cells #[.int .i64 0, .int .i64 0, .int .i64 0, .int .i64 0, .int .i64 0] 24)) := Lib.hid hw0
  have SP := Lib.hid (rcut_any ⟨l.toArray⟩ w0 (by rw [sz]; exact hs))
  have B0 := Lib.hid b0
  have F0 := Lib.hid f0
  have HN : Hid (l ≠ []) := Lib.hid (by rintro rfl; simp [splitC] at h5)
  have HR : Hid (mReadR l = if (hRead ((splitC 32 [] l).getD 2 [])).2 = 0 ∧ (hRead ((splitC 32 [] l).getD 3 [])).2 = 0 ∧ mText (mOf rNum (splitC 32 [] l)) = l then (mOf rNum (splitC 32 [] l), 0) else (mZero, 4)) := Lib.hid (by unfold mReadR; rw [if_neg (fun h => h h5)])
  clear b0 f0 hw0
  simp only at SP
  generalize splitC 32 [] l = ws at *
  obtain ⟨x0, x1, x2, x3, x4, rfl⟩ : ∃ x0 x1 x2 x3 x4, ws = [x0, x1, x2, x3, x4] := by
    match ws, h5 with
    | [a, b, c, d, e], _ => exact ⟨a, b, c, d, e, rfl⟩
  have HR : Hid (mReadR l = if (hRead x2).2 = 0 ∧ (hRead x3).2 = 0 ∧ mText ⟨rNum x0, kindOf x1, (hRead x2).1, (hRead x3).1, rNum x4⟩ = l then (⟨rNum x0, kindOf x1, (hRead x2).1, (hRead x3).1, rNum x4⟩, 0) else (mZero, 4)) := HR
  clear h5
  go_enter Tryz.func11, Tryz.ntmps11
  go_wp2_with fail
  rw [← HW.out]
  refine SP.out.mono ?_
  rintro e w1 ⟨v, rfl, rs, b1⟩
  have F1 := F0.out.below b1
  have B1 := Lib.hid (B0.out.trans (b1.mono B0.out.size))
  obtain ⟨p, c, rfl, hr⟩ := RS.out rs
  have h5 : [x0, x1, x2, x3, x4].length = 5 := rfl
  rw [h5] at hr
  obtain ⟨bw, ow, rfl, hlt, g0⟩ := hr 0 (by decide)
  have gk : Words w1 bw ow x0 x1 x2 x3 x4 := by
    refine ⟨hlt, ?_, ?_, ?_, ?_, ?_⟩
    · exact g0
    · obtain ⟨b', o', he, _, g⟩ := hr 1 (by decide); cases he; exact g
    · obtain ⟨b', o', he, _, g⟩ := hr 2 (by decide); cases he; exact g
    · obtain ⟨b', o', he, _, g⟩ := hr 3 (by decide); cases he; exact g
    · obtain ⟨b', o', he, _, g⟩ := hr 4 (by decide); cases he; exact g
  have G1 := Lib.hid gk
  have R1 := Lib.hid F1
  rw [h5]
  clear rs b1 hr gk h5 hlt g0 F0 B0
  have cz0 := G1.out.c0
  have cz4 := G1.out.c4
  have nw0 := World.new_ne w1 ⟨bw, ow, none⟩ cz0
  have nw4 := World.new_ne w1 ⟨bw, ow + 4, none⟩ cz4
  have NB := Lib.hid (fun x w => rnumber_any ⟨(x : List UInt8).toArray⟩ w)
  have HLT := G1.out.lt
  simp only at NB
  have N0 := Lib.hid (NB.out x0)
  have N4 := Lib.hid (NB.out x4)
  generalize rNum x0 = a0 at *
  generalize rNum x4 = a4 at *
  go_upto_region 4 with fail
  go_cut [5] (fun s5 wx => ∃ M, s5 = .pointer (some ⟨M, 0, none⟩) ∧ RdS W wx M bw ow x0 x1 x2 x3 x4 ⟨a0, 0, 0, 0, a4⟩)
  case first =>
    go_region_held3 (fun w' => w'.cell? ⟨bw, ow, none⟩ = some (str x0) ∧ w'.cell? ⟨bw, ow + 4, none⟩ = some (str x4)) (go_keep) ((go_at_call 29; (first | (with_reducible refine (N0.out _).mono ?_) | (with_reducible refine (N4.out _).mono ?_)); rintro e w' ⟨rfl, rfl⟩))
    all_goals
      go_wp2_with fail
      go_meet
      exact ⟨_, rfl, five_new w1 ⟨a0, 0, 0, 0, a4⟩, R1.out.below ((Below.refl _ _).alloc (Nat.le_refl _) _).drew, G1.out.below ((Below.refl _ _).alloc (Nat.le_refl _) _).drew, (B1.out.alloc B1.out.size _).drew, R1.out.lt, by omega⟩
  case rest =>
    obtain ⟨M, rfl, hS0⟩ := hcut
    have S4 := Lib.hid hS0
    clear hS0 cz0 cz4 nw0 nw4 HLT
    have RD := Lib.hid (fun (x : List UInt8) w => show Calls Tryz.prog 30 #[str x] w fun e w' => e = .returned (.tuple #[.int .i64 (hRead x).1, .int .i64 (hRead x).2]) ∧ Below w.heap.size w w' from by have h := rread_any ⟨x.toArray⟩ w; rw [← read_same] at h; exact h)
    generalize hq2 : hRead x2 = y2 at *
    generalize hq3 : hRead x3 = y3 at *
    have RD2 : Hid (∀ w, Calls Tryz.prog 30 #[str x2] w fun e w' => e = .returned (.tuple #[.int .i64 y2.1, .int .i64 y2.2]) ∧ Below w.heap.size w w') := Lib.hid (fun w => by have h := RD.out x2 w; rw [hq2] at h; exact h)
    have RD3 : Hid (∀ w, Calls Tryz.prog 30 #[str x3] w fun e w' => e = .returned (.tuple #[.int .i64 y3.1, .int .i64 y3.2]) ∧ Below w.heap.size w w') := Lib.hid (fun w => by have h := RD.out x3 w; rw [hq3] at h; exact h)
    obtain ⟨a2, e2⟩ := y2
    obtain ⟨a3, e3⟩ := y3
    simp only at RD2 RD3 HR
    clear hq2 hq3 RD
    go_wp2_with fail
    go_loopw [6] (fun kv wr => ∃ j : Nat, kv = .int .i64 ((j : Int) + 1) ∧ j ≤ 9 ∧ Hid (RdS W wr M bw ow x0 x1 x2 x3 x4 ⟨a0, kindF x1 j, 0, 0, a4⟩)) (fun kv _ => 10 - (intOf kv).toNat)
    case atStart => exact ⟨0, by go_num, by decide, S4⟩
    case round =>
      obtain ⟨j, rfl, hj, hS⟩ := hrel
      have hji : (j : Int) ≤ 9 := by omega
      by_cases hlt : j < 9
      · have hlt' : ¬ 9 < (j : Int) + 1 := by omega
        have kw : ∀ d os, (grow (redrawn wr d) os).cell? ⟨bw, ow + 1, none⟩ = some (str x1) := fun d os => cell_regrown hS.out.G.c1 d os
        have WD := Lib.hid (fun d os => Calls.regrown_of (rword_b ((j : Int) + 1) (by omega) (grow (redrawn wr d) os)))
        have KS := Lib.hid (kindF_step x1 j)
        generalize wordS ((j : Int) + 1) = wj at *
        by_cases hw : x1 = wj
        · have hwB : (x1 == wj) = true := by simpa using hw
          have NX : Hid (kindF x1 (j + 1) = (j : Int) + 1) := Lib.hid (by rw [KS.out, if_pos hw.symm])
          clear hw KS
          go_wp2_with fail
          refine wp_region_quiet_below (by kernel_rfl) (by kernel_rfl) ?_
          repeat (quiet_step (with_reducible exact WD.out _ _))
          refine wpQuiet_nil ?_
          intro _ hw'
          obtain ⟨⟨dq, osq⟩, rfl⟩ := hw'
          have S5 := hS.out.below (below_regrown wr dq osq)
          generalize grow (redrawn wr dq) osq = w5 at *
          have k1 := S5.F.c1
          have q1 := S5.F.f 1
          have S6 := Lib.hid (S5.put (S5.F.set1 ((j : Int) + 1)))
          clear S5 kw
          go_wp2_with fail
          go_roundw
          case rel => exact ⟨j + 1, by go_num, by omega, by rw [NX.out]; exact S6⟩
          case measure => show 10 - (((j : Int) + 1 + 1)).toNat < 10 - ((j : Int) + 1).toNat; omega
        · have hwB : (x1 == wj) = false := by simpa using hw
          have NX : Hid (kindF x1 (j + 1) = kindF x1 j) := Lib.hid (by rw [KS.out, if_neg (fun e => hw e.symm)])
          clear hw KS
          go_wp2_with fail
          refine wp_region_quiet_below (by kernel_rfl) (by kernel_rfl) ?_
          repeat (quiet_step (with_reducible exact WD.out _ _))
          refine wpQuiet_nil ?_
          intro _ hw'
          obtain ⟨⟨dq, osq⟩, rfl⟩ := hw'
          have S5 := Lib.hid (hS.out.below (below_regrown wr dq osq))
          generalize grow (redrawn wr dq) osq = w5 at *
          clear kw
          go_wp2_with fail
          go_roundw
          case rel => exact ⟨j + 1, by go_num, by omega, by rw [NX.out]; exact S5⟩
          case measure => show 10 - (((j : Int) + 1 + 1)).toNat < 10 - ((j : Int) + 1).toNat; omega
      · obtain rfl : j = 9 := by omega
        have HK : Hid (kindF x1 9 = kindOf x1) := Lib.hid rfl
        have g2 := hS.out.G.c2
        generalize kindF x1 9 = a1 at *
        clear hlt hj hji
        go_wp2_with fail
        refine (RD2.out wr).mono ?_
        rintro e w5 ⟨rfl, b5⟩
        have S5 := hS.out.below b5
        have k2 := S5.F.c2
        have q2 := S5.F.f 2
        have S6 := Lib.hid (S5.put (S5.F.set2 a2))
        have g3 := S6.out.G.c3
        clear S5 b5 g2
        go_wp2_with fail
        refine (RD3.out _).mono ?_
        rintro e w7 ⟨rfl, b7⟩
        have S7 := S6.out.below b7
        have k3 := S7.F.c3
        have q3 := S7.F.f 3
        have S8 := Lib.hid (S7.put (S7.F.set3 a3))
        have S10 := S8
        clear S7 b7 g3 k2 q2 S8
        have f0 := S10.out.R.c0
        have f1 := S10.out.R.c1
        have f2 := S10.out.R.c2
        have f3 := S10.out.R.c3
        have f4 := S10.out.R.c4
        have ff := S10.out.R.f
        by_cases hok : e2 = 0 ∧ e3 = 0
        rotate_left
        · have HZ : Hid (mReadR l = (mZero, 4)) := Lib.hid (by rw [HR.out, if_neg (fun h => hok ⟨h.1, h.2.1⟩)])
          have HL := Lib.hid (set5_load S10.out.R mZero)
          have HB := Lib.hid (set5_below S10.out.B (Nat.le_refl W.heap.size) mZero)
          by_cases he2 : e2 = 0
          · have he3 : e3 ≠ 0 := fun e => hok ⟨he2, e⟩
            have b2 : (e2 != 0) = false := by simpa using he2
            have b3 : (e3 != 0) = true := by simpa using he3
            clear hok he2 he3
            go_wp2_with fail
            (try simp only [Exit.inBlock, Exit.then])
            refine bodyPost_ret (v := .tuple #[mZero.val, .int .i64 4]) ?_ rfl ⟨by rw [HZ.out], HB.out⟩
            rw [results_cell_tmp rfl]
            have hld := HL.out
            simp only [mZero] at hld
            simp [asAddr, Result.andThen, hld]
            rfl
          · have b2 : (e2 != 0) = true := by simpa using he2
            clear hok he2
            go_wp2_with fail
            (try simp only [Exit.inBlock, Exit.then])
            refine bodyPost_ret (v := .tuple #[mZero.val, .int .i64 4]) ?_ rfl ⟨by rw [HZ.out], HB.out⟩
            rw [results_cell_tmp rfl]
            have hld := HL.out
            simp only [mZero] at hld
            simp [asAddr, Result.andThen, hld]
            rfl
        · obtain ⟨rfl, rfl⟩ := hok
          have l0 := S10.out.F.c0
          have l1 := S10.out.F.c1
          have l2 := S10.out.F.c2
          have l3 := S10.out.F.c3
          have l4 := S10.out.F.c4
          simp only at l0 l1 l2 l3 l4
          have TC := Lib.hid (fun w => show Calls Tryz.prog 6 #[.agg #[.int .i64 a0, .int .i64 a1, .int .i64 a2, .int .i64 a3, .int .i64 a4]] w _ from rtext0_c ⟨a0, a1, a2, a3, a4⟩ w)
          have HM : Hid (mReadR l = if mText ⟨a0, a1, a2, a3, a4⟩ = l then (⟨a0, a1, a2, a3, a4⟩, 0) else (mZero, 4)) := Lib.hid (by rw [HR.out, HK.out]; simp)
          generalize mText ⟨a0, a1, a2, a3, a4⟩ = mt at *
          clear f0 f1 f2 f3 f4 ff HR
          go_wp2_with fail
          refine (TC.out _).mono ?_
          rintro e w11 ⟨rfl, b11⟩
          have S11 := Lib.hid (S10.out.below b11)
          clear l0 l1 l2 l3 l4 b11
          have f0 := S11.out.R.c0
          have f1 := S11.out.R.c1
          have f2 := S11.out.R.c2
          have f3 := S11.out.R.c3
          have f4 := S11.out.R.c4
          have ff := S11.out.R.f
          by_cases hT : mt = l
          · have HZ : Hid (mReadR l = (⟨a0, a1, a2, a3, a4⟩, 0)) := Lib.hid (by rw [HM.out, if_pos hT])
            subst hT
            have l0 := S11.out.F.c0
            have l1 := S11.out.F.c1
            have l2 := S11.out.F.c2
            have l3 := S11.out.F.c3
            have l4 := S11.out.F.c4
            simp only at l0 l1 l2 l3 l4
            have HL := Lib.hid (set5_load S11.out.R ⟨a0, a1, a2, a3, a4⟩)
            have HB := Lib.hid (set5_below S11.out.B (Nat.le_refl W.heap.size) ⟨a0, a1, a2, a3, a4⟩)
            go_wp2_with fail
            (try simp only [Exit.inBlock, Exit.then])
            refine bodyPost_ret (v := .tuple #[.agg #[.int .i64 a0, .int .i64 a1, .int .i64 a2, .int .i64 a3, .int .i64 a4], .int .i64 0]) ?_ rfl ⟨by rw [HZ.out]; rfl, HB.out⟩
            rw [results_cell_tmp rfl]
            have hld := HL.out
            simp only [Mk.val] at hld
            simp [asAddr, Result.andThen, hld]
          · have hTB : (mt == l) = false := by simpa using hT
            have HZ : Hid (mReadR l = (mZero, 4)) := Lib.hid (by rw [HM.out, if_neg hT])
            have HL := Lib.hid (set5_load S11.out.R mZero)
            have HB := Lib.hid (set5_below S11.out.B (Nat.le_refl W.heap.size) mZero)
            go_wp2_with fail
            (try simp only [Exit.inBlock, Exit.then])
            refine bodyPost_ret (v := .tuple #[mZero.val, .int .i64 4]) ?_ rfl ⟨by rw [HZ.out], HB.out⟩
            rw [results_cell_tmp rfl]
            have hld := HL.out
            simp only [mZero] at hld
            simp [asAddr, Result.andThen, hld]
            rfl
theorem mreadR_any (l : List UInt8) (W : World) (hs : l.length ≤ 16777216) :
    Calls Tryz.prog 11 #[str l] W fun e w' => e = .returned (.tuple #[(mReadR l).1.val, .int .i64 (mReadR l).2]) ∧ Below W.heap.size W w' := by
  by_cases h5 : (splitC 32 [] l).length = 5
  · exact rread0_five l W hs h5
  · have e : mReadR l = (mZero, 4) := by unfold mReadR; rw [if_pos h5]
    rw [e]
    exact rread0_len l W hs h5
end Go.Proofs.YtohodbpjcbjifaaGreatDoor
