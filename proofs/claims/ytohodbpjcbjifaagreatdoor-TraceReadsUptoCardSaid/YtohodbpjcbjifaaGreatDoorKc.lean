/- trace.Read at every text. -/
import Derived.Test.YtohodbpjcbjifaaGreatDoorKb
import Derived.Test.YtohodbpjcbjifaaGreatDoorSp
import Derived.Laws.ResultCell
namespace Go.Proofs.YtohodbpjcbjifaaGreatDoor
open Go Go.RowKit Go.Shelf Go.Sort
set_option linter.unusedVariables false
set_option linter.unusedSimpArgs false
set_option maxRecDepth 100000
set_option maxHeartbeats 3200000

theorem Tryz.infoMark5 : (Tryz.prog.info? 24).map (·.size) = some 5 := by kernel_rfl
/-- A block holds a mark. -/
def Five (w : World) (B : Nat) (m : Mk) : Prop := w.heap[B]? = some (.cells #[.int .i64 m.t, .int .i64 m.k, .int .i64 m.h, .int .i64 m.j, .int .i64 m.n] 24)
section
variable {w : World} {B : Nat} {m : Mk}
theorem Five.c0 (C : Five w B m) : w.cell? ⟨B, 0, none⟩ = some (.int .i64 m.t) := by unfold Five at C; simp [World.cell?, C]
theorem Five.c1 (C : Five w B m) : w.cell? ⟨B, 1, none⟩ = some (.int .i64 m.k) := by unfold Five at C; simp [World.cell?, C]
theorem Five.c2 (C : Five w B m) : w.cell? ⟨B, 2, none⟩ = some (.int .i64 m.h) := by unfold Five at C; simp [World.cell?, C]
theorem Five.c3 (C : Five w B m) : w.cell? ⟨B, 3, none⟩ = some (.int .i64 m.j) := by unfold Five at C; simp [World.cell?, C]
theorem Five.c4 (C : Five w B m) : w.cell? ⟨B, 4, none⟩ = some (.int .i64 m.n) := by unfold Five at C; simp [World.cell?, C]
theorem Five.f (C : Five w B m) (i : Nat) : w.frozen? ⟨B, i, none⟩ = false := by unfold Five at C; simp [World.frozen?, C]
theorem Five.lt (C : Five w B m) : B < w.heap.size := (Array.getElem?_eq_some_iff.1 C).1
theorem Five.below {w' : World} (C : Five w B m) (h : Below w.heap.size w w') : Five w' B m := (h.block _ C.lt).trans C
theorem Five.other (C : Five w B m) {A : Addr} (hne : A.block ≠ B) (v : Value) : Five (w.setCell A v) B m := by
  unfold Five at C ⊢
  simp only [World.setCell, Array.getElem?_modify]
  rw [if_neg hne]; exact C
theorem Five.set0 (C : Five w B m) (x : Int) : Five (w.setCell ⟨B, 0, none⟩ (.int .i64 x)) B { m with t := x } := by
  unfold Five at C ⊢; simp [World.setCell, Array.getElem?_modify, C]
theorem Five.set1 (C : Five w B m) (x : Int) : Five (w.setCell ⟨B, 1, none⟩ (.int .i64 x)) B { m with k := x } := by
  unfold Five at C ⊢; simp [World.setCell, Array.getElem?_modify, C]
theorem Five.set2 (C : Five w B m) (x : Int) : Five (w.setCell ⟨B, 2, none⟩ (.int .i64 x)) B { m with h := x } := by
  unfold Five at C ⊢; simp [World.setCell, Array.getElem?_modify, C]
theorem Five.set3 (C : Five w B m) (x : Int) : Five (w.setCell ⟨B, 3, none⟩ (.int .i64 x)) B { m with j := x } := by
  unfold Five at C ⊢; simp [World.setCell, Array.getElem?_modify, C]
theorem Five.set4 (C : Five w B m) (x : Int) : Five (w.setCell ⟨B, 4, none⟩ (.int .i64 x)) B { m with n := x } := by
  unfold Five at C ⊢; simp [World.setCell, Array.getElem?_modify, C]
theorem Five.load (C : Five w B m) : (loadVar 24 ⟨B, 0, none⟩).run Tryz.prog w = .ok m.val w :=
  run_loadVar_row w B 24 24 _ (0, 0) _ C Tryz.underlying24 rfl Tryz.infoMark5
theorem five_new (w : World) (m : Mk) : Five (w.alloc (.cells #[.int .i64 m.t, .int .i64 m.k, .int .i64 m.h, .int .i64 m.j, .int .i64 m.n] 24)) w.heap.size m := by
  show (w.heap.push _)[w.heap.size]? = _
  exact Array.getElem?_push_size
end
theorem set5_load {w : World} {B : Nat} {m : Mk} (C : Five w B m) (x : Mk) : (loadVar 24 ⟨B, 0, none⟩).run Tryz.prog (((((w.setCell ⟨B, 0, none⟩ (.int .i64 x.t)).setCell ⟨B, 1, none⟩ (.int .i64 x.k)).setCell ⟨B, 2, none⟩ (.int .i64 x.h)).setCell ⟨B, 3, none⟩ (.int .i64 x.j)).setCell ⟨B, 4, none⟩ (.int .i64 x.n)) = .ok x.val (((((w.setCell ⟨B, 0, none⟩ (.int .i64 x.t)).setCell ⟨B, 1, none⟩ (.int .i64 x.k)).setCell ⟨B, 2, none⟩ (.int .i64 x.h)).setCell ⟨B, 3, none⟩ (.int .i64 x.j)).setCell ⟨B, 4, none⟩ (.int .i64 x.n)) :=
  (((((C.set0 x.t).set1 x.k).set2 x.h).set3 x.j).set4 x.n).load
theorem set5_below {W w : World} {n B : Nat} (h : Below n W w) (hB : n ≤ B) (x : Mk) : Below n W (((((w.setCell ⟨B, 0, none⟩ (.int .i64 x.t)).setCell ⟨B, 1, none⟩ (.int .i64 x.k)).setCell ⟨B, 2, none⟩ (.int .i64 x.h)).setCell ⟨B, 3, none⟩ (.int .i64 x.j)).setCell ⟨B, 4, none⟩ (.int .i64 x.n)) :=
  ((((h.setCell (p := ⟨B, 0, none⟩) hB _).setCell (p := ⟨B, 1, none⟩) hB _).setCell (p := ⟨B, 2, none⟩) hB _).setCell (p := ⟨B, 3, none⟩) hB _).setCell (p := ⟨B, 4, none⟩) hB _
theorem split_pl (c : UInt8) (l : List UInt8) : ∀ k, k < (splitC c [] l).length → ((splitC c [] l).getD k []).length ≤ l.length := by
  have : ∀ (s cur : List UInt8), ∀ p ∈ splitC c cur s, p.length ≤ cur.length + s.length := by
    intro s
    induction s with
    | nil => intro cur p hp; simp [splitC] at hp; subst hp; simp
    | cons b r ih =>
      intro cur p hp
      unfold splitC at hp
      split at hp
      · rcases List.mem_cons.1 hp with rfl | hp
        · simp
        · have := ih [] p hp; simp at this ⊢; omega
      · have := ih (cur ++ [b]) p hp; simp at this ⊢; omega
  intro k hk
  have h := this l [] ((splitC c [] l).getD k []) (by rw [List.getD, List.getElem?_eq_getElem hk]; exact List.getElem_mem hk)
  simpa using h
theorem read_len (l : List UInt8) (W : World) (E : Env W) (hs : l.length < 4294967281) (h5 : (splitC 32 [] l).length ≠ 5) :
    Calls Tryz.prog 7 #[str l] W fun e w' => e = .returned (.tuple #[mZero.val, errN 4]) ∧ Below W.heap.size W w' := by
  have f0 := five_new W mZero
  have b0 : Below W.heap.size W (W.alloc (.cells #[.int .i64 mZero.t, .int .i64 mZero.k, .int .i64 mZero.h, .int .i64 mZero.j, .int .i64 mZero.n] 24)) := (Below.refl _ _).alloc (Nat.le_refl _) _
  obtain ⟨w0, hw0⟩ : ∃ w0, w0 = W.alloc (.cells #[.int .i64 mZero.t, .int .i64 mZero.k, .int .i64 mZero.h, .int .i64 mZero.j, .int .i64 mZero.n] 24) := ⟨_, rfl⟩
  rw [← hw0] at f0 b0
  have HW : Hid (w0 = W.alloc (.cells #[.int .i64 0, .int .i64 0, .int .i64 0, .int .i64 0, .int .i64 0] 24)) := Lib.hid hw0
  have SP := Lib.hid (ssplit_s ⟨l.toArray⟩ w0 (E.below b0) (by rw [sz]; exact hs))
  have B0 := Lib.hid b0
  have F0 := Lib.hid f0
  have h5' : ((splitC 32 [] l).length == 5) = false := by simpa using h5
  have h6' : ((splitC 32 [] l).length != 5) = true := by simpa using h5
  have h7' : (((splitC 32 [] l).length : Int) != 5) = true := by rw [bne_iff_ne]; omega
  clear E b0 f0 hw0 h5
  simp only at SP
  generalize splitC 32 [] l = ws at *
  go_enter Tryz.func7, Tryz.ntmps7
  go_wp2_with fail
  rw [← HW.out]
  refine SP.out.mono ?_
  rintro e w1 ⟨v, rfl, rs, b1⟩
  have F1 := F0.out.below b1
  have B1 := Lib.hid (B0.out.trans (b1.mono B0.out.size))
  obtain ⟨p, c, rfl, _⟩ := RS.out rs
  have k0 := F1.c0
  have k1 := F1.c1
  have k2 := F1.c2
  have k3 := F1.c3
  have k4 := F1.c4
  have g0 := F1.f
  have HL := Lib.hid (set5_load F1 mZero)
  have HB := Lib.hid (set5_below B1.out (Nat.le_refl W.heap.size) mZero)
  clear rs b1
  go_wp2_with fail
  (try simp only [Exit.inBlock, Exit.then])
  refine bodyPost_ret (v := .tuple #[mZero.val, errN 4]) ?_ rfl ⟨rfl, HB.out⟩
  rw [results_cell_tmp rfl]
  have hld := HL.out
  simp only [mZero] at hld
  simp [asAddr, Result.andThen, hld]
  rfl
/-- Five words lie in a row. -/
structure Words (w : World) (b o : Nat) (x0 x1 x2 x3 x4 : List UInt8) : Prop where
  lt : b < w.heap.size
  c0 : w.cell? ⟨b, o, none⟩ = some (str x0)
  c1 : w.cell? ⟨b, o + 1, none⟩ = some (str x1)
  c2 : w.cell? ⟨b, o + 2, none⟩ = some (str x2)
  c3 : w.cell? ⟨b, o + 3, none⟩ = some (str x3)
  c4 : w.cell? ⟨b, o + 4, none⟩ = some (str x4)
theorem Words.below {w w' : World} {b o : Nat} {x0 x1 x2 x3 x4 : List UInt8} (h : Words w b o x0 x1 x2 x3 x4) (hb : Below w.heap.size w w') : Words w' b o x0 x1 x2 x3 x4 :=
  ⟨Nat.lt_of_lt_of_le h.lt hb.size, (hb.cell (p := ⟨b, o, none⟩) h.lt).trans h.c0, (hb.cell (p := ⟨b, o + 1, none⟩) h.lt).trans h.c1, (hb.cell (p := ⟨b, o + 2, none⟩) h.lt).trans h.c2, (hb.cell (p := ⟨b, o + 3, none⟩) h.lt).trans h.c3, (hb.cell (p := ⟨b, o + 4, none⟩) h.lt).trans h.c4⟩
theorem cell_other {w : World} {A p : Addr} (hne : A.block ≠ p.block) (v : Value) : (w.setCell A v).cell? p = w.cell? p := by
  simp only [World.cell?, World.setCell, Array.getElem?_modify]
  rw [if_neg hne]
theorem Words.other {w : World} {b o : Nat} {x0 x1 x2 x3 x4 : List UInt8} (h : Words w b o x0 x1 x2 x3 x4) {A : Addr} (hne : A.block ≠ b) (v : Value) : Words (w.setCell A v) b o x0 x1 x2 x3 x4 :=
  ⟨by simp [World.setCell]; exact h.lt, (cell_other hne v).trans h.c0, (cell_other hne v).trans h.c1, (cell_other hne v).trans h.c2, (cell_other hne v).trans h.c3, (cell_other hne v).trans h.c4⟩
theorem kindF_step (w : List UInt8) (n : Nat) : kindF w (n + 1) = if wordS ((n : Int) + 1) = w then (n : Int) + 1 else kindF w n := rfl
/-- What Read holds: the mark that is being made, in block M; the result's block; the words. -/
structure RdS (W w : World) (M bw ow : Nat) (x0 x1 x2 x3 x4 : List UInt8) (m : Mk) : Prop where
  F : Five w M m
  R : Five w W.heap.size mZero
  G : Words w bw ow x0 x1 x2 x3 x4
  B : Below W.heap.size W w
  n1 : W.heap.size < M
  n2 : bw ≠ M
section
variable {W w : World} {M bw ow : Nat} {x0 x1 x2 x3 x4 : List UInt8} {m : Mk}
theorem RdS.below {w' : World} (S : RdS W w M bw ow x0 x1 x2 x3 x4 m) (hb : Below w.heap.size w w') : RdS W w' M bw ow x0 x1 x2 x3 x4 m :=
  ⟨S.F.below hb, S.R.below hb, S.G.below hb, S.B.trans (hb.mono S.B.size), S.n1, S.n2⟩
theorem RdS.put {m' : Mk} {i : Nat} {v : Value} (S : RdS W w M bw ow x0 x1 x2 x3 x4 m) (hF : Five (w.setCell ⟨M, i, none⟩ v) M m') : RdS W (w.setCell ⟨M, i, none⟩ v) M bw ow x0 x1 x2 x3 x4 m' :=
  ⟨hF, S.R.other (by have := S.n1; simp; omega) v, S.G.other (fun e => S.n2 e.symm) v, S.B.setCell (p := ⟨M, i, none⟩) (Nat.le_of_lt S.n1) v, S.n1, S.n2⟩
end
theorem read_five (l : List UInt8) (W : World) (E : Env W) (hs : l.length < 4294967281) (h5 : (splitC 32 [] l).length = 5) :
    Calls Tryz.prog 7 #[str l] W fun e w' => e = .returned (.tuple #[(mRead l).1.val, errOf (mRead l).2]) ∧ Below W.heap.size W w' := by
  have f0 := five_new W mZero
  have b0 : Below W.heap.size W (W.alloc (.cells #[.int .i64 mZero.t, .int .i64 mZero.k, .int .i64 mZero.h, .int .i64 mZero.j, .int .i64 mZero.n] 24)) := (Below.refl _ _).alloc (Nat.le_refl _) _
  obtain ⟨w0, hw0⟩ : ∃ w0, w0 = W.alloc (.cells #[.int .i64 mZero.t, .int .i64 mZero.k, .int .i64 mZero.h, .int .i64 mZero.j, .int .i64 mZero.n] 24) := ⟨_, rfl⟩
  rw [← hw0] at f0 b0
  have HW : Hid (w0 = W.alloc (.cells #[.int .i64 0, .int .i64 0, .int .i64 0, .int .i64 0, .int .i64 0] 24)) := Lib.hid hw0
  have SP := Lib.hid (ssplit_s ⟨l.toArray⟩ w0 (E.below b0) (by rw [sz]; exact hs))
  have B0 := Lib.hid b0
  have F0 := Lib.hid f0
  have EE := Lib.hid E
  have HN : Hid (l ≠ []) := Lib.hid (by rintro rfl; simp [splitC] at h5)
  have HR : Hid (mRead l = if mText (mOf atoiV (splitC 32 [] l)) = l then (mOf atoiV (splitC 32 [] l), 0) else (mZero, 4)) := Lib.hid (by unfold mRead; rw [if_neg (fun h => h h5)])
  have WL := Lib.hid (show ∀ k, k < 5 → ((splitC 32 [] l).getD k []).length ≤ 281474976710656 from fun k hk => by have := split_pl 32 l k (by omega); omega)
  clear E b0 f0 hw0
  simp only at SP
  generalize splitC 32 [] l = ws at *
  obtain ⟨x0, x1, x2, x3, x4, rfl⟩ : ∃ x0 x1 x2 x3 x4, ws = [x0, x1, x2, x3, x4] := by
    match ws, h5 with
    | [a, b, c, d, e], _ => exact ⟨a, b, c, d, e, rfl⟩
  have HR : Hid (mRead l = if mText ⟨atoiV x0, kindOf x1, (hRead x2).1, (hRead x3).1, atoiV x4⟩ = l then (⟨atoiV x0, kindOf x1, (hRead x2).1, (hRead x3).1, atoiV x4⟩, 0) else (mZero, 4)) := HR
  have WL0 : Hid (x0.length ≤ 281474976710656) := Lib.hid (WL.out 0 (by decide))
  have WL4 : Hid (x4.length ≤ 281474976710656) := Lib.hid (WL.out 4 (by decide))
  clear WL h5
  go_enter Tryz.func7, Tryz.ntmps7
  go_wp2_with fail
  rw [← HW.out]
  refine SP.out.mono ?_
  rintro e w1 ⟨v, rfl, rs, b1⟩
  have F1 := F0.out.below b1
  have B1 := Lib.hid (B0.out.trans (b1.mono B0.out.size))
  have FN := five_new w1 mZero
  have BN : Below w1.heap.size w1 (w1.alloc (.cells #[.int .i64 mZero.t, .int .i64 mZero.k, .int .i64 mZero.h, .int .i64 mZero.j, .int .i64 mZero.n] 24)) := (Below.refl _ _).alloc (Nat.le_refl _) _
  obtain ⟨w2, hw2⟩ : ∃ w2, w2 = w1.alloc (.cells #[.int .i64 mZero.t, .int .i64 mZero.k, .int .i64 mZero.h, .int .i64 mZero.j, .int .i64 mZero.n] 24) := ⟨_, rfl⟩
  rw [← hw2] at FN BN
  have HW2 : Hid (w2 = w1.alloc (.cells #[.int .i64 0, .int .i64 0, .int .i64 0, .int .i64 0, .int .i64 0] 24)) := Lib.hid hw2
  obtain ⟨M, hM⟩ : ∃ M, M = w1.heap.size := ⟨_, rfl⟩
  rw [← hM] at FN
  have hR := F1.lt
  have hne : Hid (W.heap.size < M) := Lib.hid (by omega)
  have F2 := Lib.hid (F1.below BN)
  have FM := Lib.hid FN
  have RS2 := rs.below BN
  have B2 := Lib.hid (B1.out.trans (BN.mono B1.out.size))
  obtain ⟨p, c, rfl, hr⟩ := RS.out rs
  have h5 : [x0, x1, x2, x3, x4].length = 5 := rfl
  rw [h5] at hr
  obtain ⟨bw, ow, rfl, hlt, g0⟩ := hr 0 (by decide)
  have gk : Words w1 bw ow x0 x1 x2 x3 x4 := by
    refine ⟨hlt, ?_, ?_, ?_, ?_, ?_⟩
    · exact g0
    · obtain ⟨b', o', he, _, g⟩ := hr 1 (by decide); cases he; exact g
    · obtain ⟨b', o', he, _, g⟩ := hr 2 (by decide); cases he; exact g
    · obtain ⟨b', o', he, _, g⟩ := hr 3 (by decide); cases he; exact g
    · obtain ⟨b', o', he, _, g⟩ := hr 4 (by decide); cases he; exact g
  have S2 := Lib.hid (show RdS W w2 M bw ow x0 x1 x2 x3 x4 mZero from ⟨FM.out, F2.out, gk.below BN, B2.out, hne.out, by omega⟩)
  have g0' : (w1.alloc (.cells #[.int .i64 0, .int .i64 0, .int .i64 0, .int .i64 0, .int .i64 0] 24)).cell? ⟨bw, ow, none⟩ = some (str x0) := by rw [← HW2.out]; exact S2.out.G.c0
  rw [h5]
  clear rs b1 F1 FN BN hw2 hr gk RS2 hR h5 hlt g0 B2 FM F2 B1 F0 B0 hne
  have AT := Lib.hid (fun (x : List UInt8) (hx : x.length ≤ 281474976710656) w (h : Env w) => show Calls Tryz.prog 21 #[str x] w fun e w' => (∃ ev, e = .returned (.tuple #[.int .i64 (atoiV x), ev])) ∧ Below w.heap.size w w' from atoi_c ⟨x.toArray⟩ (by rw [sz]; exact hx) w h)
  have RD := Lib.hid (fun (x : List UInt8) w (h : Env w) => show Calls Tryz.prog 22 #[str x] w fun e w' => e = .returned (.tuple #[.int .i64 (hRead x).1, errOf (hRead x).2]) ∧ Below w.heap.size w w' from read_any ⟨x.toArray⟩ w h)
  have NM := Lib.hid hM
  clear hM
  go_wp2_with fail
  rw [← HW2.out]
  refine (AT.out x0 WL0.out w2 (EE.out.below S2.out.B)).mono ?_
  rintro e w3 ⟨⟨ev, rfl⟩, b3⟩
  rw [← NM.out]
  have S3 := S2.out.below b3
  have k0 := S3.F.c0
  have q0 := S3.F.f 0
  generalize hA0 : atoiV x0 = a0 at *
  have S4 := Lib.hid (S3.put (S3.F.set0 a0))
  clear b3 S3 S2 g0'
  go_wp2_with fail
  go_loopw [6] (fun kv wr => ∃ j : Nat, kv = .int .i64 ((j : Int) + 1) ∧ j ≤ 9 ∧ Hid (RdS W wr M bw ow x0 x1 x2 x3 x4 ⟨a0, kindF x1 j, 0, 0, 0⟩)) (fun kv _ => 10 - (intOf kv).toNat)
  case atStart => exact ⟨0, by go_num, by decide, S4⟩
  case round =>
    obtain ⟨j, rfl, hj, hS⟩ := hrel
    have hji : (j : Int) ≤ 9 := by omega
    by_cases hlt : j < 9
    · have hlt' : ¬ 9 < (j : Int) + 1 := by omega
      have kw : ∀ d os, (grow (redrawn wr d) os).cell? ⟨bw, ow + 1, none⟩ = some (str x1) := fun d os => cell_regrown hS.out.G.c1 d os
      have WD := Lib.hid (fun d os => Calls.regrown_of (word_s ((j : Int) + 1) (grow (redrawn wr d) os)))
      have KS := Lib.hid (kindF_step x1 j)
      generalize wordS ((j : Int) + 1) = wj at *
      by_cases hw : wj = x1
      · have hwB : (wj == x1) = true := by simpa using hw
        have NX : Hid (kindF x1 (j + 1) = (j : Int) + 1) := Lib.hid (by rw [KS.out, if_pos hw])
        clear hw KS
        go_wp2_with fail
        refine wp_region_quiet_below (by kernel_rfl) (by kernel_rfl) ?_
        repeat (quiet_step (with_reducible exact WD.out _ _))
        refine wpQuiet_nil ?_
        intro _ hw'
        obtain ⟨⟨dq, osq⟩, rfl⟩ := hw'
        have S5 := hS.out.below (below_regrown wr dq osq)
        generalize grow (redrawn wr dq) osq = w5 at *
        have k1 := S5.F.c1
        have q1 := S5.F.f 1
        have S6 := Lib.hid (S5.put (S5.F.set1 ((j : Int) + 1)))
        clear S5 kw
        go_wp2_with fail
        go_roundw
        case rel => exact ⟨j + 1, by go_num, by omega, by rw [NX.out]; exact S6⟩
        case measure => show 10 - (((j : Int) + 1 + 1)).toNat < 10 - ((j : Int) + 1).toNat; omega
      · have hwB : (wj == x1) = false := by simpa using hw
        have NX : Hid (kindF x1 (j + 1) = kindF x1 j) := Lib.hid (by rw [KS.out, if_neg hw])
        clear hw KS
        go_wp2_with fail
        refine wp_region_quiet_below (by kernel_rfl) (by kernel_rfl) ?_
        repeat (quiet_step (with_reducible exact WD.out _ _))
        refine wpQuiet_nil ?_
        intro _ hw'
        obtain ⟨⟨dq, osq⟩, rfl⟩ := hw'
        have S5 := Lib.hid (hS.out.below (below_regrown wr dq osq))
        generalize grow (redrawn wr dq) osq = w5 at *
        clear kw
        go_wp2_with fail
        go_roundw
        case rel => exact ⟨j + 1, by go_num, by omega, by rw [NX.out]; exact S5⟩
        case measure => show 10 - (((j : Int) + 1 + 1)).toNat < 10 - ((j : Int) + 1).toNat; omega
    · obtain rfl : j = 9 := by omega
      have HK : Hid (kindF x1 9 = kindOf x1) := Lib.hid rfl
      have g2 := hS.out.G.c2
      generalize kindF x1 9 = a1 at *
      clear hlt hj hji
      go_wp2_with fail
      refine (RD.out x2 wr (EE.out.below hS.out.B)).mono ?_
      rintro e w5 ⟨rfl, b5⟩
      have S5 := hS.out.below b5
      have k2 := S5.F.c2
      have q2 := S5.F.f 2
      generalize hA2 : (hRead x2).1 = a2 at *
      have S6 := Lib.hid (S5.put (S5.F.set2 a2))
      have g3 := S6.out.G.c3
      clear S5 b5 g2
      go_wp2_with fail
      refine (RD.out x3 _ (EE.out.below S6.out.B)).mono ?_
      rintro e w7 ⟨rfl, b7⟩
      have S7 := S6.out.below b7
      have k3 := S7.F.c3
      have q3 := S7.F.f 3
      generalize hA3 : (hRead x3).1 = a3 at *
      have S8 := Lib.hid (S7.put (S7.F.set3 a3))
      have g4 := S8.out.G.c4
      clear S7 b7 g3 k2 q2
      go_wp2_with fail
      refine (AT.out x4 WL4.out _ (EE.out.below S8.out.B)).mono ?_
      rintro e w9 ⟨⟨ev4, rfl⟩, b9⟩
      have S9 := S8.out.below b9
      have k4 := S9.F.c4
      have q4 := S9.F.f 4
      generalize hA4 : atoiV x4 = a4 at *
      have S10 := Lib.hid (S9.put (S9.F.set4 a4))
      clear S9 b9 g4 k3 q3
      have l0 := S10.out.F.c0
      have l1 := S10.out.F.c1
      have l2 := S10.out.F.c2
      have l3 := S10.out.F.c3
      have l4 := S10.out.F.c4
      simp only at l0 l1 l2 l3 l4
      have TC := Lib.hid (fun w (h : Env w) => show Calls Tryz.prog 5 #[.agg #[.int .i64 a0, .int .i64 a1, .int .i64 a2, .int .i64 a3, .int .i64 a4]] w _ from text_c ⟨a0, a1, a2, a3, a4⟩ w h)
      have HM : Hid (mRead l = if mText ⟨a0, a1, a2, a3, a4⟩ = l then (⟨a0, a1, a2, a3, a4⟩, 0) else (mZero, 4)) := Lib.hid (by rw [HR.out, HK.out])
      generalize mText ⟨a0, a1, a2, a3, a4⟩ = mt at *
      clear hA0 hA2 hA3 hA4
      go_wp2_with fail
      refine (TC.out _ (EE.out.below S10.out.B)).mono ?_
      rintro e w11 ⟨rfl, b11⟩
      have S11 := Lib.hid (S10.out.below b11)
      clear l0 l1 l2 l3 l4 k4 q4 b11
      have f0 := S11.out.R.c0
      have f1 := S11.out.R.c1
      have f2 := S11.out.R.c2
      have f3 := S11.out.R.c3
      have f4 := S11.out.R.c4
      have ff := S11.out.R.f
      by_cases hT : mt = l
      · have HZ : Hid (mRead l = (⟨a0, a1, a2, a3, a4⟩, 0)) := Lib.hid (by rw [HM.out, if_pos hT])
        subst hT
        obtain ⟨y0, yr, rfl⟩ : ∃ y r, mt = y :: r := by have := HN.out; cases mt with | nil => exact absurd rfl this | cons a r => exact ⟨a, r, rfl⟩
        have hlg : (⟨(y0 :: yr).toArray⟩ : ByteArray).toList.isEmpty = false := by rw [ByteArray.toList_eq]; rfl
        have l0 := S11.out.F.c0
        have l1 := S11.out.F.c1
        have l2 := S11.out.F.c2
        have l3 := S11.out.F.c3
        have l4 := S11.out.F.c4
        simp only at l0 l1 l2 l3 l4
        have HL := Lib.hid (set5_load S11.out.R ⟨a0, a1, a2, a3, a4⟩)
        have HB := Lib.hid (set5_below S11.out.B (Nat.le_refl W.heap.size) ⟨a0, a1, a2, a3, a4⟩)
        go_wp2_with fail
        (try simp only [Exit.inBlock, Exit.then])
        refine bodyPost_ret (v := .tuple #[.agg #[.int .i64 a0, .int .i64 a1, .int .i64 a2, .int .i64 a3, .int .i64 a4], .nilIface]) ?_ rfl ⟨by rw [HZ.out]; rfl, HB.out⟩
        rw [results_cell_tmp rfl]
        have hld := HL.out
        simp only [Mk.val] at hld
        simp [asAddr, Result.andThen, hld]
      · have hTB : (mt != l) = true := by simpa using hT
        have HZ : Hid (mRead l = (mZero, 4)) := Lib.hid (by rw [HM.out, if_neg hT])
        have HL := Lib.hid (set5_load S11.out.R mZero)
        have HB := Lib.hid (set5_below S11.out.B (Nat.le_refl W.heap.size) mZero)
        go_wp2_with fail
        (try simp only [Exit.inBlock, Exit.then])
        refine bodyPost_ret (v := .tuple #[mZero.val, errN 4]) ?_ rfl ⟨by rw [HZ.out]; rfl, HB.out⟩
        rw [results_cell_tmp rfl]
        have hld := HL.out
        simp only [mZero] at hld
        simp [asAddr, Result.andThen, hld]
        rfl
theorem mread_any (l : List UInt8) (W : World) (E : Env W) (hs : l.length < 4294967281) :
    Calls Tryz.prog 7 #[str l] W fun e w' => e = .returned (.tuple #[(mRead l).1.val, errOf (mRead l).2]) ∧ Below W.heap.size W w' := by
  by_cases h5 : (splitC 32 [] l).length = 5
  · exact read_five l W E hs h5
  · have e : mRead l = (mZero, 4) := by unfold mRead; rw [if_pos h5]
    rw [e]
    exact read_len l W E hs h5
end Go.Proofs.YtohodbpjcbjifaaGreatDoor
