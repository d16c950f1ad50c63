/- titheref24.Pair at every text. (Printed by mkny.py.) -/
import Derived.Test.YtdcnlgjngfmbcaaDoorNc
import Derived.Test.YtdcnlgjngfmbcaaDoorNv
namespace Go.Proofs.YtdcnlgjngfmbcaaDoor
open Go Go.RowKit Go.Shelf
set_option linter.unusedVariables false
set_option linter.unusedSimpArgs false
set_option maxRecDepth 100000
set_option maxHeartbeats 1600000

theorem cut_none {c : UInt8} : ∀ {l : List UInt8}, (cutAt c l).2 = none → (cutAt c l).1 = l
  | [], _ => rfl
  | b :: t, h => by
    unfold cutAt at h ⊢
    split at h
    · simp at h
    · rename_i hb
      rw [if_neg hb]
      simp only at h ⊢
      rw [cut_none h]
theorem cut_some {c : UInt8} : ∀ {l r : List UInt8}, (cutAt c l).2 = some r → c ∈ l
  | [], r, h => by simp [cutAt] at h
  | b :: t, r, h => by
    unfold cutAt at h
    split at h
    · rename_i hb
      have : b = c := by simpa using hb
      subst this
      exact List.mem_cons_self
    · exact List.mem_cons_of_mem _ (cut_some h)
theorem split_ne (c : UInt8) : ∀ (l cur : List UInt8), 1 ≤ (splitC c cur l).length
  | [], cur => by simp [splitC]
  | b :: t, cur => by
    unfold splitC
    split
    · simp
    · exact split_ne c t _
theorem numS_slash {l : List UInt8} (h : 47 ∈ l) : numS l = (0, 4) := by
  obtain ⟨k, hk, e⟩ := List.getElem_of_mem h
  unfold numS
  rw [dec_bad l k hk (by rw [List.getD, List.getElem?_eq_getElem hk]; simp only [Option.getD_some, e]; decide)]
  split <;> rfl
theorem pair_split (l : List UInt8) : pairS l = if (splitC 47 [] l).length = 2 then pairGo (numS ((splitC 47 [] l).getD 0 [])) (numS ((splitC 47 [] l).getD 1 [])) else ((0, 0), 4) := by
  unfold pairS
  rw [splitC_cut]
  cases h : (cutAt 47 l).2 with
  | none => simp
  | some r =>
    simp only [Option.isSome_some, Option.getD_some]
    rw [if_neg (by simp), splitC_cut]
    cases h2 : (cutAt 47 r).2 with
    | none =>
      rw [cut_none h2]
      simp
    | some r2 =>
      have h3 := split_ne 47 r2 []
      rw [if_neg (by simp only [List.length_cons]; omega)]
      rw [numS_slash (cut_some h2)]
      unfold pairGo
      rw [if_pos (.inr rfl)]
theorem split_sz2 (l : List UInt8) : ∀ k, k < (splitC 47 [] l).length → ((splitC 47 [] l).getD k []).length ≤ l.length := by
  have : ∀ (s cur : List UInt8), ∀ p ∈ splitC 47 cur s, p.length ≤ cur.length + s.length := by
    intro s
    induction s with
    | nil => intro cur p hp; simp [splitC] at hp; subst hp; simp
    | cons b r ih =>
      intro cur p hp
      unfold splitC at hp
      split at hp
      · rcases List.mem_cons.1 hp with rfl | hp
        · simp
        · have := ih [] p hp; simp at this ⊢; omega
      · have := ih (cur ++ [b]) p hp; simp at this ⊢; omega
  intro k hk
  have h := this l [] ((splitC 47 [] l).getD k []) (by rw [List.getD, List.getElem?_eq_getElem hk]; exact List.getElem_mem hk)
  simpa using h
theorem rpair_any (l : List UInt8) (W : World) (hs : l.length ≤ 1048576) :
    Calls Tryd.prog 23 #[str l] W fun e w' => e = .returned (.tuple #[rsv (pairS l).1.1 (pairS l).1.2, .int .i64 (pairS l).2]) ∧ Below W.heap.size W w' := by
  obtain ⟨w0, hw0⟩ : ∃ w0, w0 = W.alloc (.cells #[.int .i64 0, .int .i64 0] 56) := ⟨_, rfl⟩
  have b0 : Below W.heap.size W w0 := by rw [hw0]; exact (Below.refl _ _).alloc (Nat.le_refl _) _
  have c0 : w0.heap[W.heap.size]? = some (.cells #[.int .i64 0, .int .i64 0] 56) := by rw [hw0]; show (W.heap.push _)[W.heap.size]? = _; exact Array.getElem?_push_size
  have hb := Lib.hid hw0
  have CT := Lib.hid (rcut_any ⟨l.toArray⟩ w0 (by rw [sz]; exact hs))
  have HS := Lib.hid (pair_split l)
  have SS := Lib.hid (split_sz2 l)
  have HL := Lib.hid hs
  have hP : (⟨l.toArray⟩ : ByteArray).data.toList = l := rfl
  rw [hP] at CT
  clear hP hs
  generalize splitC 47 [] l = P at *
  go_enter Tryd.func23, Tryd.ntmps23
  go_wp2_with fail
  rw [← hb.out]
  refine CT.out.mono ?_
  rintro e w1 ⟨v, rfl, rs, be1⟩
  have B1 := b0.trans (be1.mono b0.size)
  have C1 : w1.heap[W.heap.size]? = some (.cells #[.int .i64 0, .int .i64 0] 56) := by rw [be1.block W.heap.size (Array.getElem?_eq_some_iff.1 c0).1]; exact c0
  clear be1 b0 c0 hw0 hb CT
  obtain ⟨p, c, rfl, hr⟩ := RS.out rs
  have HRS := Lib.hid hr
  clear rs hr
  have hc0 := two_c0 C1
  have hf0 := two_f C1 0
  have hc1 : ∀ v, (w1.setCell ⟨W.heap.size, 0, none⟩ v).cell? ⟨W.heap.size, 1, none⟩ = some (.int .i64 0) := fun v => two_c1 (two_s C1 v)
  have hf1 : ∀ v, (w1.setCell ⟨W.heap.size, 0, none⟩ v).frozen? ⟨W.heap.size, 1, none⟩ = false := fun v => two_f (two_s C1 v) 1
  have HLD : Hid (∀ v u, (loadVar 56 ⟨W.heap.size, 0, none⟩).run Tryd.prog ((w1.setCell ⟨W.heap.size, 0, none⟩ v).setCell ⟨W.heap.size, 1, none⟩ u) = .ok (.agg #[v, u]) ((w1.setCell ⟨W.heap.size, 0, none⟩ v).setCell ⟨W.heap.size, 1, none⟩ u)) := Lib.hid (fun v u => two_load (two_t (two_s C1 v) u))
  have HB1 := Lib.hid B1
  clear C1 B1
  by_cases h2 : P.length = 2
  rotate_left
  · have HR : Hid (pairS l = ((0, 0), 4)) := Lib.hid (by rw [HS.out, if_neg h2])
    have h2' : ((P.length : Int) != 2) = true := by rw [bne_iff_ne]; omega
    clear h2 HS
    have hld := HLD.out
    go_wp2_with fail
    (try simp only [Exit.inBlock, Exit.then])
    refine bodyPost_ret (v := .tuple #[rsv 0 0, .int .i64 4]) ?_ rfl ⟨by rw [HR.out], ?_⟩
    · rw [results_cell_tmp rfl]
      simp [asAddr, Result.andThen, hld]
    · exact setCell_below (setCell_below HB1.out (Nat.le_refl _)) (Nat.le_refl _)
  · have HP : Hid (pairS l = pairGo (numS (P.getD 0 [])) (numS (P.getD 1 []))) := Lib.hid (by rw [HS.out, if_pos h2])
    have h2' : ((P.length : Int) != 2) = false := by rw [bne_eq_false_iff_eq]; omega
    have h20 : (0 : Int) < (P.length : Int) := by omega
    have h21 : (1 : Int) < (P.length : Int) := by omega
    obtain ⟨b, o, rfl, _, g0⟩ := HRS.out 0 (by omega)
    obtain ⟨_, _, hpe, _, g1⟩ := HRS.out 1 (by omega)
    cases hpe
    rw [Nat.add_zero] at g0
    have NX := Lib.hid (fun W => rnum_any ⟨(P.getD 0 []).toArray⟩ W (by rw [sz]; have := SS.out 0 (by omega); have := HL.out; omega))
    have NY := Lib.hid (fun W => rnum_any ⟨(P.getD 1 []).toArray⟩ W (by rw [sz]; have := SS.out 1 (by omega); have := HL.out; omega))
    have NX' : Hid (∀ W, Calls Tryd.prog 21 #[str (P.getD 0 [])] W fun e w' => e = .returned (.tuple #[.int .i64 (numS (P.getD 0 [])).1, .int .i64 (numS (P.getD 0 [])).2]) ∧ W = w') := Lib.hid NX.out
    have NY' : Hid (∀ W, Calls Tryd.prog 21 #[str (P.getD 1 [])] W fun e w' => e = .returned (.tuple #[.int .i64 (numS (P.getD 1 [])).1, .int .i64 (numS (P.getD 1 [])).2]) ∧ W = w') := Lib.hid NY.out
    clear NX NY
    have ex := numS_err (P.getD 0 [])
    have ey := numS_err (P.getD 1 [])
    generalize P.getD 0 [] = x at *
    generalize P.getD 1 [] = y at *
    generalize numS x = a at *
    generalize numS y = b' at *
    clear HS h2
    go_wp2_with fail
    refine (NX'.out _).mono ?_
    rintro e w' ⟨rfl, rfl⟩
    go_wp2_with fail
    refine (NY'.out _).mono ?_
    rintro e w' ⟨rfl, rfl⟩
    clear NX' NY' g0 g1 h20 h21 h2'
    obtain ⟨an, ae⟩ := a
    obtain ⟨bn, be⟩ := b'
    simp only at ex ey
    rcases ex with rfl | rfl | rfl
    · rcases ey with rfl | rfl | rfl
      · have HQ : Hid (pairS l = if okP an bn then ((an, bn), 0) else ((0, 0), 2)) := Lib.hid (by rw [HP.out]; unfold pairGo; by_cases h : okP an bn <;> simp [h])
        clear HP
        by_cases q1 : an < 1
        · have HR : Hid (pairS l = ((0, 0), 2)) := Lib.hid (by rw [HQ.out, if_neg (fun h => by have := h.1; omega)])
          have d1 : decide (an < 1) = true := decide_eq_true q1
          have hld := HLD.out
          go_wp2_with fail
          (try simp only [Exit.inBlock, Exit.then])
          refine bodyPost_ret (v := .tuple #[rsv 0 0, .int .i64 2]) ?_ rfl ⟨by rw [HR.out], ?_⟩
          · rw [results_cell_tmp rfl]
            simp [asAddr, Result.andThen, hld]
          · exact setCell_below (setCell_below HB1.out (Nat.le_refl _)) (Nat.le_refl _)
        · have d1 : decide (an < 1) = false := decide_eq_false q1
          by_cases q2 : bn < an
          · have HR : Hid (pairS l = ((0, 0), 2)) := Lib.hid (by rw [HQ.out, if_neg (fun h => by have := h.2.1; omega)])
            have d2 : decide (bn < an) = true := decide_eq_true q2
            have hld := HLD.out
            go_wp2_with fail
            (try simp only [Exit.inBlock, Exit.then])
            refine bodyPost_ret (v := .tuple #[rsv 0 0, .int .i64 2]) ?_ rfl ⟨by rw [HR.out], ?_⟩
            · rw [results_cell_tmp rfl]
              simp [asAddr, Result.andThen, hld]
            · exact setCell_below (setCell_below HB1.out (Nat.le_refl _)) (Nat.le_refl _)
          · have d2 : decide (bn < an) = false := decide_eq_false q2
            by_cases q3 : 1048576 < bn
            · have HR : Hid (pairS l = ((0, 0), 2)) := Lib.hid (by rw [HQ.out, if_neg (fun h => by have := h.2.2; omega)])
              have d3 : decide (1048576 < bn) = true := decide_eq_true q3
              have hld := HLD.out
              go_wp2_with fail
              (try simp only [Exit.inBlock, Exit.then])
              refine bodyPost_ret (v := .tuple #[rsv 0 0, .int .i64 2]) ?_ rfl ⟨by rw [HR.out], ?_⟩
              · rw [results_cell_tmp rfl]
                simp [asAddr, Result.andThen, hld]
              · exact setCell_below (setCell_below HB1.out (Nat.le_refl _)) (Nat.le_refl _)
            · have HR : Hid (pairS l = ((an, bn), 0)) := Lib.hid (by rw [HQ.out, if_pos ⟨by omega, by omega, by omega⟩])
              have d3 : decide (1048576 < bn) = false := decide_eq_false q3
              have hld := HLD.out
              go_wp2_with fail
              (try simp only [Exit.inBlock, Exit.then])
              refine bodyPost_ret (v := .tuple #[rsv an bn, .int .i64 0]) ?_ rfl ⟨by rw [HR.out], ?_⟩
              · rw [results_cell_tmp rfl]
                simp [asAddr, Result.andThen, hld]
              · exact setCell_below (setCell_below HB1.out (Nat.le_refl _)) (Nat.le_refl _)
      · have HR : Hid (pairS l = ((0, 0), 2)) := Lib.hid (by rw [HP.out]; unfold pairGo; simp)
        have hld := HLD.out
        go_wp2_with fail
        (try simp only [Exit.inBlock, Exit.then])
        refine bodyPost_ret (v := .tuple #[rsv 0 0, .int .i64 2]) ?_ rfl ⟨by rw [HR.out], ?_⟩
        · rw [results_cell_tmp rfl]
          simp [asAddr, Result.andThen, hld]
        · exact setCell_below (setCell_below HB1.out (Nat.le_refl _)) (Nat.le_refl _)
      · have HR : Hid (pairS l = ((0, 0), 4)) := Lib.hid (by rw [HP.out]; unfold pairGo; simp)
        have hld := HLD.out
        go_wp2_with fail
        (try simp only [Exit.inBlock, Exit.then])
        refine bodyPost_ret (v := .tuple #[rsv 0 0, .int .i64 4]) ?_ rfl ⟨by rw [HR.out], ?_⟩
        · rw [results_cell_tmp rfl]
          simp [asAddr, Result.andThen, hld]
        · exact setCell_below (setCell_below HB1.out (Nat.le_refl _)) (Nat.le_refl _)
    · rcases ey with rfl | rfl | rfl
      · have HR : Hid (pairS l = ((0, 0), 2)) := Lib.hid (by rw [HP.out]; unfold pairGo; simp)
        have hld := HLD.out
        go_wp2_with fail
        (try simp only [Exit.inBlock, Exit.then])
        refine bodyPost_ret (v := .tuple #[rsv 0 0, .int .i64 2]) ?_ rfl ⟨by rw [HR.out], ?_⟩
        · rw [results_cell_tmp rfl]
          simp [asAddr, Result.andThen, hld]
        · exact setCell_below (setCell_below HB1.out (Nat.le_refl _)) (Nat.le_refl _)
      · have HR : Hid (pairS l = ((0, 0), 2)) := Lib.hid (by rw [HP.out]; unfold pairGo; simp)
        have hld := HLD.out
        go_wp2_with fail
        (try simp only [Exit.inBlock, Exit.then])
        refine bodyPost_ret (v := .tuple #[rsv 0 0, .int .i64 2]) ?_ rfl ⟨by rw [HR.out], ?_⟩
        · rw [results_cell_tmp rfl]
          simp [asAddr, Result.andThen, hld]
        · exact setCell_below (setCell_below HB1.out (Nat.le_refl _)) (Nat.le_refl _)
      · have HR : Hid (pairS l = ((0, 0), 4)) := Lib.hid (by rw [HP.out]; unfold pairGo; simp)
        have hld := HLD.out
        go_wp2_with fail
        (try simp only [Exit.inBlock, Exit.then])
        refine bodyPost_ret (v := .tuple #[rsv 0 0, .int .i64 4]) ?_ rfl ⟨by rw [HR.out], ?_⟩
        · rw [results_cell_tmp rfl]
          simp [asAddr, Result.andThen, hld]
        · exact setCell_below (setCell_below HB1.out (Nat.le_refl _)) (Nat.le_refl _)
    · rcases ey with rfl | rfl | rfl
      · have HR : Hid (pairS l = ((0, 0), 4)) := Lib.hid (by rw [HP.out]; unfold pairGo; simp)
        have hld := HLD.out
        go_wp2_with fail
        (try simp only [Exit.inBlock, Exit.then])
        refine bodyPost_ret (v := .tuple #[rsv 0 0, .int .i64 4]) ?_ rfl ⟨by rw [HR.out], ?_⟩
        · rw [results_cell_tmp rfl]
          simp [asAddr, Result.andThen, hld]
        · exact setCell_below (setCell_below HB1.out (Nat.le_refl _)) (Nat.le_refl _)
      · have HR : Hid (pairS l = ((0, 0), 4)) := Lib.hid (by rw [HP.out]; unfold pairGo; simp)
        have hld := HLD.out
        go_wp2_with fail
        (try simp only [Exit.inBlock, Exit.then])
        refine bodyPost_ret (v := .tuple #[rsv 0 0, .int .i64 4]) ?_ rfl ⟨by rw [HR.out], ?_⟩
        · rw [results_cell_tmp rfl]
          simp [asAddr, Result.andThen, hld]
        · exact setCell_below (setCell_below HB1.out (Nat.le_refl _)) (Nat.le_refl _)
      · have HR : Hid (pairS l = ((0, 0), 4)) := Lib.hid (by rw [HP.out]; unfold pairGo; simp)
        have hld := HLD.out
        go_wp2_with fail
        (try simp only [Exit.inBlock, Exit.then])
        refine bodyPost_ret (v := .tuple #[rsv 0 0, .int .i64 4]) ?_ rfl ⟨by rw [HR.out], ?_⟩
        · rw [results_cell_tmp rfl]
          simp [asAddr, Result.andThen, hld]
        · exact setCell_below (setCell_below HB1.out (Nat.le_refl _)) (Nat.le_refl _)
end Go.Proofs.YtdcnlgjngfmbcaaDoor
