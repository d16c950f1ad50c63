/- The reference's line of layer 25: a node's line. -/
import Derived.Test.YtophilmjfdhhaaaGreatDoorGc
namespace Go.Proofs.YtophilmjfdhhaaaGreatDoor
open Go Go.RowKit Go.Shelf Go.Sort
set_option linter.unusedVariables false
set_option linter.unusedSimpArgs false
set_option maxRecDepth 100000
set_option maxHeartbeats 8000000

theorem blank_in {s : List UInt8} {k : Nat} (h : k < s.length - (lead s).length) : s.getD k 0 = 32 := by
  obtain ⟨n, hn⟩ := lead_suffix s
  have hl : s.length = n + (lead s).length := by
    have := congrArg List.length hn
    simpa using this
  rw [hn]
  simp only [List.getD]
  rw [List.getElem?_append_left (by simp; omega), List.getElem?_replicate, if_pos (by omega)]
  rfl
theorem lead_head {s : List UInt8} {c : UInt8} {r : List UInt8} (h : lead s = c :: r) : c ≠ 32 := by
  unfold lead at h
  intro hc
  subst hc
  induction s with
  | nil => simp at h
  | cons a s ih =>
    rw [List.dropWhile_cons] at h
    split at h
    · exact ih h
    · rename_i ha
      injection h with h1 h2
      subst h1
      exact ha (by rfl)
theorem blank_end {s : List UInt8} (h : s.length - (lead s).length < s.length) : s.getD (s.length - (lead s).length) 0 ≠ 32 := by
  have hd := lead_drop s
  generalize hk : s.length - (lead s).length = k at *
  have hk2 : k < s.length := h
  rw [List.drop_eq_getElem_cons hk2] at hd
  have := lead_head hd
  rw [List.getD, List.getElem?_eq_getElem hk2]
  exact this
theorem run_indexS (s : List UInt8) (k : Nat) (hk : k < s.length) (w : World) : (Instr.index 9 (str s) (.int .i64 (k : Int))).run Tryz.prog w = .ok (.int .u8 (s.getD k 0).toNat) w := by
  rw [run_index_string _ _ _ _ _ Tryz.underlying9, dif_pos ⟨by omega, by rw [sz]; omega⟩]
  have e : (⟨s.toArray⟩ : ByteArray)[((k : Int)).toNat]'(by rw [sz]; omega) = s.getD k 0 := by
    rw [byte_at _ _ (by rw [sz]; omega)]; simp
  rw [e]
theorem Tryz.infoRItemZ : (Tryz.prog.info? 73).map (fun i => (i.zero, i.size, i.bytes)) = some (some (.agg #[.string ⟨#[]⟩, .int .i64 0, .int .i64 0, .int .i64 0, .slice none 0 0]), 5, 64) := by kernel_rfl
theorem itemO_pr {ws : List (List UInt8)} {x : It} (h : itemO ws = some x) : x.pr.length ≤ ws.length := by
  unfold itemO at h
  split at h
  · cases h
  · split at h
    · cases h
    · split at h
      · cases h
      · split at h
        · injection h with h; subst h; simp
        · split at h
          · split at h
            · cases h
            · rename_i hn
              injection h with h; subst h
              have := (numsS_bounds hn).1
              simp only [List.length_drop] at this
              exact Nat.le_trans (Nat.le_of_eq this) (Nat.sub_le _ _)
          · cases h
/-- The worlds behind the copy of the row. -/
structure LSt (w : World) (T R X : Nat) (v4 s2 : Value) (xc : Array Value) (W w0 w4 : World) : Prop where
  ct : w.heap[T]? = some (.cells #[v4, s2] 32)
  cr : w.heap[R]? = some (.cells #[.slice none 0 0, .slice none 0 0] 32)
  cx : w.heap[X]? = some (.cells xc 73)
  bw : Below W.heap.size W w
  hz : ∀ k, w0.heap.size ≤ k → k < w4.heap.size → w.heap[k]? = w4.heap[k]?
  sz : w4.heap.size ≤ w.heap.size
theorem LSt.below {w w' : World} {T R X : Nat} {v4 s2 : Value} {xc : Array Value} {W w0 w4 : World} (h : LSt w T R X v4 s2 xc W w0 w4) (hb : Below w.heap.size w w') : LSt w' T R X v4 s2 xc W w0 w4 :=
  ⟨blk_below h.ct hb, blk_below h.cr hb, blk_below h.cx hb, h.bw.trans (hb.mono h.bw.size), fun k h1 h2 => (hb.block k (Nat.lt_of_lt_of_le h2 h.sz)).trans (h.hz k h1 h2), Nat.le_trans h.sz hb.size⟩
/-- The new row, read in such a world. -/
theorem row_read {W w0 w1 w4 z : World} {base : Nat} {e : TypeId} {v u : Value} {cs : List Value} {l : List It} {x : It} {n : Nat}
    (ho : w4.ownsRow base e 5 v n (cs ++ [str x.nm, .int .i64 x.par, .int .i64 x.q, .int .i64 x.p, u])) (hbase : w0.heap.size ≤ base) (hir : IR W cs l) (hxr : RI w1 u x.pr) (hxo : ∀ k, u.ownBlock = some k → w0.heap.size ≤ k ∧ k < w1.heap.size) (h14 : Below w1.heap.size w1 w4)
    (hbz : Below W.heap.size W z) (hz : ∀ k, w0.heap.size ≤ k → k < w4.heap.size → z.heap[k]? = w4.heap[k]?) (hsz : w4.heap.size ≤ z.heap.size) : RT z v (l ++ [x]) := by
  have hu : RI z u x.pr := hxr.of_block (Nat.le_trans h14.size hsz) (fun k hk => (hz k (hxo k hk).1 (Nat.lt_of_lt_of_le (hxo k hk).2 h14.size)).trans (h14.block k (hxo k hk).2))
  have ho' : z.ownsRow base e 5 v n (cs ++ [str x.nm, .int .i64 x.par, .int .i64 x.q, .int .i64 x.p, u]) := by
    obtain ⟨g1, g2⟩ := ho
    refine ⟨g1, ?_⟩
    rcases g2 with g2 | ⟨g, cap, cur, hv, hg, hh, r⟩
    · exact .inl g2
    · exact .inr ⟨g, cap, cur, hv, hg, (hz g (by omega) (blk_lt hh)).trans hh, r⟩
  exact (RT_ownR ho' ((hir.below hbz).snoc hu)).1
theorem rline_node (t : Tr) (s : List UInt8) (f : Bool) (v1 v2 : Value) (W : World) (h1 : RT W v1 t.items) (hn1 : NilOk v1) (h2 : RI W v2 t.slack) (hok : OkT t) (hsl : ¬ slackL f s) (hs : s.length ≤ 1048576) :
    Calls Tryz.prog 28 #[.agg #[v1, v2], str s, .bool f] W (rlineP t f s W) := by
  have H1 := Lib.hid h1
  obtain ⟨p1, c1, rfl, _⟩ := h1.out
  obtain ⟨p2, c2, rfl⟩ := RI_form h2
  have HN1 := Lib.hid hn1
  have H2 := Lib.hid h2
  have HLS := Lib.hid (lineS_else (t := t) hsl)
  have HOK := Lib.hid hok
  have hnb : s.length - (lead s).length ≤ s.length := Nat.sub_le _ _
  have BI := Lib.hid (fun k h => blank_in (s := s) (k := k) h)
  have BE := Lib.hid (fun h => blank_end (s := s) h)
  have IX := Lib.hid (fun k hk w => run_indexS s k hk w)
  have TL := Lib.hid (fun w => run_tailS s (s.length - (lead s).length) hnb w)
  rw [← lead_drop] at TL
  have hll := lead_len s
  have HWL : Hid ((splitC 32 [] (lead s)).length ≤ 1048577) := Lib.hid (by have := splitC_many 32 (lead s) []; omega)
  have NDL := Lib.hid (fun w => rnode_c (lead s) w (by omega))
  obtain ⟨w0, hw0⟩ : ∃ w0, w0 = (W.alloc (.cells #[.slice p1 t.items.length c1, .slice p2 t.slack.length c2] 32)).alloc (.cells #[.slice none 0 0, .slice none 0 0] 32) := ⟨_, rfl⟩
  have HW0 := Lib.hid hw0
  have CT0 : Hid (w0.heap[W.heap.size]? = some (.cells #[.slice p1 t.items.length c1, .slice p2 t.slack.length c2] 32)) := Lib.hid (by rw [hw0]; exact blk_alloc (new_blk _) _)
  have CR0 : Hid (w0.heap[W.heap.size + 1]? = some (.cells #[.slice none 0 0, .slice none 0 0] 32)) := Lib.hid (by rw [hw0]; have := new_blk (w := W.alloc (.cells #[.slice p1 t.items.length c1, .slice p2 t.slack.length c2] 32)) (.cells #[.slice none 0 0, .slice none 0 0] 32); simpa using this)
  have B0 : Hid (Below W.heap.size W w0) := Lib.hid (by rw [hw0]; exact ((Below.refl _ _).alloc (Nat.le_refl _) _).alloc (by simp) _)
  generalize splitC 32 [] (lead s) = ws at *
  generalize s.length - (lead s).length = nb at *
  generalize lead s = L at *
  have hsi : (s.length : Int) ≤ 1048576 := by omega
  have hnbi : (nb : Int) ≤ 1048576 := by omega
  have hli : (t.items.length : Int) ≤ 63 := by have := hok.len; omega
  have HSL := Lib.hid hsl
  have HX := Lib.hid (fun (hl : 6 < s.length) w => run_headS s 6 (by omega) w)
  clear hw0 h1 h2 hn1 hok hsl
  go_enter Tryz.func28, Tryz.ntmps28
  go_upto_region 1 with fail
  go_cut [27] (fun s27 w => s27 = .bool false ∧ w0 = w)
  case first =>
    cases f with
    | false =>
      go_wp2_with fail
      go_meet
      exact ⟨rfl, HW0.out⟩
    | true =>
      by_cases hl : 6 < s.length
      · have hli6 : (6 : Int) < (s.length : Int) := by omega
        have hne : ¬ s.take 6 = [115, 108, 97, 99, 107, 32] := fun e => HSL.out ⟨rfl, hl, e⟩
        have hx : ∀ w, (Instr.slice 9 (str s) none (some (.int .i64 6)) none).run Tryz.prog w = .ok (str (s.take 6)) w := fun w => HX.out hl w
        generalize s.take 6 = z at *
        have hne2 : (z != [115, 108, 97, 99, 107, 32]) = true := by simpa using hne
        have hne3 : (z == [115, 108, 97, 99, 107, 32]) = false := by simpa using hne
        clear hl
        go_wp2_with fail
        go_meet
        exact ⟨rfl, HW0.out⟩
      · have hli6 : ¬ (6 : Int) < (s.length : Int) := by omega
        have hld6 : decide (6 < s.length) = false := decide_eq_false hl
        have hld6i : decide ((6 : Int) < (s.length : Int)) = false := decide_eq_false hli6
        clear hl
        go_wp2_with fail
        go_meet
        exact ⟨rfl, HW0.out⟩
  case rest =>
    obtain ⟨rfl, rfl⟩ := hcut
    go_upto_block 1 with fail
    go_cut [10] (fun a w => a = .int .i64 nb ∧ w0 = w)
    case first =>
      go_wp2_with fail
      go_loopw [10] (fun a wr => ∃ k : Nat, a = .int .i64 k ∧ k ≤ nb ∧ w0 = wr) (fun a _ => nb - (intOf a).toNat)
      case atStart => exact ⟨0, by go_num, Nat.zero_le _, rfl⟩
      case round =>
        obtain ⟨k, rfl, hk, rfl⟩ := hrel
        have hki : (k : Int) ≤ 1048576 := by omega
        by_cases hlt : k < nb
        · have hks : (k : Int) < (s.length : Int) := by omega
          have hix : ∀ w, (Instr.index 9 (str s) (.int .i64 (k : Int))).run Tryz.prog w = .ok (.int .u8 32) w := fun w => by have := IX.out k (by omega) w; rw [BI.out k hlt] at this; exact this
          have hk1 : k + 1 ≤ nb := hlt
          clear hlt
          go_wp2_with fail
          go_roundw
          case rel => exact ⟨k + 1, by go_num, hk1, trivial⟩
          case measure => show nb - ((k : Int) + 1).toNat < nb - ((k : Int)).toNat; omega
        · obtain rfl : k = nb := by omega
          by_cases hend : k < s.length
          · have hks : (k : Int) < (s.length : Int) := by omega
            have hne := BE.out hend
            have hix : ∀ w, (Instr.index 9 (str s) (.int .i64 (k : Int))).run Tryz.prog w = .ok (.int .u8 (s.getD k 0).toNat) w := fun w => IX.out k hend w
            have hcn : (((s.getD k 0).toNat : Int) == 32) = false := by
              rw [beq_eq_false_iff_ne]
              intro e
              exact hne (UInt8.toNat_inj.1 (by have : (s.getD k 0).toNat = 32 := by omega
                                               rw [this]; rfl))
            generalize (s.getD k 0).toNat = cn at *
            clear hlt hend hne
            go_wp2_with fail
            go_meet
            exact ⟨rfl, rfl⟩
          · have hks : ¬ (k : Int) < (s.length : Int) := by omega
            have hkd : decide (k < s.length) = false := decide_eq_false hend
            clear hlt hend
            go_wp2_with fail
            go_meet
            exact ⟨rfl, rfl⟩
    case rest =>
      obtain ⟨rfl, rfl⟩ := hcut
      have htl : ∀ w, (Instr.slice 9 (str s) (some (.int .i64 (nb : Int))) none none).run Tryz.prog w = .ok (str L) w := TL.out
      have hnbs : (nb : Int) ≤ (s.length : Int) := by omega
      have ht2 : (nb : Int).tmod 2 = (nb : Int) % 2 := Int.tmod_eq_emod_of_nonneg (by omega)
      have htd : (nb : Int).tdiv 2 = (nb : Int) / 2 := Int.tdiv_eq_ediv_of_nonneg (by omega)
      go_wp2_with fail
      refine (NDL.out _).mono ?_
      rintro e w1 ⟨nm, q, p, a, n, c, rfl, hitem, hb1⟩
      have HIT := Lib.hid hitem
      have B1 := Lib.hid (B0.out.trans (hb1.mono B0.out.size))
      have CT1 := Lib.hid (blk_below CT0.out hb1)
      have CR1 := Lib.hid (blk_below CR0.out hb1)
      have HNI := Lib.hid (nodeI_item t ws nb)
      have LT0 : W.heap.size < w1.heap.size := blk_lt CT1.out
      have LT1 : W.heap.size + 1 < w1.heap.size := blk_lt CR1.out
      have t0 := blk_cell (j := 0) (v := .slice p1 t.items.length c1) CT1.out rfl
      have t1 := blk_cell (j := 1) (v := .slice p2 t.slack.length c2) CT1.out rfl
      have r0 := blk_cell (j := 0) (v := .slice none 0 0) CR1.out rfl
      have r1 := blk_cell (j := 1) (v := .slice none 0 0) CR1.out rfl
      have rf := fun i => blk_frozen CR1.out i
      have LW0 := Lib.hid (blk_lt CR0.out)
      have HW01 : Hid (w0.heap.size ≤ w1.heap.size) := Lib.hid hb1.size
      clear hitem hb1 CT0 CR0 B0 HW0 NDL TL htl HX BI IX HSL
      obtain ⟨D, hD⟩ : ∃ D, D = depS t.items ((t.items.length : Int) - 1) := ⟨_, rfl⟩
      have HD := Lib.hid hD
      have hdl := depS_le HOK.out.wl (((t.items.length : Int) - 1).toNat) ((t.items.length : Int) - 1) (Nat.le_refl _) (by omega)
      rw [← hD] at HNI hdl
      have hDb : (D : Int) ≤ 64 := by have := HOK.out.len; omega
      have DC := Lib.hid (fun w (h : Below W.heap.size W w) => rdepth_c t.items (.slice p1 t.items.length c1) ((t.items.length : Int) - 1) w (H1.out.below h) HOK.out.wl (by omega) (by omega) (by have := HOK.out.len; omega))
      rw [← hD] at DC
      have HL := Lib.hid (fun (o : Obj) => rtree_load (blk_alloc (set2_blk CR1.out (.slice p1 t.items.length c1) (.slice p2 t.slack.length c2)) o))
      have HBL := Lib.hid (fun (o : Obj) => (set2_below B1.out (Nat.le_succ W.heap.size) (.slice p1 t.items.length c1) (.slice p2 t.slack.length c2)).alloc (by rw [set2_size]; exact B1.out.size) o)
      have BX := Lib.hid (fun (o : Obj) => B1.out.alloc B1.out.size o)
      clear hD hdl
      cases hio : itemO ws with
      | none =>
        have HN : Hid ((lineS t f s).2 = 250) := Lib.hid (by
          rw [HLS.out]
          unfold nodeS
          rw [HNI.out, hio]
          split
          · rfl
          · rename_i hx; split at hx <;> cases hx)
        rw [show (none : Option It).isSome = false from rfl]
        clear hio HNI HLS
        go_wp2_with fail
        refine bodyPost_ret (v := .tuple #[.agg #[.slice p1 t.items.length c1, .slice p2 t.slack.length c2], .int .i64 250]) ?_ rfl (rlineP.bad HN.out (by decide) (HBL.out _) _ _ _ _ _ _)
        rw [results_cell_tmp rfl]
        have hld := HL.out (.cells #[str nm, .int .i64 0, .int .i64 q, .int .i64 p, .slice a n c] 73)
        simp [asAddr, Result.andThen, hld]
      | some x =>
        rw [show (some x : Option It).isSome = true from rfl]
        obtain ⟨hx0, rfl, rfl, rfl, hxr, hxo⟩ := HIT.out x hio
        have HPL : Hid (x.pr.length ≤ 1048577) := Lib.hid (Nat.le_trans (itemO_pr hio) HWL.out)
        have HNL : Hid (n = x.pr.length) := Lib.hid (by
          obtain ⟨a', c', hen⟩ := RI_form hxr
          injection hen)
        have HXR := Lib.hid hxr
        have HXO := Lib.hid hxo
        have DC2 := Lib.hid (DC.out _ (BX.out (.cells #[str x.nm, .int .i64 0, .int .i64 x.q, .int .i64 x.p, .slice a n c] 73)))
        by_cases hpar : nb % 2 = 1
        · have HN : Hid ((lineS t f s).2 = 250) := Lib.hid (by
            rw [HLS.out]
            unfold nodeS
            rw [HNI.out, if_pos (.inl hpar)])
          have e1 : ((nb : Int) % 2 != 0) = true := by rw [bne_iff_ne]; omega
          clear hpar hio HNI HLS hx0 hxr hxo HIT
          go_wp2_with fail
          refine bodyPost_ret (v := .tuple #[.agg #[.slice p1 t.items.length c1, .slice p2 t.slack.length c2], .int .i64 250]) ?_ rfl (rlineP.bad HN.out (by decide) (HBL.out _) _ _ _ _ _ _)
          rw [results_cell_tmp rfl]
          have hld := HL.out (.cells #[str x.nm, .int .i64 0, .int .i64 x.q, .int .i64 x.p, .slice a n c] 73)
          simp [asAddr, Result.andThen, hld]
        · have e1 : ((nb : Int) % 2 != 0) = false := by rw [bne_eq_false_iff_eq]; omega
          by_cases hdp : D < nb / 2
          · have HN : Hid ((lineS t f s).2 = 250) := Lib.hid (by
              rw [HLS.out]
              unfold nodeS
              rw [HNI.out, if_pos (.inr hdp)])
            have e2 : (D : Int) < (nb : Int) / 2 := by omega
            have e3 : (D : Int) + 1 < (nb : Int) / 2 + 1 := by omega
            have e4 : decide ((D : Int) + 1 < (nb : Int) / 2 + 1) = true := decide_eq_true e3
            clear hdp hpar hio HNI HLS hx0 hxr hxo HIT
            go_wp2_with (go_at_call 42; refine DC2.out.mono ?_; rintro e w' ⟨rfl, rfl⟩)
            refine bodyPost_ret (v := .tuple #[.agg #[.slice p1 t.items.length c1, .slice p2 t.slack.length c2], .int .i64 250]) ?_ rfl (rlineP.bad HN.out (by decide) (HBL.out _) _ _ _ _ _ _)
            rw [results_cell_tmp rfl]
            have hld := HL.out (.cells #[str x.nm, .int .i64 0, .int .i64 x.q, .int .i64 x.p, .slice a n c] 73)
            simp [asAddr, Result.andThen, hld]
          · have HNK : Hid (nodeI t ws nb = some { x with par := climbS t.items (nb / 2) ((t.items.length : Int) - 1) }) := Lib.hid (by
              rw [HNI.out, if_neg (by rintro (h | h); exact hpar h; exact hdp h), hio]; rfl)
            have e2 : ¬ (D : Int) < (nb : Int) / 2 := by omega
            have e3 : ¬ (D : Int) + 1 < (nb : Int) / 2 + 1 := by omega
            have e4 : decide ((D : Int) + 1 < (nb : Int) / 2 + 1) = false := decide_eq_false e3
            have HDN : Hid (nb / 2 ≤ D) := Lib.hid (by omega)
            have hx0 := Lib.hid hx0
            clear hdp hpar hio HNI hxr hxo HIT
            obtain ⟨PAR, hPAR⟩ : ∃ z, z = climbS t.items (nb / 2) ((t.items.length : Int) - 1) := ⟨_, rfl⟩
            have HPAR := Lib.hid hPAR
            have DG := Lib.hid (fun (i : Int) (h0 : -1 ≤ i) (hi : i < t.items.length) (o : Obj) => rdepth_c t.items (.slice p1 t.items.length c1) i (w1.alloc o) (H1.out.below (BX.out o)) HOK.out.wl h0 hi (by have := HOK.out.len; omega))
            have CLE := Lib.hid (fun (i : Int) h => climbS_le (l := t.items) (d := nb / 2) (i := i) h)
            have CST := Lib.hid (fun (i : Int) hi h => climbS_step HOK.out.wl (d := nb / 2) (i := i) hi h)
            have DPO := Lib.hid (fun (i : Int) h => depS_pos (l := t.items) (i := i) h)
            have DNG := Lib.hid (fun (i : Int) h => depS_neg t.items (i := i) h)
            have DLE := Lib.hid (fun (i : Int) (hi : i < t.items.length) => depS_le HOK.out.wl i.toNat i (Nat.le_refl _) hi)
            have PBO := Lib.hid (fun (i : Int) h0 hi => par_bounds HOK.out.wl (i := i) h0 hi)
            have CDP := Lib.hid (climbS_dep HOK.out.wl (nb / 2) _ ((t.items.length : Int) - 1) (Nat.le_refl _) (by omega) (by omega) (by rw [← HD.out]; exact HDN.out))
            have CBD := Lib.hid (climbS_bounds HOK.out.wl (nb / 2) _ ((t.items.length : Int) - 1) (Nat.le_refl _) (by omega) (by omega))
            rw [← hPAR] at CDP CBD HNK
            obtain ⟨pT, cT, heT, _, _, hitT⟩ := H1.out.out
            injection heT with e1T e2T e3T
            subst e1T; subst e3T
            have HITT := Lib.hid hitT
            clear hPAR hitT
            go_upto_block 3 with (go_at_call 42; refine DC2.out.mono ?_; rintro e w' ⟨rfl, rfl⟩)
            go_cut [14] (fun s14 w => s14 = .int .i64 ((t.items.length : Int) - 1) ∧ w1.alloc (.cells #[str x.nm, .int .i64 PAR, .int .i64 x.q, .int .i64 x.p, .slice a n c] 73) = w)
            case first =>
              go_wp2_with fail
              go_loopw [114] (fun s114 wr => ∃ i : Int, w1.alloc (.cells #[str x.nm, .int .i64 i, .int .i64 x.q, .int .i64 x.p, .slice a n c] 73) = wr ∧ -1 ≤ i ∧ i < t.items.length ∧ Hid (climbS t.items (nb / 2) i = PAR)) (fun _ wr => (intOf ((wr.cell? ⟨w1.heap.size, 1, none⟩).getD undef) + 1).toNat)
              case atStart => exact ⟨_, rfl, by omega, by omega, Lib.hid HPAR.out.symm⟩
              case round =>
                obtain ⟨i, rfl, hi0, hi1, hcl⟩ := hrel
                by_cases hneg : i < 0
                · have HI : Hid (i = PAR) := Lib.hid ((CLE.out i (by rw [DNG.out i hneg]; omega)).symm.trans hcl.out)
                  have hn1 : ¬ 0 ≤ i := by omega
                  have hn2 : decide (0 ≤ i) = false := decide_eq_false hn1
                  clear hneg
                  go_wp2_with fail
                  go_meet
                  exact ⟨rfl, by rw [HI.out]⟩
                · have hp0 : 0 ≤ i := by omega
                  have hp1 : decide (0 ≤ i) = true := decide_eq_true hp0
                  have DI := Lib.hid (fun o => DG.out i hi0 hi1 o)
                  have hdl := DLE.out i hi1
                  have hdi : ((depS t.items i : Nat) : Int) ≤ 64 := by omega
                  have pb := PBO.out i hp0 hi1
                  by_cases hgt : nb / 2 < depS t.items i
                  · have NX := Lib.hid ((CST.out i hi1 hgt).symm.trans hcl.out)
                    obtain ⟨bi, oi, rfl, hbi, hx⟩ := HITT.out (by omega)
                    have x1c : w1.cell? ⟨bi, oi + i.toNat * 5 + 1, none⟩ = some (.int .i64 (parOf t.items i)) := (B1.out.cell (p := ⟨bi, oi + i.toNat * 5 + 1, none⟩) hbi).trans (hx i.toNat (by omega)).c1
                    have hbi1 : bi < w1.heap.size := Nat.lt_of_lt_of_le hbi B1.out.size
                    generalize depS t.items i = di at *
                    generalize parOf t.items i = j at *
                    have hg1 : (nb : Int) / 2 + 1 ≤ (di : Int) := by omega
                    have hg2 : decide ((nb : Int) / 2 + 1 ≤ (di : Int)) = true := decide_eq_true hg1
                    have hg3 : (nb : Int) / 2 < (di : Int) := by omega
                    clear hneg hgt hx
                    go_wp2_with (go_at_call 42; refine (DI.out _).mono ?_; rintro e w' ⟨rfl, rfl⟩)
                    go_roundw
                    case rel => exact ⟨j, rfl, pb.1, by omega, NX⟩
                    case measure =>
                    have c1' : ∀ z, (w1.alloc (.cells #[str x.nm, .int .i64 z, .int .i64 x.q, .int .i64 x.p, .slice a n c] 73)).cell? ⟨w1.heap.size, 1, none⟩ = some (.int .i64 z) := fun z => cell_new1 w1 _ _ 1 _ rfl
                    rw [c1' j, c1' i]
                    show (j + 1).toNat < (i + 1).toNat
                    omega
                  · have HI : Hid (i = PAR) := Lib.hid ((CLE.out i (by omega)).symm.trans hcl.out)
                    generalize depS t.items i = di at *
                    have hg1 : ¬ (nb : Int) / 2 + 1 ≤ (di : Int) := by omega
                    have hg2 : decide ((nb : Int) / 2 + 1 ≤ (di : Int)) = false := decide_eq_false hg1
                    have hg3 : ¬ (nb : Int) / 2 < (di : Int) := by omega
                    clear hneg hgt
                    go_wp2_with (go_at_call 42; refine (DI.out _).mono ?_; rintro e w' ⟨rfl, rfl⟩)
                    go_meet
                    exact ⟨rfl, by rw [HI.out]⟩
            case rest =>
              obtain ⟨rfl, hwP⟩ := hcut
              have XP : Hid (wc.heap[w1.heap.size]? = some (.cells #[str x.nm, .int .i64 PAR, .int .i64 x.q, .int .i64 x.p, .slice a n c] 73)) := Lib.hid (by rw [← hwP]; exact new_blk _)
              have CTP : Hid (wc.heap[W.heap.size]? = some (.cells #[.slice p1 t.items.length c1, .slice p2 t.slack.length c2] 32)) := Lib.hid (by rw [← hwP]; exact blk_alloc CT1.out _)
              have CRP : Hid (wc.heap[W.heap.size + 1]? = some (.cells #[.slice none 0 0, .slice none 0 0] 32)) := Lib.hid (by rw [← hwP]; exact blk_alloc CR1.out _)
              have BWP : Hid (Below W.heap.size W wc) := Lib.hid (by rw [← hwP]; exact BX.out _)
              have B1P : Hid (Below w1.heap.size w1 wc) := Lib.hid (by rw [← hwP]; exact (Below.refl _ _).alloc (Nat.le_refl _) _)
              have LTP : Hid (w1.heap.size < wc.heap.size) := Lib.hid (blk_lt XP.out)
              obtain ⟨i0, hi, hz0, hz1, hz2⟩ := info_of1F Tryz.infoRItemZ
              have HM1 : Hid (t.items.length + 1 ≤ maxLen) := Lib.hid (by unfold maxLen; omega)
              have HM2 : Hid ((t.items.length + 1) * 64 ≤ 140737488355328) := Lib.hid (by omega)
              have HM3 : Hid (t.items.length ≤ maxLen) := Lib.hid (by unfold maxLen; omega)
              have HM4 : Hid (t.items.length * 64 ≤ 140737488355328) := Lib.hid (by omega)
              have HU : Hid (∀ u ∈ [str x.nm, .int .i64 PAR, .int .i64 x.q, .int .i64 x.p, .slice a n c], u.oneCell' = true) := Lib.hid (by intro u hu; simp at hu; rcases hu with rfl | rfl | rfl | rfl | rfl <;> rfl)
              have H05 : 0 < 5 := by decide
              have pt0 := blk_cell (j := 0) (v := .slice p1 t.items.length c1) CTP.out rfl
              clear hwP t0 t1 r0 r1 rf HITT
              go_wp2_with (first | (at_builtin; refine appendRT rfl (.tmp 116) (.tmp 118) 30 rfl wc.heap.size 73 i0 _ 64 Tryz.underlying30 hi hz0 hz1 hz2 rfl rfl W _ t.items rfl H1.out BWP.out HN1.out HM3.out HM4.out (Nat.le_refl _) (Below.refl _ _) ?_; intro v3 w3 cs hown3 hbe3 hbl3 hir3; have OW3 := Lib.hid hown3; have HBL3 := Lib.hid hbl3; have HIR3 := Lib.hid hir3; have XP3 := Lib.hid (blk_below XP.out hbl3); have x0c := blk_cell (j := 0) (v := str x.nm) XP3.out rfl; have x1c := blk_cell (j := 1) (v := .int .i64 PAR) XP3.out rfl; have x2c := blk_cell (j := 2) (v := .int .i64 x.q) XP3.out rfl; have x3c := blk_cell (j := 3) (v := .int .i64 x.p) XP3.out rfl; have x4c := blk_cell (j := 4) (v := .slice a n c) XP3.out rfl; have HS3 := Lib.hid hbl3.size; clear hown3 hbe3 hbl3 hir3) | (at_builtin; refine appendN2 (W := wc) rfl (.tmp 120) (.tmp 122) 30 rfl wc.heap.size 73 i0 _ 5 64 Tryz.underlying30 hi hz0 hz1 hz2 rfl H05 _ _ _ rfl OW3.out _ [str x.nm, .int .i64 PAR, .int .i64 x.q, .int .i64 x.p, .slice a n c] _ rfl rfl rfl HU.out HM1.out HM2.out HS3.out HBL3.out ?_; intro v4 w4 hown4 hbe4 hgr4; obtain ⟨a4, c4, rfl⟩ := own_form1 hown4; have OW4 := Lib.hid hown4; have BE4 := Lib.hid hbe4; have CT4 := Lib.hid (blk_below CTP.out hbe4); have CR4 := Lib.hid (blk_below CRP.out hbe4); have XP4 := Lib.hid (blk_below XP.out hbe4); have pt4 := blk_cell (j := 0) (v := .slice p1 t.items.length c1) CT4.out rfl; have pf4 := blk_frozen CT4.out 0; clear hown4 hbe4 hgr4 x0c x1c x2c x3c x4c))
              have S5 : Hid (LSt (w4.setCell ⟨W.heap.size, 0, none⟩ (.slice a4 (t.items.length + 1) c4)) W.heap.size (W.heap.size + 1) w1.heap.size (.slice a4 (t.items.length + 1) c4) (.slice p2 t.slack.length c2) #[str x.nm, .int .i64 PAR, .int .i64 x.q, .int .i64 x.p, .slice a n c] W w0 w4) := Lib.hid ⟨blk_set CT4.out 0 _, (blk_set_other (by omega) _ _).trans CR4.out, (blk_set_other (by omega) _ _).trans XP4.out, (BWP.out.trans (BE4.out.mono BWP.out.size)).setCell (p := ⟨W.heap.size, 0, none⟩) (Nat.le_refl _) _, fun k h1 h2 => blk_set_other (by have := LW0.out; omega) _ _, by simp⟩
              have H14 : Hid (Below w1.heap.size w1 w4) := Lib.hid (B1P.out.trans (BE4.out.mono (Nat.le_of_lt LTP.out)))
              have HB0 : Hid (w0.heap.size ≤ wc.heap.size) := Lib.hid (by have := HW01.out; have := LTP.out; omega)
              have FIN : Hid (∀ z, Below W.heap.size W z → (∀ k, w0.heap.size ≤ k → k < w4.heap.size → z.heap[k]? = w4.heap[k]?) → w4.heap.size ≤ z.heap.size → RT z (.slice a4 (t.items.length + 1) c4) (t.items ++ [({ x with par := PAR } : It)])) := Lib.hid (fun z g1 g2 g3 => row_read (x := ({ x with par := PAR } : It)) OW4.out HB0.out HIR3.out HXR.out HXO.out H14.out g1 g2 g3)
              have RTW : Hid (∀ w, LSt w W.heap.size (W.heap.size + 1) w1.heap.size (.slice a4 (t.items.length + 1) c4) (.slice p2 t.slack.length c2) #[str x.nm, .int .i64 PAR, .int .i64 x.q, .int .i64 x.p, .slice a n c] W w0 w4 → RT w (.slice a4 (t.items.length + 1) c4) (t.items ++ [({ x with par := PAR } : It)])) := Lib.hid (fun w h => FIN.out w h.bw h.hz h.sz)
              have hln : (t.items ++ [({ x with par := PAR } : It)]).length = t.items.length + 1 := by simp
              have TW := Lib.hid (rtwin_c (t.items ++ [({ x with par := PAR } : It)]) (.slice a4 (t.items.length + 1) c4) t.items.length _ (RTW.out _ S5.out) (by rw [hln]; omega) (by rw [hln]; have := HOK.out.len; omega))
              have VA := Lib.hid (fun w => rvalid_c x.q x.p w)
              have PRI : Hid (∀ w, LSt w W.heap.size (W.heap.size + 1) w1.heap.size (.slice a4 (t.items.length + 1) c4) (.slice p2 t.slack.length c2) #[str x.nm, .int .i64 PAR, .int .i64 x.q, .int .i64 x.p, .slice a n c] W w0 w4 → Calls Tryz.prog 52 #[.slice a n c] w fun e w' => e = .returned (.bool (prOk x.pr)) ∧ w = w') := Lib.hid (fun w h => rprios_c x.pr _ w (HXR.out.of_block (Nat.le_trans H14.out.size h.sz) (fun k hk => (h.hz k (HXO.out k hk).1 (Nat.lt_of_lt_of_le (HXO.out k hk).2 H14.out.size)).trans (H14.out.block k (HXO.out k hk).2))) (by have := HPL.out; omega))
              have UN := Lib.hid (fun (hq : okR x.q x.p = true) w (h : LSt w W.heap.size (W.heap.size + 1) w1.heap.size (.slice a4 (t.items.length + 1) c4) (.slice p2 t.slack.length c2) #[str x.nm, .int .i64 PAR, .int .i64 x.q, .int .i64 x.p, .slice a n c] W w0 w4) => runder_c (t.items ++ [({ x with par := PAR } : It)]) (.slice a4 (t.items.length + 1) c4) PAR w (RTW.out w h) (by rw [hln]; have := HOK.out.len; omega) (by
                intro y hy
                rcases List.mem_append.1 hy with hy | hy
                · exact HOK.out.it y hy
                · rw [List.mem_singleton.1 hy]; exact hq))
              have HCH : Hid (lineS t f s = (⟨t.items ++ [({ x with par := PAR } : It)], t.slack⟩, if twinS (t.items ++ [({ x with par := PAR } : It)]) t.items.length = true then 251
                else if (okR x.q x.p && prOk x.pr) = false then 2
                else if 8 < nb / 2 + 1 then 90
                else if 63 < t.items.length + 1 ∨ 8 < x.pr.length then 30
                else if 1048576 < underG (t.items ++ [({ x with par := PAR } : It)]) PAR then 80 else 0)) := Lib.hid (by
                rw [HLS.out]
                unfold nodeS
                rw [HNK.out]
                have := chkI_new (t := t) (x := ({ x with par := PAR } : It)) HOK.out.wl CBD.out.1 (by have := CBD.out.2; show PAR < _; omega)
                rw [show ({ x with par := PAR } : It).par = PAR from rfl, CDP.out] at this
                show (_, chkI (t.items ++ [({ x with par := PAR } : It)]) t.items.length) = _
                rw [this])
              have HUB := Lib.hid (fun (hq : okR x.q x.p = true) => underG_bounds PAR (t.items ++ [({ x with par := PAR } : It)]) (by
                intro y hy
                rcases List.mem_append.1 hy with hy | hy
                · exact HOK.out.it y hy
                · rw [List.mem_singleton.1 hy]; exact hq))
              generalize twinS (t.items ++ [({ x with par := PAR } : It)]) t.items.length = tw at *
              clear pt4 pf4 HLS HNK CT4 CR4 XP4
              cases tw with
              | true =>
                have HN : Hid ((lineS t f s).2 = 251) := Lib.hid (by rw [HCH.out]; rfl)
                clear HCH
                go_wp2_with (first | (go_at_call 53; refine TW.out.mono ?_; rintro e wA ⟨rfl, hbA⟩; have SA := Lib.hid (S5.out.below hbA); clear hbA; have ta0 := blk_cell (j := 0) (v := .slice a4 (t.items.length + 1) c4) SA.out.ct rfl; have ta1 := blk_cell (j := 1) (v := .slice p2 t.slack.length c2) SA.out.ct rfl; have ra0 := blk_cell (j := 0) (v := .slice none 0 0) SA.out.cr rfl; have ra1 := blk_cell (j := 1) (v := .slice none 0 0) SA.out.cr rfl; have raf := fun i => blk_frozen SA.out.cr i; have xa1 := blk_cell (j := 1) (v := .int .i64 PAR) SA.out.cx rfl; have xa2 := blk_cell (j := 2) (v := .int .i64 x.q) SA.out.cx rfl; have xa3 := blk_cell (j := 3) (v := .int .i64 x.p) SA.out.cx rfl; have xa4 := blk_cell (j := 4) (v := .slice a n c) SA.out.cx rfl) | (go_at_call 54; refine (VA.out _).mono ?_; rintro e wB ⟨rfl, hbB⟩; have SB := Lib.hid (SA.out.below hbB); clear hbB; have ta0 := blk_cell (j := 0) (v := .slice a4 (t.items.length + 1) c4) SB.out.ct rfl; have ta1 := blk_cell (j := 1) (v := .slice p2 t.slack.length c2) SB.out.ct rfl; have ra0 := blk_cell (j := 0) (v := .slice none 0 0) SB.out.cr rfl; have ra1 := blk_cell (j := 1) (v := .slice none 0 0) SB.out.cr rfl; have raf := fun i => blk_frozen SB.out.cr i; have xa1 := blk_cell (j := 1) (v := .int .i64 PAR) SB.out.cx rfl; have xa2 := blk_cell (j := 2) (v := .int .i64 x.q) SB.out.cx rfl; have xa3 := blk_cell (j := 3) (v := .int .i64 x.p) SB.out.cx rfl; have xa4 := blk_cell (j := 4) (v := .slice a n c) SB.out.cx rfl) | (go_at_call 52; refine (PRI.out _ SB.out).mono ?_; rintro e w' ⟨rfl, rfl⟩) | (go_at_call 31; refine (UN.out _ SB.out).mono ?_; rintro e wC ⟨rfl, hbC⟩; have SC := Lib.hid (SB.out.below hbC); clear hbC; have ta0 := blk_cell (j := 0) (v := .slice a4 (t.items.length + 1) c4) SC.out.ct rfl; have ta1 := blk_cell (j := 1) (v := .slice p2 t.slack.length c2) SC.out.ct rfl; have ra0 := blk_cell (j := 0) (v := .slice none 0 0) SC.out.cr rfl; have ra1 := blk_cell (j := 1) (v := .slice none 0 0) SC.out.cr rfl; have raf := fun i => blk_frozen SC.out.cr i; have xa1 := blk_cell (j := 1) (v := .int .i64 PAR) SC.out.cx rfl; have xa2 := blk_cell (j := 2) (v := .int .i64 x.q) SC.out.cx rfl; have xa3 := blk_cell (j := 3) (v := .int .i64 x.p) SC.out.cx rfl; have xa4 := blk_cell (j := 4) (v := .slice a n c) SC.out.cx rfl))
                have HL := Lib.hid (rtree_load (set2_blk SA.out.cr (.slice a4 (t.items.length + 1) c4) (.slice p2 t.slack.length c2)))
                refine bodyPost_ret (v := .tuple #[.agg #[.slice a4 (t.items.length + 1) c4, .slice p2 t.slack.length c2], .int .i64 251]) ?_ rfl (rlineP.bad HN.out (by decide) (set2_below SA.out.bw (Nat.le_succ W.heap.size) _ _) _ _ _ _ _ _)
                rw [results_cell_tmp rfl]
                have hld := HL.out
                simp [asAddr, Result.andThen, hld]
              | false =>
                have HCH2 : Hid ((lineS t f s).2 = if (okR x.q x.p && prOk x.pr) = false then 2
                  else if 8 < nb / 2 + 1 then 90
                  else if 63 < t.items.length + 1 ∨ 8 < x.pr.length then 30
                  else if 1048576 < underG (t.items ++ [({ x with par := PAR } : It)]) PAR then 80 else 0) := Lib.hid (by rw [HCH.out]; rfl)
                cases hq : okR x.q x.p with
                | false =>
                  have HN : Hid ((lineS t f s).2 = 2) := Lib.hid (by rw [HCH2.out, hq]; rfl)
                  have VA2 : Hid (∀ w, Calls Tryz.prog 54 #[.agg #[.int .i64 x.q, .int .i64 x.p]] w fun e w' => e = .returned (.int .i64 2) ∧ Below w.heap.size w w') := Lib.hid (fun w => by have := VA.out w; rw [hq] at this; exact this)
                  clear HCH HCH2 hq VA UN HUB
                  go_wp2_with (first | (go_at_call 53; refine TW.out.mono ?_; rintro e wA ⟨rfl, hbA⟩; have SA := Lib.hid (S5.out.below hbA); clear hbA; have ta0 := blk_cell (j := 0) (v := .slice a4 (t.items.length + 1) c4) SA.out.ct rfl; have ta1 := blk_cell (j := 1) (v := .slice p2 t.slack.length c2) SA.out.ct rfl; have ra0 := blk_cell (j := 0) (v := .slice none 0 0) SA.out.cr rfl; have ra1 := blk_cell (j := 1) (v := .slice none 0 0) SA.out.cr rfl; have raf := fun i => blk_frozen SA.out.cr i; have xa1 := blk_cell (j := 1) (v := .int .i64 PAR) SA.out.cx rfl; have xa2 := blk_cell (j := 2) (v := .int .i64 x.q) SA.out.cx rfl; have xa3 := blk_cell (j := 3) (v := .int .i64 x.p) SA.out.cx rfl; have xa4 := blk_cell (j := 4) (v := .slice a n c) SA.out.cx rfl) | (go_at_call 54; refine (VA2.out _).mono ?_; rintro e wB ⟨rfl, hbB⟩; have SB := Lib.hid (SA.out.below hbB); clear hbB; have ta0 := blk_cell (j := 0) (v := .slice a4 (t.items.length + 1) c4) SB.out.ct rfl; have ta1 := blk_cell (j := 1) (v := .slice p2 t.slack.length c2) SB.out.ct rfl; have ra0 := blk_cell (j := 0) (v := .slice none 0 0) SB.out.cr rfl; have ra1 := blk_cell (j := 1) (v := .slice none 0 0) SB.out.cr rfl; have raf := fun i => blk_frozen SB.out.cr i; have xa1 := blk_cell (j := 1) (v := .int .i64 PAR) SB.out.cx rfl; have xa2 := blk_cell (j := 2) (v := .int .i64 x.q) SB.out.cx rfl; have xa3 := blk_cell (j := 3) (v := .int .i64 x.p) SB.out.cx rfl; have xa4 := blk_cell (j := 4) (v := .slice a n c) SB.out.cx rfl) | (go_at_call 52; refine (PRI.out _ SB.out).mono ?_; rintro e w' ⟨rfl, rfl⟩) | (go_at_call 31; refine (UN2.out _ SB.out).mono ?_; rintro e wC ⟨rfl, hbC⟩; have SC := Lib.hid (SB.out.below hbC); clear hbC; have ta0 := blk_cell (j := 0) (v := .slice a4 (t.items.length + 1) c4) SC.out.ct rfl; have ta1 := blk_cell (j := 1) (v := .slice p2 t.slack.length c2) SC.out.ct rfl; have ra0 := blk_cell (j := 0) (v := .slice none 0 0) SC.out.cr rfl; have ra1 := blk_cell (j := 1) (v := .slice none 0 0) SC.out.cr rfl; have raf := fun i => blk_frozen SC.out.cr i; have xa1 := blk_cell (j := 1) (v := .int .i64 PAR) SC.out.cx rfl; have xa2 := blk_cell (j := 2) (v := .int .i64 x.q) SC.out.cx rfl; have xa3 := blk_cell (j := 3) (v := .int .i64 x.p) SC.out.cx rfl; have xa4 := blk_cell (j := 4) (v := .slice a n c) SC.out.cx rfl))
                  have HL := Lib.hid (rtree_load (set2_blk SB.out.cr (.slice a4 (t.items.length + 1) c4) (.slice p2 t.slack.length c2)))
                  refine bodyPost_ret (v := .tuple #[.agg #[.slice a4 (t.items.length + 1) c4, .slice p2 t.slack.length c2], .int .i64 2]) ?_ rfl (rlineP.bad HN.out (by decide) (set2_below SB.out.bw (Nat.le_succ W.heap.size) _ _) _ _ _ _ _ _)
                  rw [results_cell_tmp rfl]
                  have hld := HL.out
                  simp [asAddr, Result.andThen, hld]
                | true =>
                  have VA2 : Hid (∀ w, Calls Tryz.prog 54 #[.agg #[.int .i64 x.q, .int .i64 x.p]] w fun e w' => e = .returned (.int .i64 0) ∧ Below w.heap.size w w') := Lib.hid (fun w => by have := VA.out w; rw [hq] at this; exact this)
                  have UN2 := Lib.hid (UN.out hq)
                  have hub := HUB.out hq
                  rw [hq] at HCH HCH2
                  clear hq VA UN HUB
                  cases hp : prOk x.pr with
                  | false =>
                    have HN : Hid ((lineS t f s).2 = 2) := Lib.hid (by rw [HCH2.out, hp]; rfl)
                    rw [hp] at PRI
                    clear HCH HCH2 hp UN2 hub
                    go_wp2_with (first | (go_at_call 53; refine TW.out.mono ?_; rintro e wA ⟨rfl, hbA⟩; have SA := Lib.hid (S5.out.below hbA); clear hbA; have ta0 := blk_cell (j := 0) (v := .slice a4 (t.items.length + 1) c4) SA.out.ct rfl; have ta1 := blk_cell (j := 1) (v := .slice p2 t.slack.length c2) SA.out.ct rfl; have ra0 := blk_cell (j := 0) (v := .slice none 0 0) SA.out.cr rfl; have ra1 := blk_cell (j := 1) (v := .slice none 0 0) SA.out.cr rfl; have raf := fun i => blk_frozen SA.out.cr i; have xa1 := blk_cell (j := 1) (v := .int .i64 PAR) SA.out.cx rfl; have xa2 := blk_cell (j := 2) (v := .int .i64 x.q) SA.out.cx rfl; have xa3 := blk_cell (j := 3) (v := .int .i64 x.p) SA.out.cx rfl; have xa4 := blk_cell (j := 4) (v := .slice a n c) SA.out.cx rfl) | (go_at_call 54; refine (VA2.out _).mono ?_; rintro e wB ⟨rfl, hbB⟩; have SB := Lib.hid (SA.out.below hbB); clear hbB; have ta0 := blk_cell (j := 0) (v := .slice a4 (t.items.length + 1) c4) SB.out.ct rfl; have ta1 := blk_cell (j := 1) (v := .slice p2 t.slack.length c2) SB.out.ct rfl; have ra0 := blk_cell (j := 0) (v := .slice none 0 0) SB.out.cr rfl; have ra1 := blk_cell (j := 1) (v := .slice none 0 0) SB.out.cr rfl; have raf := fun i => blk_frozen SB.out.cr i; have xa1 := blk_cell (j := 1) (v := .int .i64 PAR) SB.out.cx rfl; have xa2 := blk_cell (j := 2) (v := .int .i64 x.q) SB.out.cx rfl; have xa3 := blk_cell (j := 3) (v := .int .i64 x.p) SB.out.cx rfl; have xa4 := blk_cell (j := 4) (v := .slice a n c) SB.out.cx rfl) | (go_at_call 52; refine (PRI.out _ SB.out).mono ?_; rintro e w' ⟨rfl, rfl⟩) | (go_at_call 31; refine (UN2.out _ SB.out).mono ?_; rintro e wC ⟨rfl, hbC⟩; have SC := Lib.hid (SB.out.below hbC); clear hbC; have ta0 := blk_cell (j := 0) (v := .slice a4 (t.items.length + 1) c4) SC.out.ct rfl; have ta1 := blk_cell (j := 1) (v := .slice p2 t.slack.length c2) SC.out.ct rfl; have ra0 := blk_cell (j := 0) (v := .slice none 0 0) SC.out.cr rfl; have ra1 := blk_cell (j := 1) (v := .slice none 0 0) SC.out.cr rfl; have raf := fun i => blk_frozen SC.out.cr i; have xa1 := blk_cell (j := 1) (v := .int .i64 PAR) SC.out.cx rfl; have xa2 := blk_cell (j := 2) (v := .int .i64 x.q) SC.out.cx rfl; have xa3 := blk_cell (j := 3) (v := .int .i64 x.p) SC.out.cx rfl; have xa4 := blk_cell (j := 4) (v := .slice a n c) SC.out.cx rfl))
                    have HL := Lib.hid (rtree_load (set2_blk SB.out.cr (.slice a4 (t.items.length + 1) c4) (.slice p2 t.slack.length c2)))
                    refine bodyPost_ret (v := .tuple #[.agg #[.slice a4 (t.items.length + 1) c4, .slice p2 t.slack.length c2], .int .i64 2]) ?_ rfl (rlineP.bad HN.out (by decide) (set2_below SB.out.bw (Nat.le_succ W.heap.size) _ _) _ _ _ _ _ _)
                    rw [results_cell_tmp rfl]
                    have hld := HL.out
                    simp [asAddr, Result.andThen, hld]
                  | true =>
                    rw [hp] at PRI
                    have HCH3 : Hid ((lineS t f s).2 = if 8 < nb / 2 + 1 then 90
                      else if 63 < t.items.length + 1 ∨ 8 < x.pr.length then 30
                      else if 1048576 < underG (t.items ++ [({ x with par := PAR } : It)]) PAR then 80 else 0) := Lib.hid (by rw [HCH2.out, hp]; rfl)
                    clear hp HCH2
                    by_cases h8 : 8 < nb / 2 + 1
                    · have HN : Hid ((lineS t f s).2 = 90) := Lib.hid (by rw [HCH3.out, if_pos h8])
                      have q1 : (8 : Int) < (nb : Int) / 2 + 1 := by omega
                      have q2 : decide ((8 : Int) < (nb : Int) / 2 + 1) = true := decide_eq_true q1
                      have q3 : (8 : Int) ≤ (nb : Int) / 2 := by omega
                      clear h8 HCH HCH3 UN2 hub
                      go_wp2_with (first | (go_at_call 53; refine TW.out.mono ?_; rintro e wA ⟨rfl, hbA⟩; have SA := Lib.hid (S5.out.below hbA); clear hbA; have ta0 := blk_cell (j := 0) (v := .slice a4 (t.items.length + 1) c4) SA.out.ct rfl; have ta1 := blk_cell (j := 1) (v := .slice p2 t.slack.length c2) SA.out.ct rfl; have ra0 := blk_cell (j := 0) (v := .slice none 0 0) SA.out.cr rfl; have ra1 := blk_cell (j := 1) (v := .slice none 0 0) SA.out.cr rfl; have raf := fun i => blk_frozen SA.out.cr i; have xa1 := blk_cell (j := 1) (v := .int .i64 PAR) SA.out.cx rfl; have xa2 := blk_cell (j := 2) (v := .int .i64 x.q) SA.out.cx rfl; have xa3 := blk_cell (j := 3) (v := .int .i64 x.p) SA.out.cx rfl; have xa4 := blk_cell (j := 4) (v := .slice a n c) SA.out.cx rfl) | (go_at_call 54; refine (VA2.out _).mono ?_; rintro e wB ⟨rfl, hbB⟩; have SB := Lib.hid (SA.out.below hbB); clear hbB; have ta0 := blk_cell (j := 0) (v := .slice a4 (t.items.length + 1) c4) SB.out.ct rfl; have ta1 := blk_cell (j := 1) (v := .slice p2 t.slack.length c2) SB.out.ct rfl; have ra0 := blk_cell (j := 0) (v := .slice none 0 0) SB.out.cr rfl; have ra1 := blk_cell (j := 1) (v := .slice none 0 0) SB.out.cr rfl; have raf := fun i => blk_frozen SB.out.cr i; have xa1 := blk_cell (j := 1) (v := .int .i64 PAR) SB.out.cx rfl; have xa2 := blk_cell (j := 2) (v := .int .i64 x.q) SB.out.cx rfl; have xa3 := blk_cell (j := 3) (v := .int .i64 x.p) SB.out.cx rfl; have xa4 := blk_cell (j := 4) (v := .slice a n c) SB.out.cx rfl) | (go_at_call 52; refine (PRI.out _ SB.out).mono ?_; rintro e w' ⟨rfl, rfl⟩) | (go_at_call 31; refine (UN2.out _ SB.out).mono ?_; rintro e wC ⟨rfl, hbC⟩; have SC := Lib.hid (SB.out.below hbC); clear hbC; have ta0 := blk_cell (j := 0) (v := .slice a4 (t.items.length + 1) c4) SC.out.ct rfl; have ta1 := blk_cell (j := 1) (v := .slice p2 t.slack.length c2) SC.out.ct rfl; have ra0 := blk_cell (j := 0) (v := .slice none 0 0) SC.out.cr rfl; have ra1 := blk_cell (j := 1) (v := .slice none 0 0) SC.out.cr rfl; have raf := fun i => blk_frozen SC.out.cr i; have xa1 := blk_cell (j := 1) (v := .int .i64 PAR) SC.out.cx rfl; have xa2 := blk_cell (j := 2) (v := .int .i64 x.q) SC.out.cx rfl; have xa3 := blk_cell (j := 3) (v := .int .i64 x.p) SC.out.cx rfl; have xa4 := blk_cell (j := 4) (v := .slice a n c) SC.out.cx rfl))
                      have HL := Lib.hid (rtree_load (set2_blk SB.out.cr (.slice a4 (t.items.length + 1) c4) (.slice p2 t.slack.length c2)))
                      refine bodyPost_ret (v := .tuple #[.agg #[.slice a4 (t.items.length + 1) c4, .slice p2 t.slack.length c2], .int .i64 90]) ?_ rfl (rlineP.bad HN.out (by decide) (set2_below SB.out.bw (Nat.le_succ W.heap.size) _ _) _ _ _ _ _ _)
                      rw [results_cell_tmp rfl]
                      have hld := HL.out
                      simp [asAddr, Result.andThen, hld]
                    · have HCH4 := Lib.hid (HCH3.out.trans (if_neg h8))
                      have q1 : ¬ (8 : Int) < (nb : Int) / 2 + 1 := by omega
                      have q2 : decide ((8 : Int) < (nb : Int) / 2 + 1) = false := decide_eq_false q1
                      have q3 : ¬ (8 : Int) ≤ (nb : Int) / 2 := by omega
                      clear h8 HCH3
                      by_cases h63 : 63 < t.items.length + 1
                      · have HN : Hid ((lineS t f s).2 = 30) := Lib.hid (by rw [HCH4.out, if_pos (.inl h63)])
                        have q4 : (63 : Int) < (t.items.length : Int) + 1 := by omega
                        have q5 : decide (63 < t.items.length + 1) = true := decide_eq_true h63
                        have q6 : decide ((63 : Int) < (t.items.length : Int) + 1) = true := decide_eq_true q4
                        clear h63 HCH HCH4 UN2 hub
                        go_wp2_with (first | (go_at_call 53; refine TW.out.mono ?_; rintro e wA ⟨rfl, hbA⟩; have SA := Lib.hid (S5.out.below hbA); clear hbA; have ta0 := blk_cell (j := 0) (v := .slice a4 (t.items.length + 1) c4) SA.out.ct rfl; have ta1 := blk_cell (j := 1) (v := .slice p2 t.slack.length c2) SA.out.ct rfl; have ra0 := blk_cell (j := 0) (v := .slice none 0 0) SA.out.cr rfl; have ra1 := blk_cell (j := 1) (v := .slice none 0 0) SA.out.cr rfl; have raf := fun i => blk_frozen SA.out.cr i; have xa1 := blk_cell (j := 1) (v := .int .i64 PAR) SA.out.cx rfl; have xa2 := blk_cell (j := 2) (v := .int .i64 x.q) SA.out.cx rfl; have xa3 := blk_cell (j := 3) (v := .int .i64 x.p) SA.out.cx rfl; have xa4 := blk_cell (j := 4) (v := .slice a n c) SA.out.cx rfl) | (go_at_call 54; refine (VA2.out _).mono ?_; rintro e wB ⟨rfl, hbB⟩; have SB := Lib.hid (SA.out.below hbB); clear hbB; have ta0 := blk_cell (j := 0) (v := .slice a4 (t.items.length + 1) c4) SB.out.ct rfl; have ta1 := blk_cell (j := 1) (v := .slice p2 t.slack.length c2) SB.out.ct rfl; have ra0 := blk_cell (j := 0) (v := .slice none 0 0) SB.out.cr rfl; have ra1 := blk_cell (j := 1) (v := .slice none 0 0) SB.out.cr rfl; have raf := fun i => blk_frozen SB.out.cr i; have xa1 := blk_cell (j := 1) (v := .int .i64 PAR) SB.out.cx rfl; have xa2 := blk_cell (j := 2) (v := .int .i64 x.q) SB.out.cx rfl; have xa3 := blk_cell (j := 3) (v := .int .i64 x.p) SB.out.cx rfl; have xa4 := blk_cell (j := 4) (v := .slice a n c) SB.out.cx rfl) | (go_at_call 52; refine (PRI.out _ SB.out).mono ?_; rintro e w' ⟨rfl, rfl⟩) | (go_at_call 31; refine (UN2.out _ SB.out).mono ?_; rintro e wC ⟨rfl, hbC⟩; have SC := Lib.hid (SB.out.below hbC); clear hbC; have ta0 := blk_cell (j := 0) (v := .slice a4 (t.items.length + 1) c4) SC.out.ct rfl; have ta1 := blk_cell (j := 1) (v := .slice p2 t.slack.length c2) SC.out.ct rfl; have ra0 := blk_cell (j := 0) (v := .slice none 0 0) SC.out.cr rfl; have ra1 := blk_cell (j := 1) (v := .slice none 0 0) SC.out.cr rfl; have raf := fun i => blk_frozen SC.out.cr i; have xa1 := blk_cell (j := 1) (v := .int .i64 PAR) SC.out.cx rfl; have xa2 := blk_cell (j := 2) (v := .int .i64 x.q) SC.out.cx rfl; have xa3 := blk_cell (j := 3) (v := .int .i64 x.p) SC.out.cx rfl; have xa4 := blk_cell (j := 4) (v := .slice a n c) SC.out.cx rfl))
                        have HL := Lib.hid (rtree_load (set2_blk SB.out.cr (.slice a4 (t.items.length + 1) c4) (.slice p2 t.slack.length c2)))
                        refine bodyPost_ret (v := .tuple #[.agg #[.slice a4 (t.items.length + 1) c4, .slice p2 t.slack.length c2], .int .i64 30]) ?_ rfl (rlineP.bad HN.out (by decide) (set2_below SB.out.bw (Nat.le_succ W.heap.size) _ _) _ _ _ _ _ _)
                        rw [results_cell_tmp rfl]
                        have hld := HL.out
                        simp [asAddr, Result.andThen, hld]
                      · have q4 : ¬ (63 : Int) < (t.items.length : Int) + 1 := by omega
                        have q5 : decide (63 < t.items.length + 1) = false := decide_eq_false h63
                        have q6 : decide ((63 : Int) < (t.items.length : Int) + 1) = false := decide_eq_false q4
                        by_cases hp8 : 8 < x.pr.length
                        · have HN : Hid ((lineS t f s).2 = 30) := Lib.hid (by rw [HCH4.out, if_pos (.inr hp8)])
                          have q7 : (8 : Int) < (n : Int) := by rw [HNL.out]; omega
                          have q8 : decide (8 < n) = true := decide_eq_true (by rw [HNL.out]; exact hp8)
                          have q9 : decide ((8 : Int) < (n : Int)) = true := decide_eq_true q7
                          clear hp8 h63 HCH HCH4 UN2 hub
                          go_wp2_with (first | (go_at_call 53; refine TW.out.mono ?_; rintro e wA ⟨rfl, hbA⟩; have SA := Lib.hid (S5.out.below hbA); clear hbA; have ta0 := blk_cell (j := 0) (v := .slice a4 (t.items.length + 1) c4) SA.out.ct rfl; have ta1 := blk_cell (j := 1) (v := .slice p2 t.slack.length c2) SA.out.ct rfl; have ra0 := blk_cell (j := 0) (v := .slice none 0 0) SA.out.cr rfl; have ra1 := blk_cell (j := 1) (v := .slice none 0 0) SA.out.cr rfl; have raf := fun i => blk_frozen SA.out.cr i; have xa1 := blk_cell (j := 1) (v := .int .i64 PAR) SA.out.cx rfl; have xa2 := blk_cell (j := 2) (v := .int .i64 x.q) SA.out.cx rfl; have xa3 := blk_cell (j := 3) (v := .int .i64 x.p) SA.out.cx rfl; have xa4 := blk_cell (j := 4) (v := .slice a n c) SA.out.cx rfl) | (go_at_call 54; refine (VA2.out _).mono ?_; rintro e wB ⟨rfl, hbB⟩; have SB := Lib.hid (SA.out.below hbB); clear hbB; have ta0 := blk_cell (j := 0) (v := .slice a4 (t.items.length + 1) c4) SB.out.ct rfl; have ta1 := blk_cell (j := 1) (v := .slice p2 t.slack.length c2) SB.out.ct rfl; have ra0 := blk_cell (j := 0) (v := .slice none 0 0) SB.out.cr rfl; have ra1 := blk_cell (j := 1) (v := .slice none 0 0) SB.out.cr rfl; have raf := fun i => blk_frozen SB.out.cr i; have xa1 := blk_cell (j := 1) (v := .int .i64 PAR) SB.out.cx rfl; have xa2 := blk_cell (j := 2) (v := .int .i64 x.q) SB.out.cx rfl; have xa3 := blk_cell (j := 3) (v := .int .i64 x.p) SB.out.cx rfl; have xa4 := blk_cell (j := 4) (v := .slice a n c) SB.out.cx rfl) | (go_at_call 52; refine (PRI.out _ SB.out).mono ?_; rintro e w' ⟨rfl, rfl⟩) | (go_at_call 31; refine (UN2.out _ SB.out).mono ?_; rintro e wC ⟨rfl, hbC⟩; have SC := Lib.hid (SB.out.below hbC); clear hbC; have ta0 := blk_cell (j := 0) (v := .slice a4 (t.items.length + 1) c4) SC.out.ct rfl; have ta1 := blk_cell (j := 1) (v := .slice p2 t.slack.length c2) SC.out.ct rfl; have ra0 := blk_cell (j := 0) (v := .slice none 0 0) SC.out.cr rfl; have ra1 := blk_cell (j := 1) (v := .slice none 0 0) SC.out.cr rfl; have raf := fun i => blk_frozen SC.out.cr i; have xa1 := blk_cell (j := 1) (v := .int .i64 PAR) SC.out.cx rfl; have xa2 := blk_cell (j := 2) (v := .int .i64 x.q) SC.out.cx rfl; have xa3 := blk_cell (j := 3) (v := .int .i64 x.p) SC.out.cx rfl; have xa4 := blk_cell (j := 4) (v := .slice a n c) SC.out.cx rfl))
                          have HL := Lib.hid (rtree_load (set2_blk SB.out.cr (.slice a4 (t.items.length + 1) c4) (.slice p2 t.slack.length c2)))
                          refine bodyPost_ret (v := .tuple #[.agg #[.slice a4 (t.items.length + 1) c4, .slice p2 t.slack.length c2], .int .i64 30]) ?_ rfl (rlineP.bad HN.out (by decide) (set2_below SB.out.bw (Nat.le_succ W.heap.size) _ _) _ _ _ _ _ _)
                          rw [results_cell_tmp rfl]
                          have hld := HL.out
                          simp [asAddr, Result.andThen, hld]
                        · have HCH5 := Lib.hid (HCH4.out.trans (if_neg (by rintro (h | h); exact h63 h; exact hp8 h)))
                          have q7 : ¬ (8 : Int) < (n : Int) := by rw [HNL.out]; omega
                          have q8 : decide (8 < n) = false := decide_eq_false (by rw [HNL.out]; exact hp8)
                          have q9 : decide ((8 : Int) < (n : Int)) = false := decide_eq_false q7
                          clear hp8 h63 HCH4
                          have HU := Lib.hid (rfl : underG (t.items ++ [({ x with par := PAR } : It)]) PAR = underG (t.items ++ [({ x with par := PAR } : It)]) PAR)
                          generalize underG (t.items ++ [({ x with par := PAR } : It)]) PAR = U at *
                          by_cases hu : 1048576 < U
                          · have HN : Hid ((lineS t f s).2 = 80) := Lib.hid (by rw [HCH5.out, if_pos hu])
                            have q10 : decide (1048576 < U) = true := decide_eq_true hu
                            clear HCH HCH5 hub
                            go_wp2_with (first | (go_at_call 53; refine TW.out.mono ?_; rintro e wA ⟨rfl, hbA⟩; have SA := Lib.hid (S5.out.below hbA); clear hbA; have ta0 := blk_cell (j := 0) (v := .slice a4 (t.items.length + 1) c4) SA.out.ct rfl; have ta1 := blk_cell (j := 1) (v := .slice p2 t.slack.length c2) SA.out.ct rfl; have ra0 := blk_cell (j := 0) (v := .slice none 0 0) SA.out.cr rfl; have ra1 := blk_cell (j := 1) (v := .slice none 0 0) SA.out.cr rfl; have raf := fun i => blk_frozen SA.out.cr i; have xa1 := blk_cell (j := 1) (v := .int .i64 PAR) SA.out.cx rfl; have xa2 := blk_cell (j := 2) (v := .int .i64 x.q) SA.out.cx rfl; have xa3 := blk_cell (j := 3) (v := .int .i64 x.p) SA.out.cx rfl; have xa4 := blk_cell (j := 4) (v := .slice a n c) SA.out.cx rfl) | (go_at_call 54; refine (VA2.out _).mono ?_; rintro e wB ⟨rfl, hbB⟩; have SB := Lib.hid (SA.out.below hbB); clear hbB; have ta0 := blk_cell (j := 0) (v := .slice a4 (t.items.length + 1) c4) SB.out.ct rfl; have ta1 := blk_cell (j := 1) (v := .slice p2 t.slack.length c2) SB.out.ct rfl; have ra0 := blk_cell (j := 0) (v := .slice none 0 0) SB.out.cr rfl; have ra1 := blk_cell (j := 1) (v := .slice none 0 0) SB.out.cr rfl; have raf := fun i => blk_frozen SB.out.cr i; have xa1 := blk_cell (j := 1) (v := .int .i64 PAR) SB.out.cx rfl; have xa2 := blk_cell (j := 2) (v := .int .i64 x.q) SB.out.cx rfl; have xa3 := blk_cell (j := 3) (v := .int .i64 x.p) SB.out.cx rfl; have xa4 := blk_cell (j := 4) (v := .slice a n c) SB.out.cx rfl) | (go_at_call 52; refine (PRI.out _ SB.out).mono ?_; rintro e w' ⟨rfl, rfl⟩) | (go_at_call 31; refine (UN2.out _ SB.out).mono ?_; rintro e wC ⟨rfl, hbC⟩; have SC := Lib.hid (SB.out.below hbC); clear hbC; have ta0 := blk_cell (j := 0) (v := .slice a4 (t.items.length + 1) c4) SC.out.ct rfl; have ta1 := blk_cell (j := 1) (v := .slice p2 t.slack.length c2) SC.out.ct rfl; have ra0 := blk_cell (j := 0) (v := .slice none 0 0) SC.out.cr rfl; have ra1 := blk_cell (j := 1) (v := .slice none 0 0) SC.out.cr rfl; have raf := fun i => blk_frozen SC.out.cr i; have xa1 := blk_cell (j := 1) (v := .int .i64 PAR) SC.out.cx rfl; have xa2 := blk_cell (j := 2) (v := .int .i64 x.q) SC.out.cx rfl; have xa3 := blk_cell (j := 3) (v := .int .i64 x.p) SC.out.cx rfl; have xa4 := blk_cell (j := 4) (v := .slice a n c) SC.out.cx rfl))
                            have HL := Lib.hid (rtree_load (set2_blk SC.out.cr (.slice a4 (t.items.length + 1) c4) (.slice p2 t.slack.length c2)))
                            refine bodyPost_ret (v := .tuple #[.agg #[.slice a4 (t.items.length + 1) c4, .slice p2 t.slack.length c2], .int .i64 80]) ?_ rfl (rlineP.bad HN.out (by decide) (set2_below SC.out.bw (Nat.le_succ W.heap.size) _ _) _ _ _ _ _ _)
                            rw [results_cell_tmp rfl]
                            have hld := HL.out
                            simp [asAddr, Result.andThen, hld]
                          · have HN : Hid (lineS t f s = (⟨t.items ++ [({ x with par := PAR } : It)], t.slack⟩, 0)) := Lib.hid (by
                              have h5 := HCH5.out
                              rw [if_neg hu] at h5
                              have h6 := HCH.out
                              rw [h6] at h5 ⊢
                              exact Prod.ext rfl h5)
                            have q10 : decide (1048576 < U) = false := decide_eq_false hu
                            clear HCH HCH5 hub
                            go_wp2_with (first | (go_at_call 53; refine TW.out.mono ?_; rintro e wA ⟨rfl, hbA⟩; have SA := Lib.hid (S5.out.below hbA); clear hbA; have ta0 := blk_cell (j := 0) (v := .slice a4 (t.items.length + 1) c4) SA.out.ct rfl; have ta1 := blk_cell (j := 1) (v := .slice p2 t.slack.length c2) SA.out.ct rfl; have ra0 := blk_cell (j := 0) (v := .slice none 0 0) SA.out.cr rfl; have ra1 := blk_cell (j := 1) (v := .slice none 0 0) SA.out.cr rfl; have raf := fun i => blk_frozen SA.out.cr i; have xa1 := blk_cell (j := 1) (v := .int .i64 PAR) SA.out.cx rfl; have xa2 := blk_cell (j := 2) (v := .int .i64 x.q) SA.out.cx rfl; have xa3 := blk_cell (j := 3) (v := .int .i64 x.p) SA.out.cx rfl; have xa4 := blk_cell (j := 4) (v := .slice a n c) SA.out.cx rfl) | (go_at_call 54; refine (VA2.out _).mono ?_; rintro e wB ⟨rfl, hbB⟩; have SB := Lib.hid (SA.out.below hbB); clear hbB; have ta0 := blk_cell (j := 0) (v := .slice a4 (t.items.length + 1) c4) SB.out.ct rfl; have ta1 := blk_cell (j := 1) (v := .slice p2 t.slack.length c2) SB.out.ct rfl; have ra0 := blk_cell (j := 0) (v := .slice none 0 0) SB.out.cr rfl; have ra1 := blk_cell (j := 1) (v := .slice none 0 0) SB.out.cr rfl; have raf := fun i => blk_frozen SB.out.cr i; have xa1 := blk_cell (j := 1) (v := .int .i64 PAR) SB.out.cx rfl; have xa2 := blk_cell (j := 2) (v := .int .i64 x.q) SB.out.cx rfl; have xa3 := blk_cell (j := 3) (v := .int .i64 x.p) SB.out.cx rfl; have xa4 := blk_cell (j := 4) (v := .slice a n c) SB.out.cx rfl) | (go_at_call 52; refine (PRI.out _ SB.out).mono ?_; rintro e w' ⟨rfl, rfl⟩) | (go_at_call 31; refine (UN2.out _ SB.out).mono ?_; rintro e wC ⟨rfl, hbC⟩; have SC := Lib.hid (SB.out.below hbC); clear hbC; have ta0 := blk_cell (j := 0) (v := .slice a4 (t.items.length + 1) c4) SC.out.ct rfl; have ta1 := blk_cell (j := 1) (v := .slice p2 t.slack.length c2) SC.out.ct rfl; have ra0 := blk_cell (j := 0) (v := .slice none 0 0) SC.out.cr rfl; have ra1 := blk_cell (j := 1) (v := .slice none 0 0) SC.out.cr rfl; have raf := fun i => blk_frozen SC.out.cr i; have xa1 := blk_cell (j := 1) (v := .int .i64 PAR) SC.out.cx rfl; have xa2 := blk_cell (j := 2) (v := .int .i64 x.q) SC.out.cx rfl; have xa3 := blk_cell (j := 3) (v := .int .i64 x.p) SC.out.cx rfl; have xa4 := blk_cell (j := 4) (v := .slice a n c) SC.out.cx rfl))
                            have HL := Lib.hid (rtree_load (set2_blk SC.out.cr (.slice a4 (t.items.length + 1) c4) (.slice p2 t.slack.length c2)))
                            have HBZ := Lib.hid (set2_below SC.out.bw (Nat.le_succ W.heap.size) (.slice a4 (t.items.length + 1) c4) (.slice p2 t.slack.length c2))
                            have HRT := Lib.hid (FIN.out _ HBZ.out (fun k g1 g2 => (set2_other (by have := LW0.out; omega) _ _).trans (SC.out.hz k g1 g2)) (by rw [set2_size]; exact SC.out.sz))
                            refine bodyPost_ret (v := .tuple #[.agg #[.slice a4 (t.items.length + 1) c4, .slice p2 t.slack.length c2], .int .i64 0]) ?_ rfl (rlineP.good HN.out HRT.out (NilOk_own OW4.out) (H2.out.below HBZ.out) HBZ.out)
                            rw [results_cell_tmp rfl]
                            have hld := HL.out
                            simp [asAddr, Result.andThen, hld]
end Go.Proofs.YtophilmjfdhhaaaGreatDoor
