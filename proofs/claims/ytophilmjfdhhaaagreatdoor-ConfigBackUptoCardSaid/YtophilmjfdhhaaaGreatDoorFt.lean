/- config.parser.node, behind its first test. -/
import Derived.Test.YtophilmjfdhhaaaGreatDoorFr
namespace Go.Proofs.YtophilmjfdhhaaaGreatDoor
open Go Go.RowKit Go.Shelf Go.Sort
set_option linter.unusedVariables false
set_option linter.unusedSimpArgs false
set_option maxRecDepth 100000
set_option maxHeartbeats 4000000

/-- step_appendN2 behind a region's draw, as the walk spells its world. -/
theorem step_appendN2d {P : Program} {ops : Array Oper} {o : Oper} {a : Act} {K : Act → World → Prop} {Q : Exit → Act → World → Prop} {E : Prop} {W w0 : World} (hgd : o.guard = none) (s x : Operand) (t : TypeId)
    (ho : o.op = .call { callee := .builtin .append, args := #[s, x], argTypes := #[t, t] })
    (base : Nat) (e : TypeId) (i : TypeInfo) (z : Value) (size bytes : Nat) (ht : P.underlying t = some (.slice e)) (hi : P.info? e = some i) (hz : i.zero = some z)
    (hsize : i.size = size) (hby : i.bytes = bytes) (hzs : z.cells.size = size) (hpos : 0 < size)
    (v : Value) (n : Nat) (xs : List Value) (hs : a.eval s = v) (hown : w0.ownsRow base e size v n xs)
    (c : Nat) (cs : List Value) (hx : a.eval x = .slice (some ⟨w0.heap.size, 0, none⟩) 1 c) (hcl : cs.length = size) (hu : ∀ u ∈ cs, u.oneCell' = true)
    (h63 : n + 1 ≤ maxLen) (hbytes : (n + 1) * bytes ≤ 140737488355328) (hbase : base ≤ w0.heap.size) (hb : Below base W w0)
    (h : ∀ v' w', w'.ownsRow base e size v' (n + 1) (xs ++ cs) → Below base W w' → Grew w0 w' v v' → K (a.put o.dst v') w') :
    if Region.wanted o (yielded ops a.tmps) = true then o.wp P a (w0.alloc (.cells cs.toArray e)).drew K Q else E :=
  step_appendN2 (w0 := w0.drew) hgd s x t ho base e i z size bytes ht hi hz hsize hby hzs hpos v n xs hs hown c cs _ hx rfl hcl hu h63 hbytes hbase hb.drew (fun v' w' h1 h2 h3 => h v' w' h1 h2 ⟨h3.size, h3.block, h3.own⟩)
/-- A row of the call's own lies in a block of its own. -/
theorem RI_own_block {w : World} {B : Nat} {e : TypeId} {v : Value} {n : Nat} {xs : List Value} {s : Nat} (h : w.ownsRow B e s v n xs) : (∀ k, v.ownBlock = some k → B ≤ k) ∧ (∀ k, v.ownBlock = some k → k < w.heap.size) := by
  rcases h.2 with ⟨rfl, _⟩ | ⟨g, cap, cur, rfl, hg, hh, _⟩
  · exact ⟨fun k hk => by simp [Value.ownBlock] at hk, fun k hk => by simp [Value.ownBlock] at hk⟩
  · exact ⟨fun k hk => by simp [Value.ownBlock] at hk; omega, fun k hk => by simp [Value.ownBlock] at hk; subst hk; exact blk_lt hh⟩
theorem Wl_snoc {l : List It} {x : It} (h : Wl l) (h0 : -1 ≤ x.par) (h1 : x.par < l.length) : Wl (l ++ [x]) := by
  intro j hj
  by_cases hlt : j < l.length
  · have e : (l ++ [x]).getD j default = l.getD j default := by simp only [List.getD, List.getElem?_append_left hlt]
    rw [e]
    exact h j hlt
  · obtain rfl : j = l.length := by simp at hj; omega
    have e : (l ++ [x]).getD l.length default = x := by simp [List.getD]
    rw [e]
    exact ⟨h0, h1⟩
theorem node_tail (t : Tr) (ws : List (List UInt8)) (n : Nat) (v : Value) (B P : Nat) (f : Bool) (W : World) (E : Env W) (hp : PS W B P t f) (hw : Wl t.items) (hr : RS W v ws) (hwl : ws.length ≤ 16777216) (hwb : ∀ x ∈ ws, x.length ≤ 16777216) (hn : n ≤ 16777216) (hl : t.items.length ≤ 1000000) (hit5 : ∀ x ∈ t.items, itR x = true) (hpr : ∀ x ∈ t.items, x.pr.length ≤ 16777216)
    (ha : n % 2 = 0) (hb : ¬ depS t.items ((t.items.length : Int) - 1) < n / 2) (hc : 2 ≤ ws.length) (hd : nameS (ws.getD 0 []) = true) :
    Calls Tryz.prog 59 #[.pointer (some ⟨P, 0, none⟩), v, .int .i64 n] W (NodeP t ws n B P f W) := by
  have HNI := Lib.hid (nodeI_tail ha hb hc hd)
  have HPS0 := Lib.hid hp
  have HWL := Lib.hid hw
  have HBW : Hid (B ≤ W.heap.size) := Lib.hid (by have := hp.base; have := hp.lt; omega)
  obtain ⟨v1, v2, hP, hrt⟩ := hp.cells
  obtain ⟨p, c, rfl, hlc, hcm, hit⟩ := hrt.out
  have hPs : P < W.heap.size := (Array.getElem?_eq_some_iff.1 hP).1
  have P0 : W.cell? ⟨P, 0, none⟩ = some (.slice p t.items.length c) := blk_cell hP rfl
  have P1 : W.cell? ⟨P, 1, none⟩ = some v2 := blk_cell hP rfl
  have DC := Lib.hid (fun h0 => depth_c t.items (.slice p t.items.length c) v2 ((t.items.length : Int) - 1) W hrt hw (by omega) (by omega) (by omega))
  have hdl := depS_le hw (((t.items.length : Int) - 1).toNat) ((t.items.length : Int) - 1) (Nat.le_refl _) (by omega)
  have hd0 : t.items.length = 0 → depS t.items ((t.items.length : Int) - 1) = 0 := fun h => depS_neg _ (by omega)
  obtain ⟨D, hD⟩ : ∃ D, D = depS t.items ((t.items.length : Int) - 1) := ⟨_, rfl⟩
  have HD := Lib.hid hD
  rw [← hD] at DC hb hdl hd0
  have hDb : (D : Int) ≤ 1000001 := by omega
  obtain ⟨pw, cw, rfl, hcw⟩ := hr.out
  have hli : (t.items.length : Int) ≤ 1000000 := by omega
  have hni : (n : Int) ≤ 16777216 := by omega
  have ht2 : (n : Int).tmod 2 = (n : Int) % 2 := Int.tmod_eq_emod_of_nonneg (by omega)
  have htd : (n : Int).tdiv 2 = (n : Int) / 2 := Int.tdiv_eq_ediv_of_nonneg (by omega)
  have hwi : (ws.length : Int) ≤ 16777216 := by omega
  clear hD
  go_enter Tryz.func59, Tryz.ntmps59
  go_upto_if 25 with fail
  go_cut [7] (fun s7 w => s7 = .int .i64 D ∧ Below W.heap.size W w)
  case first =>
    rcases (by omega : t.items.length = 0 ∨ 1 ≤ t.items.length) with h0 | h0
    · have h0' : ¬ (0 : Int) ≤ (t.items.length : Int) - 1 := by omega
      have h0'' : ¬ (1 : Int) ≤ (t.items.length : Int) := by omega
      have HD0 := Lib.hid (hd0 h0)
      clear h0 hd0
      go_wp2_with fail
      go_meet
      exact ⟨by rw [HD0.out]; rfl, Below.refl _ _⟩
    · have h0' : (0 : Int) ≤ (t.items.length : Int) - 1 := by omega
      have h0'' : (1 : Int) ≤ (t.items.length : Int) := by omega
      have DC2 := Lib.hid (DC.out (by omega))
      clear h0 hd0
      go_wp2_with (go_at_call 38; refine DC2.out.mono ?_; rintro e w1 ⟨rfl, hb1⟩)
      go_meet
      exact ⟨rfl, hb1⟩
  case rest =>
    obtain ⟨rfl, hb1⟩ := hcut
    have e1 : ((n : Int) % 2 == 1) = false := by rw [beq_eq_false_iff_ne]; omega
    have e2 : ¬ (D : Int) < (n : Int) / 2 := by omega
    have e3 : decide ((D : Int) < (n : Int) / 2) = false := decide_eq_false e2
    have e4 : ¬ (ws.length : Int) < 2 := by omega
    have e5 : decide (ws.length < 2) = false := decide_eq_false (by omega)
    have e6 : (0 : Int) < (ws.length : Int) := by omega
    have e7 : (1 : Int) < (ws.length : Int) := by omega
    obtain ⟨b, off, rfl, hbl, g0⟩ := hcw 0 (by omega)
    obtain ⟨b', off', he', _, g1⟩ := hcw 1 (by omega)
    injection he' with he'
    injection he' with he1 he2
    subst he1; subst he2
    rw [Nat.add_zero] at g0
    have G0 := Lib.hid (fun w (h : Below W.heap.size W w) => (h.cell (p := ⟨b, off, none⟩) hbl).trans g0)
    have G1 := Lib.hid (fun w (h : Below W.heap.size W w) => (h.cell (p := ⟨b, off + 1, none⟩) hbl).trans g1)
    have g0 := G0.out _ hb1
    have NC := Lib.hid (fun w => named_any ⟨(ws.getD 0 []).toArray⟩ w (by rw [sz]; have := hwb (ws.getD 0 []) (by rw [List.getD, List.getElem?_eq_getElem (by omega)]; exact List.getElem_mem (by omega)); omega))
    simp only [] at NC
    rw [hd] at NC
    obtain ⟨PAR, hPAR⟩ : ∃ q, q = climbS t.items (n / 2) ((t.items.length : Int) - 1) := ⟨_, rfl⟩
    rw [← hPAR] at HNI
    have HPAR := Lib.hid hPAR
    have CLE := Lib.hid (fun (i : Int) h => climbS_le (l := t.items) (d := n / 2) (i := i) h)
    have CST := Lib.hid (fun (i : Int) hi h => climbS_step hw (d := n / 2) (i := i) hi h)
    have DPO := Lib.hid (fun (i : Int) h => depS_pos (l := t.items) (i := i) h)
    have DST := Lib.hid (fun (i : Int) h0 hi => depS_step hw (i := i) h0 hi)
    have DLE := Lib.hid (fun (i : Int) (h0 : -1 ≤ i) (hi : i < t.items.length) => depS_le hw i.toNat i (Nat.le_refl _) hi)
    have PBO := Lib.hid (fun (i : Int) h0 hi => par_bounds hw (i := i) h0 hi)
    have HIT := Lib.hid hit
    have HPS := Lib.hid hPs
    have P0W := Lib.hid P0
    clear hd hcw g1 hit hPAR P0 P1 hP hp hrt hw hdl hd0 DC
    have X1L : Hid ((ws.getD 1 []).length ≤ 16777216) := Lib.hid (hwb _ (by rw [List.getD, List.getElem?_eq_getElem (by omega)]; exact List.getElem_mem (by omega)))
    generalize ws.getD 0 [] = x0 at *
    generalize ws.getD 1 [] = x1 at *
    go_wp2_with (go_at_call 73; refine (NC.out _).mono ?_; rintro e w2 ⟨rfl, hb2⟩)
    have B2 := Lib.hid (hb1.trans (hb2.mono hb1.size))
    have P0 := (B2.out.cell (p := ⟨P, 0, none⟩) HPS.out).trans P0W.out
    go_loopw [9, 10] (fun a c wr => ∃ i : Int, a = .int .i64 i ∧ c = .int .i64 (depS t.items i : Nat) ∧ -1 ≤ i ∧ i < t.items.length ∧ wr = w2 ∧ Hid (climbS t.items (n / 2) i = PAR)) (fun _ c _ => (intOf c).toNat)
    case atStart => exact ⟨_, rfl, by rw [HD.out], by omega, by omega, rfl, Lib.hid HPAR.out.symm⟩
    case round =>
      obtain ⟨i, rfl, rfl, hi0, hi1, rfl, hcl⟩ := hrel
      have hdb := DLE.out i hi0 hi1
      have hdbi : ((depS t.items i : Nat) : Int) ≤ 1000001 := by omega
      by_cases hgt : n / 2 < depS t.items i
      · have h0 := DPO.out i (by omega)
        obtain ⟨bi, oi, rfl, hbi, hx⟩ := HIT.out (by omega)
        have x1c := (B2.out.cell (p := ⟨bi, oi + i.toNat * 5 + 1, none⟩) hbi).trans (hx i.toNat (by omega)).c1
        have hpe : (t.items.getD i.toNat default).par = parOf t.items i := rfl
        rw [hpe] at x1c
        have hstep := DST.out i h0 hi1
        have hpb := PBO.out i h0 hi1
        have NX := Lib.hid ((CST.out i hi1 hgt).symm.trans hcl.out)
        have HDP : Hid (((depS t.items i : Nat) : Int) - 1 = (depS t.items (parOf t.items i) : Nat)) := Lib.hid (by omega)
        have hgt' : (n : Int) / 2 < ((depS t.items i : Nat) : Int) := by omega
        have hd1 : (1 : Int) ≤ ((depS t.items i : Nat) : Int) := by omega
        clear hstep hx hpe hgt
        generalize parOf t.items i = j at *
        generalize hdi : depS t.items i = di at *
        go_wp2_with fail
        go_roundw
        case rel => exact ⟨j, rfl, by rw [← HDP.out], hpb.1, by omega, trivial, NX⟩
        case measure => show ((di : Int) - 1).toNat < ((di : Int)).toNat; omega
      · have HI : Hid (i = PAR) := Lib.hid ((CLE.out i (by omega)).symm.trans hcl.out)
        have hgt' : ¬ (n : Int) / 2 < ((depS t.items i : Nat) : Int) := by omega
        clear hgt
        generalize depS t.items i = di at *
        have g0 := G0.out _ B2.out
        have g1 := G1.out _ B2.out
        have hbw : b < wr.heap.size := Nat.lt_of_lt_of_le hbl B2.out.size
        have EE := Lib.hid (fun w (h : Below W.heap.size W w) => E.below h)
        have hx1 : x1.length ≤ 16777216 := X1L.out
        have CU := Lib.hid (fun w (h : Below W.heap.size W w) => cut1_c x1 47 w (EE.out w h) (by omega))
        have hcl1 := (cutAt_len 47 x1).1
        have hcl2 : ((cutAt 47 x1).2.getD []).length ≤ x1.length := by
          cases h : (cutAt 47 x1).2 with
          | none => simp
          | some r => have := (cutAt_len 47 x1).2 r h; simp; omega
        have NB := Lib.hid (fun w (h : Below W.heap.size W w) => numbers_c [(cutAt 47 x1).1, (cutAt 47 x1).2.getD []] _ _ (EE.out _ (h.alloc h.size _)) (RS_two w (cutAt 47 x1).1 ((cutAt 47 x1).2.getD []) 9) (by simp) (by intro y hy; simp at hy; rcases hy with rfl | rfl <;> omega))
        have BX := Lib.hid (fun o => B2.out.alloc B2.out.size o)
        generalize (cutAt 47 x1).1 = xa at *
        generalize (cutAt 47 x1).2.getD [] = xb at *
        generalize (cutAt 47 x1).2.isSome = ok at *
        clear hcl1 hcl2 hx1
        cases ok with
        | false =>
          have HR : Hid (nodeI t ws n = none) := Lib.hid (HNI.out.trans (if_pos rfl))
          generalize numsS [xa, xb] = NS at *
          clear HNI
          go_wp2_with (first | (go_at_call 86; refine (CU.out _ (BX.out _)).mono ?_; rintro e w3 ⟨rfl, hb3⟩; have hb4 := (BX.out _).trans (hb3.mono (BX.out _).size)) | (go_at_call 57; refine (NB.out _ hb4).mono ?_; rintro e w5 ⟨⟨u, ⟨pu, ku, cu, rfl⟩, rfl, hu⟩, hb5⟩))
          go_ret
          exact NodeP.bad HR.out HBW.out ((hb4.alloc hb4.size _).trans (hb5.mono (by simp; have := hb4.size; omega)))
        | true =>
          have HNJ := Lib.hid (HNI.out.trans (if_neg (by decide)))
          clear HNI
          have NSB := Lib.hid (fun o h => numsS_bounds (l := [xa, xb]) (o := o) h)
          generalize hNS : numsS [xa, xb] = NS at *
          clear hNS
          cases NS with
          | none =>
            have HR : Hid (nodeI t ws n = none) := Lib.hid HNJ.out
            clear HNJ
            go_wp2_with (first | (go_at_call 86; refine (CU.out _ (BX.out _)).mono ?_; rintro e w3 ⟨rfl, hb3⟩; have hb4 := (BX.out _).trans (hb3.mono (BX.out _).size)) | (go_at_call 57; refine (NB.out _ hb4).mono ?_; rintro e w5 ⟨⟨u, ⟨pu, ku, cu, rfl⟩, rfl, hu⟩, hb5⟩))
            go_ret
            exact NodeP.bad HR.out HBW.out ((hb4.alloc hb4.size _).trans (hb5.mono (by simp; have := hb4.size; omega)))
          | some r =>
            obtain ⟨q, pp, rfl⟩ : ∃ q pp, r = [q, pp] := by
              have h := (NSB.out r rfl).1
              match r, h with
              | [q, pp], _ => exact ⟨q, pp, rfl⟩
            have hrb := (NSB.out _ rfl).2.2
            have hq := hrb q (by simp)
            have hpq := hrb pp (by simp)
            have HNK : Hid (nodeI t ws n = if ws.length = 2 then some ⟨x0, PAR, q, pp, []⟩ else if ws.getD 2 [] = wTasks then match numsS (ws.drop 3) with | none => none | some pr => some ⟨x0, PAR, q, pp, pr⟩ else none) := Lib.hid HNJ.out
            clear HNJ
            clear hrb NSB
            go_wp2_with (first | (go_at_call 86; refine (CU.out _ (BX.out _)).mono ?_; rintro e w3 ⟨rfl, hb3⟩; have hb4 := (BX.out _).trans (hb3.mono (BX.out _).size)) | (go_at_call 57; refine (NB.out _ hb4).mono ?_; rintro e w5 ⟨⟨u, ⟨pu, ku, cu, rfl⟩, rfl, hu⟩, hb5⟩))
            have XH3 : w3.heap[wr.heap.size]? = some (.cells #[str x0, .int .i64 i, .int .i64 0, .int .i64 0, .slice none 0 0] 45) := (hb3.block _ (by simp)).trans (new_blk _)
            have XL3 : wr.heap.size < w3.heap.size := (Array.getElem?_eq_some_iff.1 XH3).1
            have XH5 : w5.heap[wr.heap.size]? = some (.cells #[str x0, .int .i64 i, .int .i64 0, .int .i64 0, .slice none 0 0] 45) := (hb5.block _ (by simp; omega)).trans ((Below.heap_alloc _ _ _ XL3).trans XH3)
            have B5 := Lib.hid ((hb4.alloc hb4.size _).trans (hb5.mono (by simp; have := hb4.size; omega)))
            obtain ⟨ua, uc, hue, hcu⟩ := (RI_own (l := [q, pp]) (hu _ rfl)).out
            injection hue with hu1 hu2 hu3
            subst hu1; subst hu2; subst hu3
            obtain ⟨ub, uo, rfl, hub, u0⟩ := hcu 0 (by simp)
            obtain ⟨ub', uo', he', _, u1⟩ := hcu 1 (by simp)
            injection he' with he'
            injection he' with he1 he2
            subst he1; subst he2
            have OW5 := Lib.hid (hu _ rfl)
            have XH := Lib.hid XH5
            have WX : Hid (W.heap.size ≤ wr.heap.size) := Lib.hid B2.out.size
            clear hcu hu hb3 hb4 hb5 XH3 XL3 XH5 CU NB BX
            obtain ⟨X, hX⟩ : ∃ X, X = wr.heap.size := ⟨_, rfl⟩
            rw [← hX] at XH WX
            simp only [← hX]
            clear hX
            have u0 : w5.cell? ⟨ub, uo, none⟩ = some (.int .i64 q) := u0
            have u1 : w5.cell? ⟨ub, uo + 1, none⟩ = some (.int .i64 pp) := u1
            have fz : ∀ i, w5.frozen? ⟨X, i, none⟩ = false := blk_frozen XH.out
            have s2 : w5.cell? ⟨X, 2, none⟩ = some (.int .i64 0) := blk_cell XH.out rfl
            have s3 : w5.cell? ⟨X, 3, none⟩ = some (.int .i64 0) := blk_cell XH.out rfl
            have hx5 : X < w5.heap.size := (Array.getElem?_eq_some_iff.1 XH.out).1
            go_wp2_with fail
            go_region
            obtain ⟨wy, hwy⟩ : ∃ wy, wy = ((w5.setCell ⟨X, 2, none⟩ (.int .i64 q)).setCell ⟨X, 3, none⟩ (.int .i64 pp)).drew := ⟨_, rfl⟩
            have XY : Hid (wy.heap[X]? = some (.cells #[str x0, .int .i64 i, .int .i64 q, .int .i64 pp, .slice none 0 0] 45)) := Lib.hid (by rw [hwy]; exact blk_set (blk_set XH.out 2 _) 3 _)
            have BY : Hid (Below W.heap.size W wy) := Lib.hid (by rw [hwy]; exact ((B5.out.setCell (p := ⟨X, 2, none⟩) WX.out _).setCell (p := ⟨X, 3, none⟩) WX.out _).drew)
            have hxy : X < wy.heap.size := by rw [hwy]; simpa using hx5
            rw [← HI.out] at HNK
            rw [← hwy]
            clear hwy u0 u1 fz s2 s3 hub OW5 XH B5 hx5 HI HPAR HIT CLE CST DPO DST PBO G1 X1L hcl g0 g1
            go_upto_if 108 with fail
            go_cut [16] (fun s16 w => ∃ wz v5 pr, wz = w ∧ Hid (nodeI t ws n = some ⟨x0, i, q, pp, pr⟩) ∧ Hid (Below W.heap.size W w) ∧ Hid (w.heap[X]? = some (.cells #[str x0, .int .i64 i, .int .i64 q, .int .i64 pp, v5] 45)) ∧ Hid (RI w v5 pr) ∧ Hid (∀ k, v5.ownBlock = some k → W.heap.size ≤ k ∧ k < w.heap.size ∧ k ≠ X) ∧ Hid (pr.length ≤ 16777216))
            case first =>
              rcases (by omega : ws.length = 2 ∨ 3 ≤ ws.length) with h2 | h2
              · have HR : Hid (nodeI t ws n = some ⟨x0, i, q, pp, []⟩) := Lib.hid (HNK.out.trans (if_pos h2))
                have f1 : decide (2 < ws.length) = false := decide_eq_false (by omega)
                have f2 : ¬ (2 : Int) < (ws.length : Int) := by omega
                clear h2 HNK
                go_wp2_with fail
                go_meet
                exact ⟨_, .slice none 0 0, [], rfl, HR, BY, XY, Lib.hid (RI_nil _), Lib.hid (fun k hk => by cases hk), Lib.hid (by simp)⟩
              · have hwl3 : (2 : Int) < (ws.length : Int) := by omega
                have f1 : decide (2 < ws.length) = true := decide_eq_true (by omega)
                have f2 : (2 : Int) < (ws.length : Int) := by omega
                have f3 : (3 : Int) ≤ (ws.length : Int) := by omega
                have HNL := Lib.hid (HNK.out.trans (if_neg (by omega)))
                clear HNK
                obtain ⟨i1, hi1', _, hz1, _⟩ := info_of1F Tryz.infoStrF
                obtain ⟨vd, hvd, rgd⟩ := from_c (P := Tryz.prog) (T := 40) (E := 9) Tryz.underlying40 hi1' hz1 hr 3 (by simpa using h2) (by simpa using (by omega : 0 < ws.length))
                have hsl : ∀ w1, (Instr.slice 40 (.slice (some ⟨b, off, none⟩) ws.length cw) (some (.int .i64 3)) none none).run Tryz.prog w1 = .ok vd w1 := hvd
                have rsd : RS W vd (ws.drop 3) := by rw [← List.map_drop] at rgd; exact rgd
                have ND := Lib.hid (numbers_c (ws.drop 3) vd wy (E.below BY.out) (rsd.below BY.out) (by simp; omega) (fun y hy => hwb y (List.mem_of_mem_drop hy)))
                have NSB := Lib.hid (fun o h => numsS_bounds (l := ws.drop 3) (o := o) h)
                have hdl3 : (ws.drop 3).length ≤ 16777216 := by simp; omega
                obtain ⟨b2, o2, he2, g2⟩ : ∃ b2 o2, some (⟨b, off, none⟩ : Addr) = some ⟨b2, o2, none⟩ ∧ W.cell? ⟨b2, o2 + 2, none⟩ = some (str (ws.getD 2 [])) := by
                  obtain ⟨p', c', hv', hc'⟩ := hr.out
                  obtain ⟨b2, o2, hp2, _, hg2⟩ := hc' 2 (by omega)
                  injection hv' with hv1
                  exact ⟨b2, o2, hv1.trans hp2, hg2⟩
                injection he2 with he2
                injection he2 with he3 he4
                subst he3; subst he4
                have G2 := Lib.hid (fun w (h : Below W.heap.size W w) => (h.cell (p := ⟨b, off + 2, none⟩) hbl).trans g2)
                have SZY := Lib.hid BY.out.size
                clear g2 rsd rgd hr hz1 hi1' hvd hdl3 h2
                generalize ws.getD 2 [] = x2 at *
                generalize numsS (ws.drop 3) = NS at *
                cases NS with
                | none =>
                  have HR : Hid (nodeI t ws n = none) := Lib.hid (by
                    rw [HNL.out]
                    split <;> rfl)
                  clear HNL NSB
                  go_wp2_with (go_at_call 57; refine ND.out.mono ?_; rintro e w6 ⟨⟨u6, ⟨p6, k6, c6, rfl⟩, rfl, hu6⟩, hb6⟩; have XY6 := Lib.hid (blk_below XY.out hb6); have B6 := Lib.hid (BY.out.trans (hb6.mono SZY.out)); have s4 : w6.cell? ⟨X, 4, none⟩ = some (.slice none 0 0) := blk_cell XY6.out rfl; have z4 := blk_frozen XY6.out 4)
                  go_ret
                  exact NodeP.bad HR.out HBW.out (B6.out.setCell (p := ⟨X, 4, none⟩) WX.out _)
                | some pr =>
                  by_cases hx2 : x2 = wTasks
                  · have HR : Hid (nodeI t ws n = some ⟨x0, i, q, pp, pr⟩) := Lib.hid (HNL.out.trans (by rw [if_pos hx2]))
                    have hprl : Hid (pr.length ≤ 16777216) := Lib.hid (by rw [(NSB.out _ rfl).1]; simp; omega)
                    obtain rfl : x2 = [116, 97, 115, 107, 115] := hx2
                    clear HNL NSB
                    go_wp2_with (go_at_call 57; refine ND.out.mono ?_; rintro e w6 ⟨⟨u6, ⟨p6, k6, c6, rfl⟩, rfl, hu6⟩, hb6⟩; have XY6 := Lib.hid (blk_below XY.out hb6); have B6 := Lib.hid (BY.out.trans (hb6.mono SZY.out)); have s4 : w6.cell? ⟨X, 4, none⟩ = some (.slice none 0 0) := blk_cell XY6.out rfl; have z4 := blk_frozen XY6.out 4; have OW6 := Lib.hid (hu6 _ rfl); have X6 := Lib.hid (blk_lt XY6.out); have g2 := G2.out _ (B6.out.setCell (p := ⟨X, 4, none⟩) WX.out (.slice p6 k6 c6)); clear hu6)
                    go_meet
                    obtain ⟨hpe, hown⟩ := RI_own_block OW6.out
                    exact ⟨_, .slice p6 k6 c6, pr, rfl, HR, Lib.hid (B6.out.setCell (p := ⟨X, 4, none⟩) WX.out _), Lib.hid (blk_set XY6.out 4 _), Lib.hid ((RI_own OW6.out).of_block (by simp) (fun k hk => blk_set_other (fun e => by have := hpe k hk; omega) _ _)), Lib.hid (fun k hk => ⟨by have := hpe k hk; have := SZY.out; omega, by simpa using hown k hk, by have := hpe k hk; omega⟩), hprl⟩
                  · have HR : Hid (nodeI t ws n = none) := Lib.hid (HNL.out.trans (if_neg hx2))
                    have k1 : ¬ x2 = [116, 97, 115, 107, 115] := hx2
                    have k2 : (x2 != [116, 97, 115, 107, 115]) = true := by simpa using k1
                    have k3 : (x2 == [116, 97, 115, 107, 115]) = false := by simpa using k1
                    clear hx2 HNL NSB
                    go_wp2_with (go_at_call 57; refine ND.out.mono ?_; rintro e w6 ⟨⟨u6, ⟨p6, k6, c6, rfl⟩, rfl, hu6⟩, hb6⟩; have XY6 := Lib.hid (blk_below XY.out hb6); have B6 := Lib.hid (BY.out.trans (hb6.mono SZY.out)); have s4 : w6.cell? ⟨X, 4, none⟩ = some (.slice none 0 0) := blk_cell XY6.out rfl; have z4 := blk_frozen XY6.out 4; have OW6 := Lib.hid (hu6 _ rfl); have X6 := Lib.hid (blk_lt XY6.out); have g2 := G2.out _ (B6.out.setCell (p := ⟨X, 4, none⟩) WX.out (.slice p6 k6 c6)); clear hu6)
                    go_ret
                    exact NodeP.bad HR.out HBW.out (B6.out.setCell (p := ⟨X, 4, none⟩) WX.out _)
            case rest =>
              obtain ⟨wz, v5, pr, rfl, HX, HB, HXB, HR5, HO5, HL⟩ := hcut
              obtain ⟨z1, z2, cs, R1, R2, R3, R4, R5, Q6⟩ := HPS0.out.out
              have Q1 := blk_below R1 HB.out
              have Q2 := own_below1 R2 HB.out
              have Q3 := R3.move HB.out.size (fun k hk _ => HB.out.block k hk) (fun k _ hn => hn)
              have Q4 := R4.below HB.out
              have Q5 := fun k hk => (⟨(R5 k hk).1, Nat.lt_of_lt_of_le (R5 k hk).2 HB.out.size⟩ : ¬ (z1.ownBlock = some k ∨ k ≤ P) ∧ k < wz.heap.size)
              have KO : Hid (∀ k, z1.ownBlock = some k → k < W.heap.size) := Lib.hid (RI_own_block R2).2
              clear R1 R2 R3 R4 R5
              obtain ⟨a1, c1, rfl⟩ := own_form1 Q2
              obtain ⟨a5, c5, rfl⟩ := RI_form HR5.out
              obtain ⟨i0, hi, hz0, hz1, hz2⟩ := info_of1F Tryz.infoItem
              have p0 : wz.cell? ⟨P, 0, none⟩ = some (.slice a1 t.items.length c1) := blk_cell Q1 rfl
              have pf : ∀ j, wz.frozen? ⟨P, j, none⟩ = false := blk_frozen Q1
              have x0c : wz.cell? ⟨X, 0, none⟩ = some (str x0) := blk_cell HXB.out rfl
              have x1c : wz.cell? ⟨X, 1, none⟩ = some (.int .i64 i) := blk_cell HXB.out rfl
              have x2c : wz.cell? ⟨X, 2, none⟩ = some (.int .i64 q) := blk_cell HXB.out rfl
              have x3c : wz.cell? ⟨X, 3, none⟩ = some (.int .i64 pp) := blk_cell HXB.out rfl
              have x4c : wz.cell? ⟨X, 4, none⟩ = some (.slice a5 pr.length c5) := blk_cell HXB.out rfl
              have BB := Lib.hid (HB.out.mono HBW.out)
              have BS := Lib.hid (Nat.le_trans HBW.out HB.out.size)
              have OWN := Lib.hid Q2
              have PLT := Lib.hid (blk_lt Q1)
              have hPz : P < wz.heap.size := blk_lt Q1
              have hXz : X < wz.heap.size := blk_lt HXB.out
              have K1 := Lib.hid Q1
              have HU : Hid (∀ u ∈ [str x0, .int .i64 i, .int .i64 q, .int .i64 pp, .slice a5 pr.length c5], u.oneCell' = true) := Lib.hid (by intro u hu; simp at hu; rcases hu with rfl | rfl | rfl | rfl | rfl <;> rfl)
              have HM1 : Hid (t.items.length + 1 ≤ maxLen) := Lib.hid (by unfold maxLen; omega)
              have HM2 : Hid ((t.items.length + 1) * 64 ≤ 140737488355328) := Lib.hid (by omega)
              have H05 : 0 < 5 := by decide
              have K3 := Lib.hid Q3
              have K4 := Lib.hid Q4
              have K5 := Lib.hid Q5
              have K6 := Lib.hid Q6
              clear Q1 Q2 Q3 Q4 Q5 Q6 P0 hr
              go_wp2_with fail
              go_region_law ((refine step_appendN2d (W := W) rfl _ _ 22 rfl B 45 i0 _ 5 64 Tryz.underlying22 hi hz0 hz1 hz2 rfl H05 _ _ _ rfl OWN.out _ [str x0, .int .i64 i, .int .i64 q, .int .i64 pp, .slice a5 pr.length c5] rfl rfl HU.out HM1.out HM2.out BS.out BB.out ?_; intro v' w3 hown3 hbe3 hgr; obtain ⟨a3, c3, rfl⟩ := own_form1 hown3; have P3 := Lib.hid ((hgr.block P PLT.out K6.out).trans K1.out); have p3 : w3.cell? ⟨P, 0, none⟩ = some (.slice a1 t.items.length c1) := blk_cell P3.out rfl; have pf3 := blk_frozen P3.out 0; have H3 := Lib.hid hown3; have G3 : Hid (Grew wz w3 (.slice a1 t.items.length c1) (.slice a3 (t.items.length + 1) c3)) := Lib.hid hgr; have E3 := Lib.hid hbe3; clear hown3 hgr hbe3))
              all_goals
                have HU2 : ∀ k, (Value.slice a5 pr.length c5).ownBlock = some k → ¬ ((Value.slice a1 t.items.length c1).ownBlock = some k ∨ k ≤ P) ∧ k < wz.heap.size := by
                  intro k hk
                  have h5 := HO5.out k hk
                  refine ⟨?_, h5.2.1⟩
                  rintro (h | h)
                  · have := KO.out k h; omega
                  · have := h5.1; have := HPS.out; omega
                have PSn := PS.snoc (t := t) (x := ⟨x0, i, q, pp, pr⟩) (u := .slice a5 pr.length c5) K1.out K3.out K4.out K5.out K6.out HPS0.out.base HR5.out HU2 G3.out H3.out
                obtain ⟨wn, hwn⟩ : ∃ wn, wn = w3.setCell ⟨P, 0, none⟩ (.slice a3 (t.items.length + 1) c3) := ⟨_, rfl⟩
                have BN : Hid (Below B W wn) := Lib.hid (by rw [hwn]; exact E3.out.setCell (p := ⟨P, 0, none⟩) HPS0.out.base _)
                have BNS : Hid (B ≤ wn.heap.size) := Lib.hid (by rw [hwn]; have := G3.out.size; have := BS.out; simp; omega)
                rw [← hwn] at PSn ⊢
                obtain ⟨n1, n2, ncs, N1, N2, N3, _⟩ := PSn.out
                obtain ⟨a7, c7, rfl⟩ := own_form1 N2
                have CC := Lib.hid (fun d os => Calls.regrown_of (check_c (t.items ++ [(⟨x0, i, q, pp, pr⟩ : It)]) (.slice a7 (t.items ++ [(⟨x0, i, q, pp, pr⟩ : It)]).length c7) n2 t.items.length (grow (redrawn wn d) os) ((RT_own N2 N3).1.below (below_regrown wn d os)) (Wl_snoc HWL.out hi0 hi1) (by simp) (by simp; omega) (by
                  intro y hy
                  rcases List.mem_append.1 hy with hy | hy
                  · have := hpr y hy; omega
                  · rw [List.mem_singleton.1 hy]; have := HL.out; show pr.length ≤ _; omega) (by rw [List.take_left]; exact hit5)))
                have hln : (t.items ++ [(⟨x0, i, q, pp, pr⟩ : It)]).length = t.items.length + 1 := by simp
                have N1' : wn.heap[P]? = some (.cells #[.slice a7 (t.items.length + 1) c7, n2, .bool f] 68) := by rw [← hln]; exact N1
                rw [hln] at CC
                have d0 : ∀ d os, (grow (redrawn wn d) os).cell? ⟨P, 0, none⟩ = some (.slice a7 (t.items.length + 1) c7) := fun d os => cell_regrown (blk_cell N1' rfl) d os
                have d1 : ∀ d os, (grow (redrawn wn d) os).cell? ⟨P, 1, none⟩ = some n2 := fun d os => cell_regrown (blk_cell N1' rfl) d os
                have w1 : IntKind.i64.wrap (t.items.length : Int) = (t.items.length : Int) := IntWalk.i64_in _ (by omega)
                have w2 : IntKind.i64.wrap ((t.items.length : Int) + 1 - 1) = (t.items.length : Int) := by rw [show (t.items.length : Int) + 1 - 1 = (t.items.length : Int) by omega]; exact w1
                have w3 : IntKind.i64.wrap (((t.items.length + 1 : Nat) : Int) - 1) = (t.items.length : Int) := by rw [show ((t.items.length + 1 : Nat) : Int) - 1 = (t.items.length : Int) by omega]; exact w1
                have PN := Lib.hid PSn
                clear PSn N1 N1' N2 N3 hln hwn p3 pf3 K1 K3 K4 K5 P3 H3 G3 E3 p0 pf x0c x1c x2c x3c x4c
                go_wp2_with fail
                refine wp_region_quiet_below (by kernel_rfl) (by kernel_rfl) ?_
                repeat (quiet_step (first | with_reducible exact CC.out _ _))
                refine wpQuiet_nil ?_
                intro _ hw'
                obtain ⟨⟨dq, osq⟩, rfl⟩ := hw'
                go_wp2
                go_ret
                exact NodeP.good HX.out (BN.out.trans ((below_regrown wn dq osq).mono BNS.out)) (PN.out.below (below_regrown wn dq osq))
end Go.Proofs.YtophilmjfdhhaaaGreatDoor
