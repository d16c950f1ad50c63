/- config.Parse at every text. -/
import Derived.Test.YtophilmjfdhhaaaGreatDoorFw
namespace Go.Proofs.YtophilmjfdhhaaaGreatDoor
open Go Go.RowKit Go.Shelf Go.Sort
set_option linter.unusedVariables false
set_option linter.unusedSimpArgs false
set_option maxRecDepth 100000
set_option maxHeartbeats 4000000

theorem Tryz.infoTreeF : (Tryz.prog.info? 25).map (·.size) = some 2 := by kernel_rfl
theorem tree_load {w : World} {B : Nat} {x y : Value} (C : w.heap[B]? = some (.cells #[x, y] 25)) : (loadVar 25 ⟨B, 0, none⟩).run Tryz.prog w = .ok (.agg #[x, y]) w :=
  run_loadVar_row w B 25 25 #[x, y] (0, 0) _ C Tryz.underlying25 rfl Tryz.infoTreeF
theorem results_cell_tmp2 {fn : Func} {p u v : Tmp} {ty : TypeId} (h : fn.results = #[.cell p ty, .tmp u, .tmp v]) (tmps : Array Value) (P : Program) (w : World) :
    (results fn tmps).run P w =
      ((asAddr (tmps.getD p undef)).run P w).andThen fun a w₁ => ((loadVar ty a).run P w₁).andThen fun x w₂ => .ok (.tuple #[x, tmps.getD u undef, tmps.getD v undef]) w₂ := by
  simp only [results, h]
  simp [Sem.run_bind, Result.andThen]
/-- What config.Parse leaves. -/
def ParseP (s : List UInt8) (W : World) (e : Ending) (w' : World) : Prop :=
  ∃ v1 v2, e = .returned (.tuple #[.agg #[v1, v2], .int .i64 ((parseS s).2.1 : Nat), errOf (parseS s).2.2]) ∧ RT w' v1 (parseS s).1.items ∧ RI w' v2 (parseS s).1.slack ∧ Below W.heap.size W w'
theorem ParseP.nil {s : List UInt8} {W w' : World} {i : Nat} {n : Int} (h : parseS s = (⟨[], []⟩, i, n)) (hb : Below W.heap.size W w') : ParseP s W (.returned (.tuple #[.agg #[.slice none 0 0, .slice none 0 0], .int .i64 i, errOf n])) w' :=
  ⟨_, _, by rw [h], by rw [h]; exact RT_nil _, by rw [h]; exact RI_nil _, hb⟩
theorem PS.move {w w' : World} {B P : Nat} {t : Tr} {f : Bool} (h : PS w B P t f) (hs : w.heap.size ≤ w'.heap.size) (hb : ∀ k, B ≤ k → k < w.heap.size → w'.heap[k]? = w.heap[k]?) (hBP : ∀ k, k < w.heap.size → ¬ k ≤ P → w'.heap[k]? = w.heap[k]?) : PS w' B P t f := by
  obtain ⟨v1, v2, cs, h1, h2, h3, h4, h5, h6⟩ := h.out
  refine ⟨⟨v1, v2, cs, (hb P h.base h.lt).trans h1, ?_, h3.move hs (fun k hk hn => hBP k hk (fun e => hn (.inr e))) (fun k _ hn => hn), h4.of_block hs (fun k hk => hBP k (h5 k hk).2 (fun e => (h5 k hk).1 (.inr e))), fun k hk => ⟨(h5 k hk).1, Nat.lt_of_lt_of_le (h5 k hk).2 hs⟩, h6⟩, h.base⟩
  obtain ⟨g1, g2⟩ := h2
  refine ⟨g1, ?_⟩
  rcases g2 with g2 | ⟨g, cap, cur, hv, hg, hh, r⟩
  · exact .inl g2
  · exact .inr ⟨g, cap, cur, hv, hg, (hb g hg (blk_lt hh)).trans hh, r⟩
theorem parse_long (s : List UInt8) (W : World) (hs : s.length ≤ 140737488355328) (h : 1048576 < s.length) :
    Calls Tryz.prog 8 #[str s] W (ParseP s W) := by
  obtain ⟨w0, hw0⟩ : ∃ w0, w0 = W.alloc (.cells #[.slice none 0 0, .slice none 0 0] 25) := ⟨_, rfl⟩
  have HW0 := Lib.hid hw0
  have C0 : w0.heap[W.heap.size]? = some (.cells #[.slice none 0 0, .slice none 0 0] 25) := by rw [hw0]; exact new_blk _
  have B0 : Hid (Below W.heap.size W w0) := Lib.hid (by rw [hw0]; exact (Below.refl _ _).alloc (Nat.le_refl _) _)
  have k0 := blk_cell (j := 0) (v := .slice none 0 0) C0 rfl
  have k1 := blk_cell (j := 1) (v := .slice none 0 0) C0 rfl
  have kf := fun i => blk_frozen C0 i
  have HC := Lib.hid C0
  have hi : (1048576 : Int) < (s.length : Int) := by omega
  have hi2 : (s.length : Int) ≤ 140737488355328 := by omega
  have HR := Lib.hid (parseS_long h)
  clear C0 hw0 h hs
  go_enter Tryz.func8, Tryz.ntmps8
  go_wp2_with fail
  rw [← HW0.out]
  refine bodyPost_ret (v := .tuple #[.agg #[.slice none 0 0, .slice none 0 0], .int .i64 0, errN 3]) ?_ rfl (ParseP.nil HR.out B0.out)
  rw [results_cell_tmp2 rfl]
  have hld := tree_load HC.out
  simp [asAddr, Result.andThen, hld]
theorem PS.new {W : World} (o : Obj) (h : o = .cells #[.slice none 0 0, .slice none 0 0, .bool true] 68) : PS (W.alloc o) W.heap.size W.heap.size ⟨[], []⟩ true := by
  subst h
  refine ⟨⟨.slice none 0 0, .slice none 0 0, [], new_blk _, World.ownsRow_nil _ _ _ _, trivial, RI_nil _, ?_, ?_⟩, Nat.le_refl _⟩
  · intro k hk; cases hk
  · intro h; cases h
theorem parse_short (s : List UInt8) (W : World) (E : Env W) (h : s.length ≤ 1048576) :
    Calls Tryz.prog 8 #[str s] W (ParseP s W) := by
  obtain ⟨w0, hw0⟩ : ∃ w0, w0 = W.alloc (.cells #[.slice none 0 0, .slice none 0 0] 25) := ⟨_, rfl⟩
  have HW0 := Lib.hid hw0
  have C0 : w0.heap[W.heap.size]? = some (.cells #[.slice none 0 0, .slice none 0 0] 25) := by rw [hw0]; exact new_blk _
  have B0 : Hid (Below W.heap.size W w0) := Lib.hid (by rw [hw0]; exact (Below.refl _ _).alloc (Nat.le_refl _) _)
  have HC := Lib.hid C0
  have EE := Lib.hid (fun w (h : Below W.heap.size W w) => E.below h)
  have hi : ¬ (1048576 : Int) < (s.length : Int) := by omega
  have hi2 : (s.length : Int) ≤ 1048576 := by omega
  have SP := Lib.hid (ssplit_at s 10 w0 (EE.out _ B0.out) (by omega))
  have M1 := Lib.hid (fun h2 => parseS_many (s := s) (by omega) h2)
  have M2 := Lib.hid (fun h2 => parseS_go (s := s) (by omega) h2)
  have hwb0 := splitC_mem 10 s []
  have hwl := splitC_many 10 s []
  generalize splitC 10 [] s = ls at *
  have HWB : Hid (∀ i, i < ls.length → (ls.getD i []).length ≤ 1048576) := Lib.hid (fun i hi => by
    have := hwb0 (ls.getD i []) (by rw [List.getD, List.getElem?_eq_getElem hi]; exact List.getElem_mem hi)
    simp only [List.length_nil, Nat.zero_add] at this; omega)
  have hwi : (ls.length : Int) ≤ 1048577 := by omega
  have hsa : saidN ls ≤ 1048577 := by have := saidN_le ls; omega
  clear C0 hw0 h hwb0 E
  go_enter Tryz.func8, Tryz.ntmps8
  go_wp2_with fail
  rw [← HW0.out]
  refine SP.out.mono ?_
  rintro e w1 ⟨rfl, hr1, hb1, hz1⟩
  have B1 := Lib.hid (B0.out.trans (hb1.mono B0.out.size))
  have C1 := Lib.hid (blk_below HC.out hb1)
  have hw0R : W.heap.size < w0.heap.size := blk_lt HC.out
  obtain ⟨b, hb⟩ : ∃ b, b = w0.heap.size := ⟨_, rfl⟩
  have CELL : Hid (∀ i, i < ls.length → w1.cell? ⟨b, i, none⟩ = some (str (ls.getD i []))) := Lib.hid (fun i hi => by
    obtain ⟨p', c', hv', hc'⟩ := hr1.out
    obtain ⟨b2, o2, hp2, _, hg2⟩ := hc' i hi
    injection hv' with hv1
    rw [hv1.symm] at hp2
    injection hp2 with hp2
    injection hp2 with e1 e2
    subst e1; subst e2
    rw [hb]
    simpa using hg2)
  rw [← hb] at hz1
  simp only [← hb]
  clear hr1 hb1 hb HC SP
  go_wp2_with fail
  go_loopw [6, 22] (fun a iv wr => ∃ k : Nat, a = .int .i64 (saidN (ls.take k) : Nat) ∧ iv = .int .i64 k ∧ k ≤ ls.length ∧ Hid (Below w1.heap.size w1 wr)) (fun _ iv _ => ls.length - (intOf iv).toNat)
  case atStart => exact ⟨0, by go_num, by go_num, Nat.zero_le _, Lib.hid (Below.refl _ _)⟩
  case round =>
    obtain ⟨k, rfl, rfl, hk, hbe⟩ := hrel
    have hki : (k : Int) ≤ 1048577 := by omega
    have hsk : saidN (ls.take k) ≤ 1048577 := by have := saidN_le (ls.take k); simp at this; omega
    by_cases hlt : k < ls.length
    · have hlt' : (k : Int) < (ls.length : Int) := by omega
      have g := (hbe.out.cell (p := ⟨b, k, none⟩) hz1).trans (CELL.out k hlt)
      have SA := Lib.hid (saidN_at hlt)
      have SC := Lib.hid (fun w => silent_c ⟨(ls.getD k []).toArray⟩ w)
      simp only at SC
      clear hlt
      generalize ls.getD k [] = x at *
      generalize hsb : silS x = sb at *
      cases sb with
      | true =>
        have NX : Hid (saidN (ls.take (k + 1)) = saidN (ls.take k)) := Lib.hid (by rw [SA.out]; simp)
        generalize saidN (ls.take k) = S at *
        clear hsb SA
        go_wp2_with (go_at_call 24; refine (SC.out _).mono ?_; rintro e w2 ⟨rfl, hb2⟩)
        go_roundw
        case rel => exact ⟨k + 1, by rw [NX.out], by go_num, by omega, Lib.hid (hbe.out.trans (hb2.mono hbe.out.size))⟩
        case measure => show ls.length - ((k : Int) + 1).toNat < ls.length - ((k : Int)).toNat; omega
      | false =>
        have NX : Hid (saidN (ls.take (k + 1)) = saidN (ls.take k) + 1) := Lib.hid (by rw [SA.out]; simp)
        generalize saidN (ls.take k) = S at *
        clear hsb SA
        go_wp2_with (go_at_call 24; refine (SC.out _).mono ?_; rintro e w2 ⟨rfl, hb2⟩)
        go_roundw
        case rel => exact ⟨k + 1, by rw [NX.out]; go_num, by go_num, by omega, Lib.hid (hbe.out.trans (hb2.mono hbe.out.size))⟩
        case measure => show ls.length - ((k : Int) + 1).toNat < ls.length - ((k : Int)).toNat; omega
    · obtain rfl : k = ls.length := by omega
      have hlt' : ¬ (ls.length : Int) < (ls.length : Int) := by omega
      rw [List.take_length] at *
      have CR := Lib.hid (blk_below C1.out hbe.out)
      have BR := Lib.hid (B1.out.trans (hbe.out.mono B1.out.size))
      by_cases hm : 4096 < saidN ls
      · have HR := Lib.hid (M1.out hm)
        have hm' : (4096 : Int) < (saidN ls : Int) := by omega
        have hmd : decide (4096 < saidN ls) = true := decide_eq_true hm
        have k0 := blk_cell (j := 0) (v := .slice none 0 0) CR.out rfl
        have k1 := blk_cell (j := 1) (v := .slice none 0 0) CR.out rfl
        have kf := fun i => blk_frozen CR.out i
        obtain ⟨w5, hw5⟩ : ∃ w5, w5 = (wr.setCell ⟨W.heap.size, 0, none⟩ (.slice none 0 0)).setCell ⟨W.heap.size, 1, none⟩ (.slice none 0 0) := ⟨_, rfl⟩
        have HL := Lib.hid (tree_load (blk_set (blk_set CR.out 0 (.slice none 0 0)) 1 (.slice none 0 0)))
        have HB5 := Lib.hid ((BR.out.setCell (p := ⟨W.heap.size, 0, none⟩) (Nat.le_refl _) (.slice none 0 0)).setCell (p := ⟨W.heap.size, 1, none⟩) (Nat.le_refl _) (.slice none 0 0))
        generalize saidN ls = S at *
        clear hm hw5 hlt M2
        go_wp2_with fail
        refine bodyPost_ret (v := .tuple #[.agg #[.slice none 0 0, .slice none 0 0], .int .i64 0, errN 3]) ?_ rfl (ParseP.nil HR.out HB5.out)
        rw [results_cell_tmp2 rfl]
        have hld := HL.out
        simp [asAddr, Result.andThen, hld]
      · have HR := Lib.hid (M2.out hm)
        have hm' : ¬ (4096 : Int) < (saidN ls : Int) := by omega
        have hmd : decide (4096 < saidN ls) = false := decide_eq_false hm
        generalize saidN ls = S at *
        clear hm hlt M1
        obtain ⟨wo, rfl⟩ : ∃ wo : World, wo = wr := ⟨_, rfl⟩
        have CR0 := Lib.hid (fun i (hi : i < ls.length) => (hbe.out.cell (p := ⟨b, i, none⟩) hz1).trans (CELL.out i hi))
        have hbr : b < wo.heap.size := Nat.lt_of_lt_of_le hz1 hbe.out.size
        have hRr : W.heap.size < wo.heap.size := blk_lt CR.out
        go_wp2_with fail
        have PSN := Lib.hid (PS.new (W := wo) _ rfl)
        have PBN : Hid (Below wo.heap.size wo (wo.alloc (.cells #[.slice none 0 0, .slice none 0 0, .bool true] 68))) := Lib.hid ((Below.refl _ _).alloc (Nat.le_refl _) _)
        obtain ⟨P, hP⟩ : ∃ P, P = wo.heap.size := ⟨_, rfl⟩
        rw [← hP] at PSN PBN hbr hRr
        have HP := Lib.hid hP
        simp only [← hP]
        clear hP
        go_loopw [40] (fun iv wv => ∃ (k : Nat) (t : Tr) (f : Bool), iv = .int .i64 k ∧ k ≤ ls.length ∧ Hid (PS wv P P t f) ∧ Hid (OkT t) ∧ Hid (parseS s = parseGo (ls.drop k) k t f) ∧ Hid (Below P wo wv)) (fun iv _ => ls.length - (intOf iv).toNat)
        case atStart => exact ⟨0, ⟨[], []⟩, true, by go_num, Nat.zero_le _, PSN, Lib.hid OkT.nil, HR, PBN⟩
        case round =>
          obtain ⟨k, t, f, rfl, hk, hps, hok, hpg, hbp⟩ := hrel
          have BW := Lib.hid (BR.out.trans (hbp.out.mono (Nat.le_of_lt hRr)))
          have BPW : Hid (P ≤ wr.heap.size) := Lib.hid (Nat.le_of_lt hps.out.lt)
          have CRW := Lib.hid ((hbp.out.block _ hRr).trans CR.out)
          have hki : (k : Int) ≤ 1048577 := by omega
          by_cases hlt : k < ls.length
          · have hlt' : (k : Int) < (ls.length : Int) := by omega
            have g : wr.cell? ⟨b, k, none⟩ = some (str (ls.getD k [])) := (hbp.out.cell (p := ⟨b, k, none⟩) hbr).trans (CR0.out k hlt)
            have AT := Lib.hid (hpg.out.trans (parseGo_at hlt t f))
            have SC := Lib.hid (fun w => silent_c ⟨(ls.getD k []).toArray⟩ w)
            have LC := Lib.hid (fun w (h : Below wr.heap.size wr w) => line_c t (ls.getD k []) P P f w (fun w' h' => EE.out w' ((BW.out.trans (h.mono BW.out.size)).trans (h'.mono (Nat.le_of_lt hRr)))) (hps.out.below h) hok.out.wl (HWB.out k hlt) (by have := hok.out.len; omega) hok.out.it (fun x hx => by have := hok.out.pr x hx; omega))
            simp only at SC
            clear hlt
            generalize ls.getD k [] = x at *
            generalize hsb : silS x = sb at *
            cases sb with
            | true =>
              have NX : Hid (parseS s = parseGo (ls.drop (k + 1)) (k + 1) t f) := Lib.hid (by rw [AT.out]; simp)
              clear hsb AT LC
              go_wp2_with (go_at_call 24; refine (SC.out _).mono ?_; rintro e w2 ⟨rfl, hb2⟩)
              go_roundw
              case rel => exact ⟨k + 1, t, f, by go_num, by omega, Lib.hid (hps.out.below hb2), hok, NX, Lib.hid (hbp.out.trans (hb2.mono BPW.out))⟩
              case measure => show ls.length - ((k : Int) + 1).toNat < ls.length - ((k : Int)).toNat; omega
            | false =>
              have AT2 : Hid (parseS s = if (lineS t f x).2 = 0 then parseGo (ls.drop (k + 1)) (k + 1) (lineS t f x).1 false else (⟨[], []⟩, k + 1, (lineS t f x).2)) := Lib.hid (by rw [AT.out]; simp)
              have OKL := Lib.hid (fun h => lineS_ok (t := t) (f := f) (s := x) hok.out h)
              have LC2 : Hid (∀ w, Below wr.heap.size wr w → Calls Tryz.prog 25 #[.pointer (some ⟨P, 0, none⟩), str x] w fun e w' => e = .returned (errOf (lineS t f x).2) ∧ Below P w w' ∧ ((lineS t f x).2 = 0 → PS w' P P (lineS t f x).1 false)) := Lib.hid (fun w h => LC.out w h)
              generalize lineS t f x = LS at *
              obtain ⟨t2, e2⟩ := LS
              clear hsb AT LC
              simp only at AT2 OKL LC2
              by_cases he : e2 = 0
              · subst he
                have LC3 : Hid (∀ w, Below wr.heap.size wr w → Calls Tryz.prog 25 #[.pointer (some ⟨P, 0, none⟩), str x] w fun e w' => e = .returned .nilIface ∧ Below P w w' ∧ PS w' P P t2 false) := Lib.hid (fun w h => (LC2.out w h).mono fun e w' ⟨h1, h2, h3⟩ => ⟨h1, h2, h3 rfl⟩)
                have NX : Hid (parseS s = parseGo (ls.drop (k + 1)) (k + 1) t2 false) := Lib.hid (AT2.out.trans (if_pos rfl))
                have OK2 := Lib.hid (OKL.out rfl)
                clear LC2 AT2 OKL
                go_wp2_with (first | (go_at_call 24; refine (SC.out _).mono ?_; rintro e w2 ⟨rfl, hb2⟩) | (go_at_call 25; refine (LC3.out _ hb2).mono ?_; rintro e w3 ⟨rfl, hb3, hps3⟩))
                go_roundw
                case rel => exact ⟨k + 1, t2, false, by go_num, by omega, Lib.hid hps3, OK2, NX, Lib.hid ((hbp.out.trans (hb2.mono BPW.out)).trans hb3)⟩
                case measure => show ls.length - ((k : Int) + 1).toNat < ls.length - ((k : Int)).toNat; omega
              · have LC3 : Hid (∀ w, Below wr.heap.size wr w → Calls Tryz.prog 25 #[.pointer (some ⟨P, 0, none⟩), str x] w fun e w' => e = .returned (errN e2) ∧ Below P w w') := Lib.hid (fun w h => (LC2.out w h).mono fun e w' ⟨h1, h2, h3⟩ => ⟨by rw [h1, errOf_ne he], h2⟩)
                have HR2 : Hid (parseS s = (⟨[], []⟩, k + 1, e2)) := Lib.hid (AT2.out.trans (if_neg he))
                have HE := Lib.hid (errOf_ne he)
                clear LC2 AT2 OKL he
                go_wp2_with (first | (go_at_call 24; refine (SC.out _).mono ?_; rintro e w2 ⟨rfl, hb2⟩) | (go_at_call 25; refine (LC3.out _ hb2).mono ?_; rintro e w3 ⟨rfl, hb3⟩; have CR3 := Lib.hid ((hb3.block _ hRr).trans (blk_below CRW.out hb2)); have k0 := blk_cell (j := 0) (v := .slice none 0 0) CR3.out rfl; have k1 := blk_cell (j := 1) (v := .slice none 0 0) CR3.out rfl; have kf := fun i => blk_frozen CR3.out i))
                have HL := Lib.hid (tree_load (blk_set (blk_set CR3.out 0 (.slice none 0 0)) 1 (.slice none 0 0)))
                have HB5 := Lib.hid (((((BW.out.trans (hb2.mono BW.out.size)).trans (hb3.mono (Nat.le_of_lt hRr))).setCell (p := ⟨W.heap.size, 0, none⟩) (Nat.le_refl _) (.slice none 0 0)).setCell (p := ⟨W.heap.size, 1, none⟩) (Nat.le_refl _) (.slice none 0 0)))
                have PN := ParseP.nil HR2.out HB5.out
                rw [HE.out] at PN
                refine bodyPost_ret (v := .tuple #[.agg #[.slice none 0 0, .slice none 0 0], .int .i64 ((k + 1 : Nat) : Int), errN e2]) ?_ rfl PN
                rw [results_cell_tmp2 rfl]
                have hld := HL.out
                simp [asAddr, Result.andThen, hld]
          · obtain rfl : k = ls.length := by omega
            have hlt' : ¬ (ls.length : Int) < (ls.length : Int) := by omega
            have HR2 := Lib.hid (hpg.out.trans (parseGo_end ls _ t f))
            obtain ⟨v1, v2, cs, Q1, Q2, Q3, Q4, Q5, Q6⟩ := hps.out.out
            obtain ⟨a1, c1, rfl⟩ := own_form1 Q2
            obtain ⟨a2, c2, rfl⟩ := RI_form Q4
            have p0 : wr.cell? ⟨P, 0, none⟩ = some (.slice a1 t.items.length c1) := blk_cell Q1 rfl
            have p1 : wr.cell? ⟨P, 1, none⟩ = some (.slice a2 t.slack.length c2) := blk_cell Q1 rfl
            have k0 := blk_cell (j := 0) (v := .slice none 0 0) CRW.out rfl
            have k1 := blk_cell (j := 1) (v := .slice none 0 0) CRW.out rfl
            have kf := fun i => blk_frozen CRW.out i
            have HL := Lib.hid (tree_load (blk_set (blk_set CRW.out 0 (.slice a1 t.items.length c1)) 1 (.slice a2 t.slack.length c2)))
            have HB5 := Lib.hid ((BW.out.setCell (p := ⟨W.heap.size, 0, none⟩) (Nat.le_refl _) (.slice a1 t.items.length c1)).setCell (p := ⟨W.heap.size, 1, none⟩) (Nat.le_refl _) (.slice a2 t.slack.length c2))
            have FIN : Hid (RT ((wr.setCell ⟨W.heap.size, 0, none⟩ (.slice a1 t.items.length c1)).setCell ⟨W.heap.size, 1, none⟩ (.slice a2 t.slack.length c2)) (.slice a1 t.items.length c1) t.items ∧ RI ((wr.setCell ⟨W.heap.size, 0, none⟩ (.slice a1 t.items.length c1)).setCell ⟨W.heap.size, 1, none⟩ (.slice a2 t.slack.length c2)) (.slice a2 t.slack.length c2) t.slack) := Lib.hid (by
              have MV : ∀ k, ¬ k ≤ P → ((wr.setCell ⟨W.heap.size, 0, none⟩ (.slice a1 t.items.length c1)).setCell ⟨W.heap.size, 1, none⟩ (.slice a2 t.slack.length c2)).heap[k]? = wr.heap[k]? := fun k hk => by
                rw [blk_set_other (by omega), blk_set_other (by omega)]
              have MV2 : ∀ k, P ≤ k → ((wr.setCell ⟨W.heap.size, 0, none⟩ (.slice a1 t.items.length c1)).setCell ⟨W.heap.size, 1, none⟩ (.slice a2 t.slack.length c2)).heap[k]? = wr.heap[k]? := fun k hk => by
                rw [blk_set_other (by omega), blk_set_other (by omega)]
              have h3' := Q3.move (w' := (wr.setCell ⟨W.heap.size, 0, none⟩ (.slice a1 t.items.length c1)).setCell ⟨W.heap.size, 1, none⟩ (.slice a2 t.slack.length c2)) (by simp) (fun k hk hn => MV k (fun e => hn (.inr e))) (fun k _ hn => hn)
              refine ⟨(RT_own (B := P) (e := 45) (n := t.items.length) ?_ h3').1, Q4.of_block (by simp) (fun k hk => MV k (fun e => (Q5 k hk).1 (.inr e)))⟩
              obtain ⟨g1, g2⟩ := Q2
              refine ⟨g1, ?_⟩
              rcases g2 with g2 | ⟨g, cap, cur, hv, hg, hh, r⟩
              · exact .inl g2
              · exact .inr ⟨g, cap, cur, hv, hg, (MV2 g hg).trans hh, r⟩)
            clear hlt Q1 Q2 Q3 Q4 Q5 Q6
            go_wp2_with fail
            refine bodyPost_ret (v := .tuple #[.agg #[.slice a1 t.items.length c1, .slice a2 t.slack.length c2], .int .i64 0, .nilIface]) ?_ rfl ⟨_, _, by rw [HR2.out]; rfl, by rw [HR2.out]; exact FIN.out.1, by rw [HR2.out]; exact FIN.out.2, HB5.out⟩
            rw [results_cell_tmp2 rfl]
            have hld := HL.out
            simp [asAddr, Result.andThen, hld]
end Go.Proofs.YtophilmjfdhhaaaGreatDoor
