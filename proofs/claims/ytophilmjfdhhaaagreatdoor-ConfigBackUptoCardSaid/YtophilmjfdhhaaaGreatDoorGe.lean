/- The reference's Parse of layer 25. -/
import Derived.Test.YtophilmjfdhhaaaGreatDoorGd
namespace Go.Proofs.YtophilmjfdhhaaaGreatDoor
open Go Go.RowKit Go.Shelf Go.Sort
set_option linter.unusedVariables false
set_option linter.unusedSimpArgs false
set_option maxRecDepth 100000
set_option maxHeartbeats 4000000

/-- A block of two slices is no row of numbers or of items. -/
theorem slices_cell {w : World} {T j : Nat} {p1 p2 : Option Addr} {n1 c1 n2 c2 : Nat} {ty : TypeId} {v : Value} (hT : w.heap[T]? = some (.cells #[.slice p1 n1 c1, .slice p2 n2 c2] ty)) (h : w.cell? ⟨T, j, none⟩ = some v) : ∃ p n c, v = .slice p n c := by
  simp only [World.cell?, hT] at h
  match j, h with
  | 0, h => simp at h; exact ⟨_, _, _, h.symm⟩
  | 1, h => simp at h; exact ⟨_, _, _, h.symm⟩
  | j + 2, h => simp at h
theorem RI.sep {w z : World} {T : Nat} {p1 p2 : Option Addr} {n1 c1 n2 c2 : Nat} {ty : TypeId} {v : Value} {l : List Int} (h : RI w v l) (hT : w.heap[T]? = some (.cells #[.slice p1 n1 c1, .slice p2 n2 c2] ty)) (hs : w.heap.size ≤ z.heap.size) (hz : ∀ k, k ≠ T → k < w.heap.size → z.heap[k]? = w.heap[k]?) : RI z v l := by
  rcases h with h | ⟨b, off, cap, rfl, hb, hc⟩
  · exact .inl h
  · refine .inr ⟨b, off, cap, rfl, by omega, fun i hi => ?_⟩
    have hbT : b ≠ T := by
      intro e
      subst e
      obtain ⟨p, n, c, he⟩ := slices_cell hT (hc i hi)
      cases he
    exact (World.cell?_of_block (w := w) (w' := z) (a := ⟨b, off + i, none⟩) (hz b hbT hb)).trans (hc i hi)
theorem RT.sep {w z : World} {T : Nat} {p1 p2 : Option Addr} {n1 c1 n2 c2 : Nat} {ty : TypeId} {v : Value} {l : List It} (h : RT w v l) (hT : w.heap[T]? = some (.cells #[.slice p1 n1 c1, .slice p2 n2 c2] ty)) (hs : w.heap.size ≤ z.heap.size) (hz : ∀ k, k ≠ T → k < w.heap.size → z.heap[k]? = w.heap[k]?) : RT z v l := by
  obtain ⟨p, c, hv, g1, g2, hr⟩ := h
  refine ⟨p, c, hv, g1, g2, fun i hi => ?_⟩
  obtain ⟨b, o, hp, hlt, hx⟩ := hr i hi
  have hbT : b ≠ T := by
    intro e
    subst e
    obtain ⟨p, n, c, he⟩ := slices_cell hT hx.c0
    cases he
  have mv : ∀ j, z.cell? ⟨b, j, none⟩ = w.cell? ⟨b, j, none⟩ := fun j => World.cell?_of_block (w := w) (w' := z) (a := ⟨b, j, none⟩) (hz b hbT hlt)
  obtain ⟨u, hu, hr⟩ := hx.c4
  exact ⟨b, o, hp, by omega, (mv _).trans hx.c0, (mv _).trans hx.c1, (mv _).trans hx.c2, (mv _).trans hx.c3, u, (mv _).trans hu, hr.sep hT hs hz⟩
theorem rline_c (t : Tr) (s : List UInt8) (f : Bool) (v1 v2 : Value) (W : World) (h1 : RT W v1 t.items) (hn1 : NilOk v1) (h2 : RI W v2 t.slack) (hok : OkT t) (hf : f = true → t.items = []) (hs : s.length ≤ 1048576) :
    Calls Tryz.prog 28 #[.agg #[v1, v2], str s, .bool f] W (rlineP t f s W) := by
  by_cases hsl : slackL f s
  · exact rline_slack t s f v1 v2 W h1 h2 (hf hsl.1) hsl hs
  · exact rline_node t s f v1 v2 W h1 hn1 h2 hok hsl hs
/-- What the reference's Parse leaves. -/
def rParseP (s : List UInt8) (W : World) (e : Ending) (w' : World) : Prop :=
  ∃ v1 v2, e = .returned (.tuple #[.agg #[v1, v2], .int .i64 ((parseS s).2.1 : Nat), .int .i64 (parseS s).2.2]) ∧ RT w' v1 (parseS s).1.items ∧ RI w' v2 (parseS s).1.slack ∧ Below W.heap.size W w'
theorem rParseP.nil {s : List UInt8} {W w' : World} {i : Nat} {n : Int} (h : parseS s = (⟨[], []⟩, i, n)) (hb : Below W.heap.size W w') : rParseP s W (.returned (.tuple #[.agg #[.slice none 0 0, .slice none 0 0], .int .i64 i, .int .i64 n])) w' :=
  ⟨_, _, by rw [h], by rw [h]; exact RT_nil _, by rw [h]; exact RI_nil _, hb⟩
theorem rparse_long (s : List UInt8) (W : World) (hs : s.length ≤ 140737488355328) (h : 1048576 < s.length) :
    Calls Tryz.prog 9 #[str s] W (rParseP s W) := by
  obtain ⟨w0, hw0⟩ : ∃ w0, w0 = W.alloc (.cells #[.slice none 0 0, .slice none 0 0] 32) := ⟨_, rfl⟩
  have HW0 := Lib.hid hw0
  have C0 : w0.heap[W.heap.size]? = some (.cells #[.slice none 0 0, .slice none 0 0] 32) := by rw [hw0]; exact new_blk _
  have B0 : Hid (Below W.heap.size W w0) := Lib.hid (by rw [hw0]; exact (Below.refl _ _).alloc (Nat.le_refl _) _)
  have HC := Lib.hid C0
  have hi : (1048576 : Int) < (s.length : Int) := by omega
  have hi2 : (s.length : Int) ≤ 140737488355328 := by omega
  have HR := Lib.hid (parseS_long h)
  clear C0 hw0 h hs
  go_enter Tryz.func9, Tryz.ntmps9
  go_wp2_with fail
  rw [← HW0.out]
  refine bodyPost_ret (v := .tuple #[.agg #[.slice none 0 0, .slice none 0 0], .int .i64 0, .int .i64 3]) ?_ rfl (rParseP.nil HR.out B0.out)
  rw [results_cell_tmp2 rfl]
  have hld := rtree_load HC.out
  simp [asAddr, Result.andThen, hld]
theorem rparse_short (s : List UInt8) (W : World) (h : s.length ≤ 1048576) :
    Calls Tryz.prog 9 #[str s] W (rParseP s W) := by
  obtain ⟨w0, hw0⟩ : ∃ w0, w0 = W.alloc (.cells #[.slice none 0 0, .slice none 0 0] 32) := ⟨_, rfl⟩
  have HW0 := Lib.hid hw0
  have C0 : w0.heap[W.heap.size]? = some (.cells #[.slice none 0 0, .slice none 0 0] 32) := by rw [hw0]; exact new_blk _
  have B0 : Hid (Below W.heap.size W w0) := Lib.hid (by rw [hw0]; exact (Below.refl _ _).alloc (Nat.le_refl _) _)
  have HC := Lib.hid C0
  have hi : ¬ (1048576 : Int) < (s.length : Int) := by omega
  have hi2 : (s.length : Int) ≤ 1048576 := by omega
  have SP := Lib.hid (rsplit_own ⟨s.toArray⟩ 10 w0 (by rw [sz]; omega))
  simp only at SP
  have M1 := Lib.hid (fun h2 => parseS_many (s := s) (by omega) h2)
  have M2 := Lib.hid (fun h2 => parseS_go (s := s) (by omega) h2)
  have hwb0 := splitC_mem 10 s []
  have hwl := splitC_many 10 s []
  generalize splitC 10 [] s = ls at *
  have HWB : Hid (∀ i, i < ls.length → (ls.getD i []).length ≤ 1048576) := Lib.hid (fun i hi => by
    have := hwb0 (ls.getD i []) (by rw [List.getD, List.getElem?_eq_getElem hi]; exact List.getElem_mem hi)
    simp only [List.length_nil, Nat.zero_add] at this; omega)
  have hwi : (ls.length : Int) ≤ 1048577 := by omega
  have hsa : saidN ls ≤ 1048577 := by have := saidN_le ls; omega
  clear C0 hw0 h hwb0
  go_enter Tryz.func9, Tryz.ntmps9
  go_wp2_with fail
  rw [← HW0.out]
  refine SP.out.mono ?_
  rintro e w1 ⟨v, rfl, ⟨hr1, hown1⟩, hb1⟩
  have B1 := Lib.hid (B0.out.trans (hb1.mono B0.out.size))
  have C1 := Lib.hid (blk_below HC.out hb1)
  have hw0R : W.heap.size < w0.heap.size := blk_lt HC.out
  obtain ⟨pw, cw, rfl, hcw⟩ := hr1.out
  have HCW := Lib.hid hcw
  clear hr1 hb1 HC SP hcw hown1
  go_wp2_with fail
  go_loopw [6, 7] (fun a iv wr => ∃ k : Nat, a = .int .i64 (saidN (ls.take k) : Nat) ∧ iv = .int .i64 k ∧ k ≤ ls.length ∧ w1 = wr) (fun _ iv _ => ls.length - (intOf iv).toNat)
  case atStart => exact ⟨0, by go_num, by go_num, Nat.zero_le _, rfl⟩
  case round =>
    obtain ⟨k, rfl, rfl, hk, rfl⟩ := hrel
    have hki : (k : Int) ≤ 1048577 := by omega
    have hsk : saidN (ls.take k) ≤ 1048577 := by have := saidN_le (ls.take k); simp at this; omega
    by_cases hlt : k < ls.length
    · have hlt' : (k : Int) < (ls.length : Int) := by omega
      obtain ⟨b, off, rfl, hbl, g⟩ := HCW.out k hlt
      have SA := Lib.hid (saidN_at hlt)
      have SC := Lib.hid (fun w => rsilent_c ⟨(ls.getD k []).toArray⟩ w (by rw [sz]; have := HWB.out k hlt; omega))
      simp only at SC
      have hk1 : k + 1 ≤ ls.length := hlt
      clear hlt
      generalize ls.getD k [] = x at *
      generalize hsb : silS x = sb at *
      cases sb with
      | true =>
        have NX : Hid (saidN (ls.take (k + 1)) = saidN (ls.take k)) := Lib.hid (by rw [SA.out]; simp)
        generalize saidN (ls.take k) = S at *
        clear hsb SA
        go_wp2_with (go_at_call 27; refine (SC.out _).mono ?_; rintro e w2 ⟨rfl, rfl⟩)
        go_roundw
        case rel => exact ⟨k + 1, by rw [NX.out], by go_num, hk1, trivial⟩
        case measure => show ls.length - ((k : Int) + 1).toNat < ls.length - ((k : Int)).toNat; omega
      | false =>
        have NX : Hid (saidN (ls.take (k + 1)) = saidN (ls.take k) + 1) := Lib.hid (by rw [SA.out]; simp)
        generalize saidN (ls.take k) = S at *
        clear hsb SA
        go_wp2_with (go_at_call 27; refine (SC.out _).mono ?_; rintro e w2 ⟨rfl, rfl⟩)
        go_roundw
        case rel => exact ⟨k + 1, by rw [NX.out]; go_num, by go_num, hk1, trivial⟩
        case measure => show ls.length - ((k : Int) + 1).toNat < ls.length - ((k : Int)).toNat; omega
    · obtain rfl : k = ls.length := by omega
      have hlt' : ¬ (ls.length : Int) < (ls.length : Int) := by omega
      rw [List.take_length] at *
      by_cases hm : 4096 < saidN ls
      · have HR := Lib.hid (M1.out hm)
        have hm' : (4096 : Int) < (saidN ls : Int) := by omega
        have hmd : decide (4096 < saidN ls) = true := decide_eq_true hm
        have k0 := blk_cell (j := 0) (v := .slice none 0 0) C1.out rfl
        have k1 := blk_cell (j := 1) (v := .slice none 0 0) C1.out rfl
        have kf := fun i => blk_frozen C1.out i
        have HL := Lib.hid (rtree_load (set2_blk C1.out (.slice none 0 0) (.slice none 0 0)))
        have HB5 := Lib.hid (set2_below B1.out (Nat.le_refl _) (.slice none 0 0) (.slice none 0 0))
        generalize saidN ls = S at *
        clear hm hlt M2
        go_wp2_with fail
        refine bodyPost_ret (v := .tuple #[.agg #[.slice none 0 0, .slice none 0 0], .int .i64 0, .int .i64 3]) ?_ rfl (rParseP.nil HR.out HB5.out)
        rw [results_cell_tmp2 rfl]
        have hld := HL.out
        simp [asAddr, Result.andThen, hld]
      · have HR := Lib.hid (M2.out hm)
        have hm' : ¬ (4096 : Int) < (saidN ls : Int) := by omega
        have hmd : decide (4096 < saidN ls) = false := decide_eq_false hm
        generalize saidN ls = S at *
        clear hm hlt M1
        have CT0 : Hid ((w1.alloc (.cells #[.slice none 0 0, .slice none 0 0] 32)).heap[w1.heap.size]? = some (.cells #[.slice none 0 0, .slice none 0 0] 32)) := Lib.hid (new_blk _)
        have BT0 : Hid (Below w1.heap.size w1 (w1.alloc (.cells #[.slice none 0 0, .slice none 0 0] 32))) := Lib.hid ((Below.refl _ _).alloc (Nat.le_refl _) _)
        have LR : Hid (W.heap.size < w1.heap.size) := Lib.hid (blk_lt C1.out)
        obtain ⟨T, hT⟩ : ∃ T, T = w1.heap.size := ⟨_, rfl⟩
        have HT := Lib.hid hT
        rw [← hT] at CT0 BT0 LR
        clear hT
        go_wp2_with fail
        simp only [← HT.out]
        go_loopw [9, 10] (fun fv iv wv => ∃ (k : Nat) (t : Tr) (f : Bool) (p1 : Option Addr) (n1 c1 : Nat) (p2 : Option Addr) (n2 c2 : Nat), fv = .bool f ∧ iv = .int .i64 k ∧ k ≤ ls.length ∧ Hid (wv.heap[T]? = some (.cells #[.slice p1 n1 c1, .slice p2 n2 c2] 32)) ∧ Hid (RT wv (.slice p1 n1 c1) t.items ∧ NilOk (.slice p1 n1 c1) ∧ RI wv (.slice p2 n2 c2) t.slack) ∧ Hid (OkT t) ∧ Hid (f = true → t.items = []) ∧ Hid (parseS s = parseGo (ls.drop k) k t f) ∧ Hid (Below T w1 wv)) (fun _ iv _ => ls.length - (intOf iv).toNat)
        case atStart => exact ⟨0, ⟨[], []⟩, true, _, _, _, _, _, _, rfl, by go_num, Nat.zero_le _, CT0, Lib.hid ⟨RT_nil _, by (intro n c h; injection h with _ _ h; exact h.symm), RI_nil _⟩, Lib.hid OkT.nil, Lib.hid (fun _ => rfl), HR, BT0⟩
        case round =>
          obtain ⟨k, t, f, p1, n1, c1, p2, n2, c2, rfl, rfl, hk, hct, hrt, hok, hf, hpg, hbt⟩ := hrel
          have hki : (k : Int) ≤ 1048577 := by omega
          have BW := Lib.hid (B1.out.trans (hbt.out.mono (Nat.le_of_lt LR.out)))
          have CRW := Lib.hid ((hbt.out.block _ LR.out).trans C1.out)
          have LTW := Lib.hid (blk_lt hct.out)
          by_cases hlt : k < ls.length
          · have hlt' : (k : Int) < (ls.length : Int) := by omega
            obtain ⟨b, off, rfl, hbl, g0⟩ := HCW.out k hlt
            have hbT : b < T := by rw [HT.out]; exact hbl
            have g : wr.cell? ⟨b, off + k, none⟩ = some (str (ls.getD k [])) := (hbt.out.cell (p := ⟨b, off + k, none⟩) hbT).trans g0
            have AT := Lib.hid (hpg.out.trans (parseGo_at hlt t f))
            have SC := Lib.hid (fun w => rsilent_c ⟨(ls.getD k []).toArray⟩ w (by rw [sz]; have := HWB.out k hlt; omega))
            have LC := Lib.hid (fun w (h : Below wr.heap.size wr w) => rline_c t (ls.getD k []) f _ _ w (hrt.out.1.below h) hrt.out.2.1 (hrt.out.2.2.below h) hok.out hf.out (HWB.out k hlt))
            simp only at SC
            have hk1 : k + 1 ≤ ls.length := hlt
            clear hlt g0
            generalize ls.getD k [] = x at *
            generalize hsb : silS x = sb at *
            cases sb with
            | true =>
              have NX : Hid (parseS s = parseGo (ls.drop (k + 1)) (k + 1) t f) := Lib.hid (by rw [AT.out]; simp)
              clear hsb AT LC
              go_wp2_with (go_at_call 27; refine (SC.out _).mono ?_; rintro e w2 ⟨rfl, rfl⟩)
              go_roundw
              case rel => exact ⟨k + 1, t, f, _, _, _, _, _, _, rfl, by go_num, hk1, hct, hrt, hok, hf, NX, hbt⟩
              case measure => show ls.length - ((k : Int) + 1).toNat < ls.length - ((k : Int)).toNat; omega
            | false =>
              have AT2 : Hid (parseS s = if (lineS t f x).2 = 0 then parseGo (ls.drop (k + 1)) (k + 1) (lineS t f x).1 false else (⟨[], []⟩, k + 1, (lineS t f x).2)) := Lib.hid (by rw [AT.out]; simp)
              have OKL := Lib.hid (fun h => lineS_ok (t := t) (f := f) (s := x) hok.out h)
              have LC2 : Hid (∀ w, Below wr.heap.size wr w → Calls Tryz.prog 28 #[.agg #[.slice p1 n1 c1, .slice p2 n2 c2], str x, .bool f] w fun e w' => ∃ p3 n3 c3 p4 n4 c4, e = .returned (.tuple #[.agg #[.slice p3 n3 c3, .slice p4 n4 c4], .int .i64 (lineS t f x).2]) ∧ Hid ((lineS t f x).2 = 0 → RT w' (.slice p3 n3 c3) (lineS t f x).1.items ∧ NilOk (.slice p3 n3 c3) ∧ RI w' (.slice p4 n4 c4) (lineS t f x).1.slack) ∧ Below w.heap.size w w') := Lib.hid (fun w h => (LC.out w h).mono fun e w' ⟨p3, n3, c3, p4, n4, c4, h1, h2, h3⟩ => ⟨p3, n3, c3, p4, n4, c4, h1, Lib.hid h2, h3⟩)
              generalize lineS t f x = LS at *
              obtain ⟨t2, e2⟩ := LS
              clear hsb AT LC
              simp only at AT2 OKL LC2
              have t0 := blk_cell (j := 0) (v := .slice p1 n1 c1) hct.out rfl
              have t1 := blk_cell (j := 1) (v := .slice p2 n2 c2) hct.out rfl
              have hbw : b < wr.heap.size := Nat.lt_trans hbT LTW.out
              have KQ : Hid (∀ w', Below wr.heap.size wr w' → w'.cell? ⟨T, 0, none⟩ = some (.slice p1 n1 c1) ∧ w'.cell? ⟨T, 1, none⟩ = some (.slice p2 n2 c2) ∧ w'.cell? ⟨b, off + k, none⟩ = some (str x)) := Lib.hid (fun w' h => ⟨(h.cell (p := ⟨T, 0, none⟩) LTW.out).trans t0, (h.cell (p := ⟨T, 1, none⟩) LTW.out).trans t1, (h.cell (p := ⟨b, off + k, none⟩) hbw).trans g⟩)
              have hqd := (Below.refl wr.heap.size wr).drew
              go_upto_region 18 with (go_at_call 27; refine (SC.out _).mono ?_; rintro e w2 ⟨rfl, rfl⟩)
              go_cut [11, 12] (fun s11 s12 w => ∃ (X : Nat) (p3 : Option Addr) (n3 c3 : Nat) (p4 : Option Addr) (n4 c4 : Nat), s11 = .pointer (some ⟨X, 0, none⟩) ∧ s12 = .int .i64 e2 ∧ wr.heap.size ≤ X ∧ Hid (w.heap[X]? = some (.cells #[.slice p3 n3 c3, .slice p4 n4 c4] 32)) ∧ Hid (e2 = 0 → RT w (.slice p3 n3 c3) t2.items ∧ NilOk (.slice p3 n3 c3) ∧ RI w (.slice p4 n4 c4) t2.slack) ∧ Hid (Below wr.heap.size wr w))
              case first =>
                have hqa : Below wr.heap.size wr (wr.alloc (.cells #[.slice none 0 0, .slice none 0 0] 32)).drew := ((Below.refl wr.heap.size wr).alloc (Nat.le_refl _) _).drew
                have hXn : (wr.alloc (.cells #[.slice none 0 0, .slice none 0 0] 32)).drew.heap[wr.heap.size]? = some (.cells #[.slice none 0 0, .slice none 0 0] 32) := new_blk (w := wr) (.cells #[.slice none 0 0, .slice none 0 0] 32)
                have HXN := Lib.hid hXn
                clear hXn
                go_region_held3 (fun w' => w'.cell? ⟨T, 0, none⟩ = some (.slice p1 n1 c1) ∧ w'.cell? ⟨T, 1, none⟩ = some (.slice p2 n2 c2) ∧ w'.cell? ⟨b, off + k, none⟩ = some (str x)) ((first | exact KQ.out _ hqd | exact KQ.out _ hqa | exact KQ.out _ hq3 | exact KQ.out _ (hq3.alloc hq3.size _) | exact KQ.out _ ((hq3.setCell (p := ⟨wr.heap.size, 0, none⟩) (Nat.le_refl _) _).setCell (p := ⟨wr.heap.size, 1, none⟩) (Nat.le_refl _) _))) ((first | (go_at_call 28; refine (LC2.out _ hqd).mono ?_; rintro e w3 ⟨p3, n3, c3, p4, n4, c4, rfl, hg3, hb3⟩; have hq3 := hqd.trans (hb3.mono hqd.size); have tokA : True := trivial) | (go_at_call 28; refine (LC2.out _ hqa).mono ?_; rintro e w3 ⟨p3, n3, c3, p4, n4, c4, rfl, hg3, hb3⟩; have hq3 := hqa.trans (hb3.mono hqa.size); have HX3 := Lib.hid (blk_below HXN.out hb3); have kx0 := blk_cell (j := 0) (v := .slice none 0 0) HX3.out rfl; have kx1 := blk_cell (j := 1) (v := .slice none 0 0) HX3.out rfl; have kxf := fun i => blk_frozen HX3.out i)))
                all_goals
                  go_wp2_with fail
                  go_meet
                  first
                    | exact ⟨w3.heap.size, p3, n3, c3, p4, n4, c4, rfl, rfl, hq3.size, Lib.hid (new_blk _), Lib.hid (fun h => ⟨(hg3.out h).1.below ((Below.refl _ _).alloc (Nat.le_refl _) _), (hg3.out h).2.1, (hg3.out h).2.2.below ((Below.refl _ _).alloc (Nat.le_refl _) _)⟩), Lib.hid (hq3.alloc hq3.size _)⟩
                    | exact ⟨wr.heap.size, p3, n3, c3, p4, n4, c4, rfl, rfl, Nat.le_refl _, Lib.hid (set2_blk HX3.out _ _), Lib.hid (fun h => ⟨(hg3.out h).1.sep HX3.out (Nat.le_of_eq (set2_size _ _ _ _).symm) (fun k hk _ => set2_other hk _ _), (hg3.out h).2.1, (hg3.out h).2.2.sep HX3.out (Nat.le_of_eq (set2_size _ _ _ _).symm) (fun k hk _ => set2_other hk _ _)⟩), Lib.hid (set2_below hq3 (Nat.le_refl _) _ _)⟩
              case rest =>
                obtain ⟨X, p3, n3, c3, p4, n4, c4, rfl, rfl, hX, hxb, hgc, hbc⟩ := hcut
                have BC := Lib.hid (BW.out.trans (hbc.out.mono BW.out.size))
                have TC := Lib.hid (blk_below hct.out hbc.out)
                have RC := Lib.hid (blk_below CRW.out hbc.out)
                have x0 := blk_cell (j := 0) (v := .slice p3 n3 c3) hxb.out rfl
                have x1 := blk_cell (j := 1) (v := .slice p4 n4 c4) hxb.out rfl
                clear t0 t1 g hqd LC2 SC KQ
                by_cases he : e2 = 0
                · subst he
                  have NX : Hid (parseS s = parseGo (ls.drop (k + 1)) (k + 1) t2 false) := Lib.hid (AT2.out.trans (if_pos rfl))
                  have OK2 := Lib.hid (OKL.out rfl)
                  have GC := Lib.hid (hgc.out rfl)
                  have t0 := blk_cell (j := 0) (v := .slice p1 n1 c1) TC.out rfl
                  have t1 := blk_cell (j := 1) (v := .slice p2 n2 c2) TC.out rfl
                  have tf := fun i => blk_frozen TC.out i
                  clear AT2 OKL hgc
                  go_wp2_with fail
                  go_roundw
                  case rel =>
                    exact ⟨k + 1, t2, false, p3, n3, c3, p4, n4, c4, rfl, by go_num, hk1, Lib.hid (set2_blk TC.out _ _), Lib.hid ⟨GC.out.1.sep TC.out (Nat.le_of_eq (set2_size _ _ _ _).symm) (fun k hk _ => set2_other hk _ _), GC.out.2.1, GC.out.2.2.sep TC.out (Nat.le_of_eq (set2_size _ _ _ _).symm) (fun k hk _ => set2_other hk _ _)⟩, OK2, Lib.hid (fun h => by cases h), NX, Lib.hid (set2_below (hbt.out.trans (hbc.out.mono (Nat.le_of_lt LTW.out))) (Nat.le_refl _) _ _)⟩
                  case measure => show ls.length - ((k : Int) + 1).toNat < ls.length - ((k : Int)).toNat; omega
                · have HR2 : Hid (parseS s = (⟨[], []⟩, k + 1, e2)) := Lib.hid (AT2.out.trans (if_neg he))
                  have he2 : (e2 != 0) = true := by rw [bne_iff_ne]; exact he
                  have r0 := blk_cell (j := 0) (v := .slice none 0 0) RC.out rfl
                  have r1 := blk_cell (j := 1) (v := .slice none 0 0) RC.out rfl
                  have rf := fun i => blk_frozen RC.out i
                  have HL := Lib.hid (rtree_load (set2_blk RC.out (.slice none 0 0) (.slice none 0 0)))
                  have HB5 := Lib.hid (set2_below BC.out (Nat.le_refl _) (.slice none 0 0) (.slice none 0 0))
                  clear AT2 OKL hgc he
                  go_wp2_with fail
                  refine bodyPost_ret (v := .tuple #[.agg #[.slice none 0 0, .slice none 0 0], .int .i64 ((k + 1 : Nat) : Int), .int .i64 e2]) ?_ rfl (rParseP.nil HR2.out HB5.out)
                  rw [results_cell_tmp2 rfl]
                  have hld := HL.out
                  simp [asAddr, Result.andThen, hld]
          · obtain rfl : k = ls.length := by omega
            have hlt' : ¬ (ls.length : Int) < (ls.length : Int) := by omega
            have HR2 := Lib.hid (hpg.out.trans (parseGo_end ls _ t f))
            have t0 := blk_cell (j := 0) (v := .slice p1 n1 c1) hct.out rfl
            have t1 := blk_cell (j := 1) (v := .slice p2 n2 c2) hct.out rfl
            have r0 := blk_cell (j := 0) (v := .slice none 0 0) CRW.out rfl
            have r1 := blk_cell (j := 1) (v := .slice none 0 0) CRW.out rfl
            have rf := fun i => blk_frozen CRW.out i
            have HL := Lib.hid (rtree_load (set2_blk CRW.out (.slice p1 n1 c1) (.slice p2 n2 c2)))
            have HB5 := Lib.hid (set2_below BW.out (Nat.le_refl _) (.slice p1 n1 c1) (.slice p2 n2 c2))
            have F1 := Lib.hid (hrt.out.1.sep (z := set2 wr W.heap.size (.slice p1 n1 c1) (.slice p2 n2 c2)) CRW.out (Nat.le_of_eq (set2_size _ _ _ _).symm) (fun k hk _ => set2_other hk _ _))
            have F2 := Lib.hid (hrt.out.2.2.sep (z := set2 wr W.heap.size (.slice p1 n1 c1) (.slice p2 n2 c2)) CRW.out (Nat.le_of_eq (set2_size _ _ _ _).symm) (fun k hk _ => set2_other hk _ _))
            clear hlt
            go_wp2_with fail
            refine bodyPost_ret (v := .tuple #[.agg #[.slice p1 n1 c1, .slice p2 n2 c2], .int .i64 0, .int .i64 0]) ?_ rfl ⟨_, _, by rw [HR2.out]; rfl, by rw [HR2.out]; exact F1.out, by rw [HR2.out]; exact F2.out, HB5.out⟩
            rw [results_cell_tmp2 rfl]
            have hld := HL.out
            simp [asAddr, Result.andThen, hld]
theorem rparse_c (s : List UInt8) (W : World) (hs : s.length ≤ 140737488355328) : Calls Tryz.prog 9 #[str s] W (rParseP s W) := by
  by_cases h : 1048576 < s.length
  · exact rparse_long s W hs h
  · exact rparse_short s W (by omega)
theorem parse_c (s : List UInt8) (W : World) (E : Env W) (hs : s.length ≤ 140737488355328) : Calls Tryz.prog 8 #[str s] W (ParseP s W) := by
  by_cases h : 1048576 < s.length
  · exact parse_long s W hs h
  · exact parse_short s W E (by omega)
end Go.Proofs.YtophilmjfdhhaaaGreatDoor
