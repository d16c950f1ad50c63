/- titheref24.Join at every slice of strings. -/
import Derived.Test.YtdcnlgjngfmbcaaDoorNj
import Derived.Test.YtdcnlgjngfmbcaaDoorNp
import Derived.Lib.AppendStr
namespace Go.Proofs.YtdcnlgjngfmbcaaDoor
open Go Go.RowKit Go.Shelf
set_option linter.unusedVariables false
set_option linter.unusedSimpArgs false
set_option maxRecDepth 100000
set_option maxHeartbeats 1600000

def sumB : List (List UInt8) → Nat
  | [] => 0
  | x :: r => x.length + 1 + sumB r
theorem sumB_snoc (xs : List (List UInt8)) (y : List UInt8) : sumB (xs ++ [y]) = sumB xs + (y.length + 1) := by
  induction xs with
  | nil => simp [sumB]
  | cons a r ih => simp only [List.cons_append, sumB, ih]; omega
theorem sumB_take (l : List (List UInt8)) (k : Nat) (hk : k < l.length) : sumB (l.take (k + 1)) = sumB (l.take k) + ((l.getD k []).length + 1) := by
  rw [List.take_succ_eq_append_getElem hk, sumB_snoc, List.getD, List.getElem?_eq_getElem hk]; rfl
theorem sumB_le (l : List (List UInt8)) (k : Nat) : sumB (l.take k) ≤ sumB l := by
  induction l generalizing k with
  | nil => simp
  | cons a r ih =>
    cases k with
    | zero => simp [sumB]
    | succ k => simp only [List.take_succ_cons, sumB]; have := ih k; omega
theorem tail_len (r : List (List UInt8)) : (Lib.joinTail [32] r).length = sumB r := by
  induction r with
  | nil => rfl
  | cons a r ih =>
    have : Lib.joinTail [32] (a :: r) = [32] ++ a ++ Lib.joinTail [32] r := by simp [Lib.joinTail]
    rw [this]
    simp [sumB, ih]
    omega
theorem join_sum (l : List (List UInt8)) (h : l ≠ []) : (Lib.join l [32]).length + 1 = sumB l := by
  cases l with
  | nil => exact absurd rfl h
  | cons x r => rw [Lib.join_cons, List.length_append, tail_len, sumB]; omega
theorem join_snoc (xs : List (List UInt8)) (y : List UInt8) (h : xs ≠ []) : Lib.join (xs ++ [y]) [32] = Lib.join xs [32] ++ [32] ++ y := by
  cases xs with
  | nil => exact absurd rfl h
  | cons x r =>
    rw [List.cons_append, Lib.join_cons, Lib.join_cons]
    simp [Lib.joinTail]
theorem join_take (l : List (List UInt8)) (k : Nat) (hk : k < l.length) : Lib.join (l.take (k + 1)) [32] = if k = 0 then l.getD k [] else Lib.join (l.take k) [32] ++ [32] ++ l.getD k [] := by
  rw [List.take_succ_eq_append_getElem hk]
  have e : l.getD k [] = l[k] := by rw [List.getD, List.getElem?_eq_getElem hk]; rfl
  rw [e]
  split
  · rename_i h; subst h; simp [Lib.join_one]
  · rw [join_snoc _ _ (by intro h; have := congrArg List.length h; rw [List.length_take, List.length_nil] at this; omega)]
/-- Bytes, as cells. -/
abbrev bcs (l : List UInt8) : List Value := (l.map (fun b => (b.toNat : Int))).map (Value.int .u8)
theorem Tryd.infou8 : (Tryd.prog.info? 5).map (fun i => (i.zero, i.size, i.bytes)) = some (some (.int .u8 0), 1, 1) := by kernel_rfl
theorem nums_bytes (l : List UInt8) : strOfNums (l.map (fun b => (b.toNat : Int))) = ⟨l.toArray⟩ := by
  unfold strOfNums
  congr 1
  simp [Function.comp_def]
theorem strCells_b (s : ByteArray) : Lib.strCells s = bcs s.data.toList := by
  unfold Lib.strCells bcs
  simp [Function.comp_def]
theorem conv_bytes {w : World} {B : Nat} {v : Value} {l : List UInt8} (h : w.ownsRow B 5 1 v l.length (bcs l)) :
    (convert 46 9 v).run Tryd.prog w = .ok (str l) w := by
  obtain ⟨hl, h⟩ := h
  rcases h with ⟨rfl, h0⟩ | ⟨g, cap, cur, rfl, hg, hh, hn, hc, hs, ht⟩
  · obtain rfl : l = [] := List.eq_nil_of_length_eq_zero h0
    exact run_convert_bytes_nil w _ 5 Tryd.underlying46 Tryd.underlying5 0 0 _ Tryd.underlying9
  · rw [show str l = Value.string (strOfNums (l.map (fun b => (b.toNat : Int)))) by rw [nums_bytes]]
    refine run_convert_bytes_arg w _ 5 Tryd.underlying46 Tryd.underlying5 g 0 l.length cap _ (by simp) (fun i hi => ?_) _ Tryd.underlying9
    have hi' : i < l.length := by simpa using hi
    have e1 : cur.toList[i]? = (bcs l)[i]? := by
      rw [← ht, List.getElem?_take, if_pos (by omega)]
    simp only [World.cell?, hh]
    have e2 : (bcs l)[i]? = some (.int .u8 ((l.map (fun b => (b.toNat : Int))).getD i 0)) := by
      rw [List.getElem?_map, List.getD, List.getElem?_eq_getElem (by simpa using hi')]; rfl
    rw [e2] at e1
    simpa using e1

theorem rjoin_any (l : List (List UInt8)) (v : Value) (W : World) (h : RS W v l) (hl : l.length ≤ 140737488355328) (hw : ∀ k, k < l.length → (l.getD k []).length ≤ 140737488355328) (hj : sumB l ≤ 140737488355328) :
    Calls Tryd.prog 16 #[v] W fun e w' => e = .returned (.tuple #[str (joinS l).1, .int .i64 (joinS l).2]) ∧ Below W.heap.size W w' := by
  obtain ⟨i0, hi, hz0, hz1, hz2⟩ := info_of1 Tryd.infou8
  have BAD := Lib.hid (fun k hk h => join_bad (l := l) (k := k) hk h)
  have OK := Lib.hid (fun h => join_ok (l := l) h)
  have HW := Lib.hid hw
  have HJ := Lib.hid hj
  have JS := Lib.hid (join_sum l)
  have ST := Lib.hid (sumB_take l)
  have SLE := Lib.hid (sumB_le l)
  have JT := Lib.hid (join_take l)
  have PC := Lib.hid rplain_c
  obtain ⟨p, c, rfl, hr⟩ := RS.out h
  have HL := Lib.hid hr
  clear h hw hj hr
  have hli : (l.length : Int) ≤ 140737488355328 := by omega
  generalize hR : joinS l = R at *
  clear hR
  go_enter Tryd.func16, Tryd.ntmps16
  go_wp2_with fail
  go_loopw [4, 5] (fun g i wr => ∃ k : Nat, i = .int .i64 k ∧ g = .int .i64 ((sumB (l.take k) : Int) - 1) ∧ k ≤ l.length ∧ wr = W ∧ Hid (∀ j, j < k → badW (l.getD j []) = false)) (fun _ i _ => l.length - (intOf i).toNat)
  case atStart => exact ⟨0, by go_num, by simp [sumB], Nat.zero_le _, rfl, Lib.hid (fun j hj => absurd hj (Nat.not_lt_zero _))⟩
  case round =>
    obtain ⟨k, rfl, rfl, hk, rfl, hok⟩ := hrel
    have hkb : (k : Int) ≤ 140737488355328 := by omega
    have hsb : (sumB (l.take k) : Int) ≤ 140737488355328 := by have := SLE.out k; have := HJ.out; omega
    by_cases hlt : k < l.length
    rotate_left
    · have hlt' : ¬ (k : Int) < (l.length : Int) := by omega
      obtain rfl : k = l.length := by omega
      have hR := OK.out (fun j hj => hok.out j (by omega))
      have SL : Hid (sumB (l.take l.length) = sumB l) := Lib.hid (by rw [List.take_length])
      have hj1 : (Lib.join l [32]).length + 1 = sumB l ∨ (l = [] ∧ sumB l = 0) := by
        by_cases h : l = []
        · subst h; exact .inr ⟨rfl, rfl⟩
        · exact .inl (JS.out h)
      by_cases hbig : 1048576 < (Lib.join l [32]).length
      · have HR : Hid (R = ([], 3)) := Lib.hid (by rw [hR, if_pos hbig])
        have hbig' : (1048576 : Int) < (sumB l : Int) - 1 := by
          have := SL.out
          rcases hj1 with h | ⟨h, _⟩
          · omega
          · subst h; simp [Lib.join_nil] at hbig
        clear hbig hR hj1 hlt
        go_wp2_with fail
        go_ret2
        exact ⟨by rw [HR.out]; rfl, Below.refl _ _⟩
      · have HR : Hid (R = (Lib.join l [32], 0)) := Lib.hid (by rw [hR, if_neg hbig])
        have hbig' : ¬ (1048576 : Int) < (sumB l : Int) - 1 := by
          have := SL.out
          rcases hj1 with h | ⟨_, h⟩ <;> omega
        have SB : Hid (∀ k, k ≤ l.length → sumB (l.take k) ≤ 1048577) := Lib.hid (fun k _ => by
          have := SLE.out k
          have := SL.out
          rcases hj1 with h | ⟨_, h⟩ <;> omega)
        clear hbig hR hj1 hlt hok
        obtain ⟨wo, rfl⟩ : ∃ wo : World, wo = wr := ⟨_, rfl⟩
        go_wp2_with fail
        clear hbig' hsb hkb
        go_loopw [7, 8] (fun m i wy => ∃ k : Nat, i = .int .i64 k ∧ k ≤ l.length ∧ wy.ownsRow wo.heap.size 5 1 m (Lib.join (l.take k) [32]).length (bcs (Lib.join (l.take k) [32])) ∧ Below wo.heap.size wo wy) (fun _ i _ => l.length - (intOf i).toNat)
        case atStart => exact ⟨0, by go_num, Nat.zero_le _, World.ownsRow_nil _ _ _ _, Below.refl _ _⟩
        case round =>
          obtain ⟨k, rfl, hk, hown, hbe⟩ := hrel
          have OWN := Lib.hid hown
          have HBE := Lib.hid hbe
          obtain ⟨po, co, rfl⟩ := own_form1 hown
          have hkb : (k : Int) ≤ 140737488355328 := by omega
          by_cases hkl : k < l.length
          rotate_left
          · have hk' : ¬ (k : Int) < (l.length : Int) := by omega
            obtain rfl : k = l.length := by omega
            have hcv := conv_bytes hown
            rw [List.take_length] at hcv
            clear hown hbe hkl
            go_wp2_with fail
            go_ret2
            exact ⟨by rw [HR.out]; rfl, HBE.out⟩
          · have hk' : (k : Int) < (l.length : Int) := by omega
            obtain ⟨b, o, rfl, hb, g0⟩ := HL.out k hkl
            have g := (hbe.cell (p := ⟨b, o + k, none⟩) hb).trans g0
            have GG : Hid (∀ wx, Below wo.heap.size wo wx → wx.cell? ⟨b, o + k, none⟩ = some (str (l.getD k []))) := Lib.hid (fun wx h => (h.cell (p := ⟨b, o + k, none⟩) hb).trans g0)
            have JK := Lib.hid (JT.out k hkl)
            have L1 := SB.out (k + 1) (by omega)
            have L2 := ST.out k hkl
            have L3 : (Lib.join (l.take k) [32]).length ≤ sumB (l.take k) := by
              by_cases h : l.take k = []
              · rw [h]; simp [Lib.join_nil]
              · have := join_sum _ h; omega
            have J00 : Hid (k = 0 → Lib.join (l.take k) [32] = []) := Lib.hid (fun h => by subst h; rfl)
            generalize l.getD k [] = x at *
            obtain ⟨J1, hJ1⟩ : ∃ J1, J1 = Lib.join (l.take (k + 1)) [32] := ⟨_, rfl⟩
            have HJ1 : Hid (J1 = Lib.join (l.take (k + 1)) [32]) := Lib.hid hJ1
            rw [← hJ1] at JK
            have JL : J1.length + 1 ≤ sumB (l.take (k + 1)) + 1 := by
              rw [hJ1]
              by_cases h : l.take (k + 1) = []
              · rw [h]; simp [Lib.join_nil]
              · have := join_sum _ h; omega
            clear hJ1
            generalize Lib.join (l.take k) [32] = J0 at *
            have hl0 : J0.length + 1 ≤ maxLen := by unfold maxLen; omega
            have HB := Lib.hid (show J0.length + 1 ≤ maxLen ∧ (J0.length + 1) * 1 ≤ 140737488355328 ∧ J0.length + (⟨x.toArray⟩ : ByteArray).size ≤ maxLen ∧ J0.length + (⟨x.toArray⟩ : ByteArray).size ≤ 140737488355328 ∧ J0.length + 1 + (⟨x.toArray⟩ : ByteArray).size ≤ maxLen ∧ J0.length + 1 + (⟨x.toArray⟩ : ByteArray).size ≤ 140737488355328 from by
              rw [sz]; unfold maxLen; refine ⟨by omega, by omega, by omega, by omega, by omega, by omega⟩)
            have HSZ := Lib.hid hbe.size
            clear hown hbe hkl g0 L1 L2 L3 hl0
            by_cases hz : k = 0
            · have hz' : ¬ (0 : Int) < (k : Int) := by omega
              have EQ : Hid (J1 = x) := Lib.hid (by rw [JK.out, if_pos hz])
              have HJ0 : Hid (J0 = []) := Lib.hid (J00.out hz)
              clear hz
              go_wp2_with (at_builtin; refine Lib.wpList_append_own_string _ rfl _ _ 46 9 rfl _ 5 i0 Tryd.underlying46 Tryd.underlying9 hi hz0 hz1 hz2 _ _ _ rfl OWN.out _ rfl HB.out.2.2.1 HB.out.2.2.2.1 HSZ.out ?_; intro m4 w4 hown4 hg4 _)
              have BE4 := Lib.hid (below_own HBE.out HSZ.out OWN.out hg4)
              have OW4 : Hid (w4.ownsRow wo.heap.size 5 1 m4 J1.length (bcs J1)) := Lib.hid (by
                have h := hown4
                rw [strCells_b, sz] at h
                have e1 : J0.length + x.length = J1.length := by rw [EQ.out, HJ0.out]; simp
                have e2 : bcs J0 ++ bcs x = bcs J1 := by rw [EQ.out, HJ0.out]; simp [bcs]
                rw [e1] at h
                rw [← e2]
                exact h)
              clear hown4 hg4
              go_wp2_with fail
              go_roundw
              case rel => exact ⟨k + 1, by go_num, by omega, by rw [← HJ1.out]; exact OW4.out, BE4.out⟩
              case measure => show l.length - ((k : Int) + 1).toNat < l.length - ((k : Int)).toNat; omega
            · have hz' : (0 : Int) < (k : Int) := by omega
              have EQ : Hid (J1 = J0 ++ [32] ++ x) := Lib.hid (by rw [JK.out, if_neg hz])
              clear hz
              go_wp2_with (first | (at_builtin; refine appendN2 (W := wo) rfl _ _ 46 rfl wo.heap.size 5 i0 _ 1 1 Tryd.underlying46 hi hz0 hz1 hz2 rfl (by decide) _ _ _ rfl OWN.out _ [.int .u8 32] _ rfl rfl rfl (by intro u hu; simp at hu; subst hu; rfl) HB.out.1 HB.out.2.1 HSZ.out HBE.out ?_; intro m' w3 hown3 hbe3 hgr; have g3 := GG.out w3 hbe3) | (at_builtin; refine Lib.wpList_append_own_string _ rfl _ _ 46 9 rfl _ 5 i0 Tryd.underlying46 Tryd.underlying9 hi hz0 hz1 hz2 _ _ _ rfl hown3 _ rfl HB.out.2.2.2.2.1 HB.out.2.2.2.2.2 hbe3.size ?_; intro m4 w4 hown4 hg4 _))
              have BE4 := Lib.hid (below_own hbe3 hbe3.size hown3 hg4)
              have OW4 : Hid (w4.ownsRow wo.heap.size 5 1 m4 J1.length (bcs J1)) := Lib.hid (by
                have h := hown4
                rw [strCells_b, sz] at h
                have e1 : J0.length + 1 + x.length = J1.length := by rw [EQ.out]; simp; omega
                have e2 : bcs J0 ++ [Value.int .u8 32] ++ bcs x = bcs J1 := by rw [EQ.out]; simp only [bcs, List.map_append]; rfl
                rw [e1] at h
                rw [← e2]
                exact h)
              clear hown3 hbe3 hgr hown4 hg4
              go_wp2_with fail
              go_roundw
              case rel => exact ⟨k + 1, by go_num, by omega, by rw [← HJ1.out]; exact OW4.out, BE4.out⟩
              case measure => show l.length - ((k : Int) + 1).toNat < l.length - ((k : Int)).toNat; omega
    · have hlt' : (k : Int) < (l.length : Int) := by omega
      obtain ⟨b, o, rfl, _, g⟩ := HL.out k hlt
      have hwk := HW.out k hlt
      have BADk := Lib.hid (fun h => BAD.out k hlt h)
      have STk := Lib.hid (ST.out k hlt)
      have hs2 : (sumB (l.take k) : Int) + (((l.getD k []).length : Int) + 1) ≤ 140737488355328 := by have := SLE.out (k + 1); have := HJ.out; have := STk.out; omega
      have HN : Hid (badW (l.getD k []) = false → ∀ j, j < k + 1 → badW (l.getD j []) = false) := Lib.hid (fun h j hj => by
        rcases Nat.lt_or_ge j k with h' | h'
        · exact hok.out j h'
        · obtain rfl : j = k := by omega
          exact h)
      generalize sumB (l.take k) = sb at *
      generalize l.getD k [] = x at *
      obtain ⟨s, hs⟩ : ∃ s : ByteArray, s = ⟨x.toArray⟩ := ⟨_, rfl⟩
      have hx : x = s.data.toList := by rw [hs]
      have hxl : x.length = s.size := by rw [hs, sz]
      replace g : wr.cell? ⟨b, o + k, none⟩ = some (.string ⟨x.toArray⟩) := g
      rw [← hs] at g
      rw [hx] at HN BADk
      have hsz : s.size ≤ 140737488355328 := by omega
      rw [hxl] at STk hs2
      have hs3 : (sb : Int) + ((s.size : Int) + 1) ≤ 140737488355328 := hs2
      clear hs hx hwk hok hxl hs2
      by_cases h0 : s.size = 0
      · have HR := Lib.hid (BADk.out (by rw [nil_of_size h0]; rfl))
        obtain rfl := nil_of_size h0
        clear h0 hsz hs3 STk
        go_wp2_with fail
        go_ret2
        exact ⟨by rw [HR.out]; rfl, Below.refl _ _⟩
      · have hp : 0 < s.size := by omega
        have he := ne_of_size hp
        by_cases h35 : s[0] = 35
        · have HR := Lib.hid (BADk.out (badW_rem hp h35))
          have e35 : (((s[0]).toNat : Int) == 35) = true := by rw [h35]; rfl
          clear h0 h35
          go_wp2_with fail
          go_ret2
          exact ⟨by rw [HR.out]; rfl, Below.refl _ _⟩
        · have e35 : (((s[0]).toNat : Int) == 35) = false := by
            rw [beq_eq_false_iff_ne]
            intro e
            exact h35 (UInt8.toNat_inj.1 (by have : (s[0]).toNat = 35 := by omega
                                             rw [this]; rfl))
          have HN2 := Lib.hid (fun h => HN.out (badW_ok hp h35 h))
          have BB := Lib.hid (fun j hj h => BADk.out (badW_byte (s := s) (j := j) hj h))
          clear h0 h35 HN BADk
          go_wp2_with fail
          clear e35
          go_loopw [6] (fun i wr' => ∃ q : Nat, i = .int .i64 q ∧ q ≤ s.size ∧ wr' = wr ∧ Hid (∀ j, j < q → (hj : j < s.size) → plN (s[j]).toNat = true)) (fun i _ => s.size - (intOf i).toNat)
          case atStart => exact ⟨0, by go_num, Nat.zero_le _, rfl, Lib.hid (fun j hj => absurd hj (Nat.not_lt_zero _))⟩
          case round =>
            obtain ⟨q, rfl, hq, rfl, hokq⟩ := hrel
            have hqb : (q : Int) ≤ 140737488355328 := by omega
            by_cases hql : q < s.size
            · have hql' : (q : Int) < (s.size : Int) := by omega
              have hix : ∀ w, (Instr.index 9 (.string s) (.int .i64 (q : Int))).run Tryd.prog w = .ok (.int .u8 (s[q]).toNat) w := fun w => by
                rw [run_index_string _ _ _ _ _ Tryd.underlying9]; simp [hql]
              have PK := Lib.hid (PC.out (s[q]).toNat)
              by_cases hb : plN (s[q]).toNat = true
              · have NX : Hid (∀ j, j < q + 1 → (hj : j < s.size) → plN (s[j]).toNat = true) := Lib.hid (fun j hj hj' => by
                  rcases Nat.lt_or_ge j q with h | h
                  · exact hokq.out j h hj'
                  · obtain rfl : j = q := by omega
                    exact hb)
                rw [hb] at PK
                generalize (s[q]).toNat = n at *
                clear hb hokq hql
                go_wp2_with fail
                refine (PK.out _).mono ?_
                rintro e w' ⟨rfl, rfl⟩
                go_wp2_with fail
                go_roundw
                case rel => exact ⟨q + 1, by go_num, by omega, trivial, NX⟩
                case measure => show s.size - ((q : Int) + 1).toNat < s.size - ((q : Int)).toNat; omega
              · have hb' : plN (s[q]).toNat = false := by simpa using hb
                have HR := Lib.hid (BB.out q hql hb')
                rw [hb'] at PK
                generalize (s[q]).toNat = n at *
                clear hb hb' hokq hql
                go_wp2_with fail
                refine (PK.out _).mono ?_
                rintro e w' ⟨rfl, rfl⟩
                go_wp2_with fail
                go_ret2
                exact ⟨by rw [HR.out]; rfl, Below.refl _ _⟩
            · have hql' : ¬ (q : Int) < (s.size : Int) := by omega
              have NX := Lib.hid (HN2.out (fun j hj => hokq.out j (by omega) hj))
              have STK := STk
              clear hql hokq
              go_wp2_with fail
              go_roundw
              case rel => exact ⟨k + 1, by go_num, by have := STK.out; congr 1; omega, by omega, trivial, NX⟩
              case measure => show l.length - ((k : Int) + 1).toNat < l.length - ((k : Int)).toNat; omega
end Go.Proofs.YtdcnlgjngfmbcaaDoor
