/- The walk of LexBlanks. -/
import Derived.Test.YtdcnlgjngfmbcaaDoorWLexLines
import Derived.Test.YtdcnlgjngfmbcaaDoorBa
import Derived.Test.YtdcnlgjngfmbcaaDoorNs
import Derived.IntWalk
namespace Go.Proofs.YtdcnlgjngfmbcaaDoor
open Go Go.RowKit Go.Shelf
set_option linter.unusedVariables false
set_option linter.unusedSimpArgs false
set_option maxRecDepth 100000
set_option maxHeartbeats 1600000

/-- 'append(s, x, y, ..)': elements of one cell each, in a block that the statement has just made. -/
theorem appendM {P : Program} {ops : Array Oper} {rest : List Oper} {o : Oper} {a : Act} {Q : Exit → Act → World → Prop} {W w0 : World} (hgd : o.guard = none) (s x : Operand) (t : TypeId)
    (ho : o.op = .call { callee := .builtin .append, args := #[s, x], argTypes := #[t, t] })
    (base : Nat) (e : TypeId) (i : TypeInfo) (z : Value) (bytes : Nat) (ht : P.underlying t = some (.slice e)) (hi : P.info? e = some i) (hz : i.zero = some z)
    (hsize : i.size = 1) (hby : i.bytes = bytes) (hzs : z.cells.size = 1)
    (v : Value) (n : Nat) (xs : List Value) (hs : a.eval s = v) (hown : w0.ownsRow base e 1 v n xs)
    (m c : Nat) (cs : List Value) (bx : Nat) (hx : a.eval x = .slice (some ⟨bx, 0, none⟩) m c) (hbx : bx = w0.heap.size) (hcl : cs.length = m) (hu : ∀ u ∈ cs, u.oneCell' = true)
    (h63 : n + m ≤ maxLen) (hbytes : (n + m) * bytes ≤ 140737488355328) (hbase : base ≤ w0.heap.size) (hb : Below base W w0)
    (h : ∀ v' w', w'.ownsRow base e 1 v' (n + m) (xs ++ cs) → Below base W w' → wpList P ops Q rest (a.put o.dst v') w') :
    wpList P ops Q (o :: rest) a (w0.alloc (.cells cs.toArray e)) := by
  subst hbx
  refine wpList_append_own _ hgd s x t ho base e i z 1 bytes ht hi hz hsize hby hzs (by decide) v n xs hs (hown.alloc _) ⟨w0.heap.size, 0, none⟩ m c cs hx (by omega) ?_ hu h63 hbytes (by simp; omega) ?_
  · intro j y hj
    have hp : (⟨w0.heap.size, 0, none⟩ : Addr).add j = ⟨w0.heap.size, j, none⟩ := by unfold Addr.add; split <;> simp_all
    rw [hp]
    exact cell_new1 w0 _ _ j y (by simpa using hj)
  · intro v' w' ho' hg' _
    exact h v' w' ho' (below_own (hb.alloc hbase _) (by simp; omega) (hown.alloc _) hg')
theorem app_strB (a b : List UInt8) : (⟨a.toArray⟩ : ByteArray) ++ ⟨b.toArray⟩ = ⟨(a ++ b).toArray⟩ := by
  apply ByteArray.ext
  simp [ByteArray.data_append]
theorem own_cast {w : World} {B : Nat} {e : TypeId} {v : Value} {n n' : Nat} {xs ys : List Value} (h : w.ownsRow B e 1 v n xs) (hn : n = n') (hx : xs = ys) : w.ownsRow B e 1 v n' ys := by subst hn; subst hx; exact h
theorem bcs_app (a b : List UInt8) : bcs (a ++ b) = bcs a ++ bcs b := by simp [bcs]

theorem blanks_big (s : ByteArray) (hb : 10000 < s.size) (hs : s.size ≤ 140737488351232) (W : World) (E : Env W) :
    Calls Tryd.prog 6 #[.string s] W fun e w' => e = .returned (.bool true) ∧ Below W.heap.size W w' := by
  have WC := Lib.hid (works_c W E)
  have h1 : (10000 : Int) < (s.size : Int) := by omega
  clear E
  go_enter Tryd.func6, Tryd.ntmps6
  go_wp2_with fail
  refine WC.out.mono ?_
  rintro e w1 ⟨rfl, b1⟩
  go_wp2_with fail
  go_ret
  exact ⟨rfl, b1⟩
theorem blanks_small (s : ByteArray) (hb : s.size ≤ 10000) (W : World) (E : Env W) :
    Calls Tryd.prog 6 #[.string s] W fun e w' => e = .returned (.bool true) ∧ Below W.heap.size W w' := by
  obtain ⟨i0, hi, hz0, hz1, hz2⟩ := info_of1 Tryd.infou8
  obtain ⟨l, hl⟩ : ∃ l : List UInt8, l = s.data.toList := ⟨_, rfl⟩
  have hll : l.length = s.size := by rw [hl]; exact Array.length_toList
  have hsl : s = ⟨l.toArray⟩ := by rw [hl]
  have HB := Lib.hid (show l.length ≤ 10000 by omega)
  have LAW := Lib.hid (blanks_law l (by omega))
  have LB := Lib.hid (linesOf_bound l)
  have LN := Lib.hid (linesOf_nos l)
  have WT := Lib.hid (wide_take l)
  have WL := Lib.hid (fun k => wideGo_len (l.take k) none)
  have C1 := Lib.hid (show Calls Tryd.prog 9 #[.string s] W _ from by rw [hsl]; exact lines_any l W E (by omega))
  have C2 := Lib.hid (fun w (h : Env w) => lines_any (wideGo none l) w h (by have := wideGo_len l none; omega))
  have C3 := Lib.hid (fun w (h : Env w) => show Calls Tryd.prog 9 #[.string ((⟨#[10, 35, 32, 120, 10]⟩ : ByteArray) ++ s)] w _ from by
    rw [hsl, show (⟨#[10, 35, 32, 120, 10]⟩ : ByteArray) = ⟨headB.toArray⟩ from rfl, app_strB]; exact lines_any (headB ++ l) w h (by simp; omega))
  have BY : Hid (∀ k (h : k < s.size), l.getD k 0 = s[k]) := Lib.hid (fun k h => by rw [hl]; exact byte_at s k h)
  have HLL := Lib.hid hll
  have EE := Lib.hid E
  have WC := Lib.hid works_c
  have NO := Lib.hid num_of
  have HH1 := LAW.out.1
  have HH2 := LAW.out.2.1
  have HH3 := LAW.out.2.2.1
  have HH4 := LAW.out.2.2.2
  rw [HH1] at C2
  generalize linesOf (headB ++ l) = R3 at *
  generalize linesOf l = R at *
  obtain ⟨L, A, N⟩ := R
  obtain ⟨L3, A3, N3⟩ := R3
  simp only at *
  subst HH2 HH3
  have h1 : ¬ (10000 : Int) < (s.size : Int) := by omega
  clear E hl hll hsl LAW HH1
  have H4 := Lib.hid HH4
  clear HH4
  go_enter Tryd.func6, Tryd.ntmps6
  go_wp2_with fail
  refine C1.out.mono ?_
  rintro e w1 ⟨v1, rfl, rl1, b1⟩
  have B1 := Lib.hid b1
  have RL1 := Lib.hid rl1
  clear b1 rl1 C1 h1
  go_wp2_with fail
  have HS1 := Lib.hid (Nat.le_refl w1.heap.size)
  go_loopw [6, 7] (fun m i wr => ∃ k : Nat, i = .int .i64 k ∧ k ≤ s.size ∧ wr.ownsRow w1.heap.size 5 1 m (wideGo none (l.take k)).length (bcs (wideGo none (l.take k))) ∧ Below w1.heap.size w1 wr) (fun _ i _ => s.size - (intOf i).toNat)
  case atStart => exact ⟨0, by go_num, Nat.zero_le _, World.ownsRow_nil _ _ _ _, Below.refl _ _⟩
  case round =>
    obtain ⟨k, rfl, hk, hown, hbe⟩ := hrel
    have OWN := Lib.hid hown
    have HBE := Lib.hid hbe
    obtain ⟨po, co, rfl⟩ := own_form1 hown
    have hkb : (k : Int) ≤ 10000 := by omega
    by_cases hlt : k < s.size
    · have hlt' : (k : Int) < (s.size : Int) := by omega
      have hix : ∀ w, (Instr.index 9 (.string s) (.int .i64 (k : Int))).run Tryd.prog w = .ok (.int .u8 (s[k]).toNat) w := fun w => by
        rw [run_index_string _ _ _ _ _ Tryd.underlying9]; simp [hlt]
      have STEP := Lib.hid (WT.out k (by rw [HLL.out]; exact hlt))
      rw [BY.out k hlt] at STEP
      have TL := WL.out k
      have hkl : (l.take k).length ≤ 10000 := by have := HB.out; simp; omega
      have TL1 : (wideGo none (l.take k)).length ≤ 70000 := by omega
      have HBD := Lib.hid (show (wideGo none (l.take k)).length + 3 ≤ maxLen ∧ ((wideGo none (l.take k)).length + 3) * 1 ≤ 140737488355328 ∧ (wideGo none (l.take k)).length + 1 ≤ maxLen ∧ ((wideGo none (l.take k)).length + 1) * 1 ≤ 140737488355328 ∧ (wideGo none (l.take k)).length + 6 ≤ maxLen ∧ (wideGo none (l.take k)).length + 6 ≤ 140737488355328 ∧ (wideGo none (l.take k)).length + 6 + 1 ≤ maxLen ∧ ((wideGo none (l.take k)).length + 6 + 1) * 1 ≤ 140737488355328 from by unfold maxLen; omega)
      have HSZ := Lib.hid hbe.size
      generalize hT1 : wideGo none (l.take (k + 1)) = T1 at *
      have HT1 := Lib.hid hT1
      clear hT1
      generalize wideGo none (l.take k) = T0 at *
      obtain ⟨c, hc⟩ : ∃ c, c = s[k] := ⟨_, rfl⟩
      rw [← hc] at STEP hix
      clear hown hbe TL TL1 hkl
      by_cases h32 : c = 32
      · have d32 : ((c.toNat : Int) == 32) = true := by rw [h32]; rfl
        have EQ : Hid (T1 = T0 ++ [9, 32, 32]) := Lib.hid (by rw [STEP.out]; unfold wPiece; rw [if_pos h32])
        generalize c.toNat = n at *
        clear h32 hc STEP hlt
        go_wp2_with (at_builtin; refine appendM (W := w1) rfl _ _ 46 rfl w1.heap.size 5 i0 _ 1 Tryd.underlying46 hi hz0 hz1 hz2 rfl _ _ _ rfl OWN.out 3 _ [.int .u8 9, .int .u8 32, .int .u8 32] _ rfl rfl rfl (by intro u hu; simp at hu; rcases hu with rfl | rfl | rfl <;> rfl) HBD.out.1 HBD.out.2.1 HSZ.out HBE.out ?_; intro m3 w3 hown3 hbe3)
        have OW3 : Hid (w3.ownsRow w1.heap.size 5 1 m3 T1.length (bcs T1)) := Lib.hid (own_cast hown3 (by rw [EQ.out]; simp) (by rw [EQ.out, bcs_app]; rfl))
        have BE3 := Lib.hid hbe3
        clear hown3 hbe3
        go_wp2_with fail
        go_roundw
        case rel => exact ⟨k + 1, by go_num, by omega, by rw [HT1.out]; exact OW3.out, BE3.out⟩
        case measure => show s.size - ((k : Int) + 1).toNat < s.size - ((k : Int)).toNat; omega
      · have d32 : ((c.toNat : Int) == 32) = false := by
          rw [beq_eq_false_iff_ne]
          intro e
          exact h32 (UInt8.toNat_inj.1 (by have : c.toNat = 32 := by omega
                                           rw [this]; rfl))
        by_cases h10 : c = 10
        · have d10 : ((c.toNat : Int) == 10) = true := by rw [h10]; rfl
          by_cases hz : k = 0
          · have dz : ((k : Int) == 0) = true := by rw [hz]; rfl
            have EQ : Hid (T1 = T0 ++ moreB ++ [10]) := Lib.hid (by rw [STEP.out, if_pos hz]; unfold wPiece; rw [if_neg h32, if_pos ⟨h10, by decide⟩]; simp)
            generalize c.toNat = n at *
            clear h32 hc STEP hlt h10 hz
            go_wp2_with (first | (at_builtin; refine Lib.wpList_append_own_string _ rfl _ _ 46 9 rfl _ 5 i0 Tryd.underlying46 Tryd.underlying9 hi hz0 hz1 hz2 _ _ _ rfl OWN.out ⟨#[32, 35, 109, 111, 114, 101]⟩ rfl HBD.out.2.2.2.2.1 HBD.out.2.2.2.2.2.1 HSZ.out ?_; intro m2 w2 hown2 hg2 _; have hbe2 := below_own HBE.out HSZ.out OWN.out hg2) | (at_builtin; refine appendM (W := w1) rfl _ _ 46 rfl w1.heap.size 5 i0 _ 1 Tryd.underlying46 hi hz0 hz1 hz2 rfl _ _ _ rfl hown2 1 _ [.int .u8 10] _ rfl rfl rfl (by intro u hu; simp at hu; subst hu; rfl) HBD.out.2.2.2.2.2.2.1 HBD.out.2.2.2.2.2.2.2 hbe2.size hbe2 ?_; intro m3 w3 hown3 hbe3))
            have OW3 : Hid (w3.ownsRow w1.heap.size 5 1 m3 T1.length (bcs T1)) := Lib.hid (own_cast hown3 (by rw [EQ.out]; simp) (by rw [EQ.out, bcs_app, bcs_app]; rfl))
            have BE3 := Lib.hid hbe3
            clear hown3 hbe3 hown2 hg2 hbe2
            go_wp2_with fail
            go_roundw
            case rel => exact ⟨k + 1, by go_num, by omega, by rw [HT1.out]; exact OW3.out, BE3.out⟩
            case measure => show s.size - ((k : Int) + 1).toNat < s.size - ((k : Int)).toNat; omega
          · have dz : ((k : Int) == 0) = false := by rw [beq_eq_false_iff_ne]; omega
            have hix2 : ∀ w, (Instr.index 9 (.string s) (.int .i64 ((k : Int) - 1))).run Tryd.prog w = .ok (.int .u8 (l.getD (k - 1) 0).toNat) w := fun w => by
              rw [show ((k : Int) - 1) = ((k - 1 : Nat) : Int) by omega, run_index_string _ _ _ _ _ Tryd.underlying9, BY.out (k - 1) (by omega)]
              have : k - 1 < s.size := by omega
              simp [this]
            generalize l.getD (k - 1) 0 = c2 at *
            by_cases h13 : c2 = 13
            · have d13 : ((c2.toNat : Int) != 13) = false := by rw [h13]; rfl
              have EQ : Hid (T1 = T0 ++ [c]) := Lib.hid (by rw [STEP.out, if_neg hz]; unfold wPiece; rw [if_neg h32, if_neg (fun h => h.2 (by rw [h13]))])
              have EC : Hid ([Value.int .u8 (c.toNat : Int)] = bcs [c]) := Lib.hid rfl
              generalize c.toNat = n at *
              generalize c2.toNat = n2 at *
              clear h32 hc STEP hlt h10 hz h13
              go_wp2_with (at_builtin; refine appendM (W := w1) rfl _ _ 46 rfl w1.heap.size 5 i0 _ 1 Tryd.underlying46 hi hz0 hz1 hz2 rfl _ _ _ rfl OWN.out 1 _ [.int .u8 (n : Int)] _ rfl rfl rfl (by intro u hu; simp at hu; subst hu; rfl) HBD.out.2.2.1 HBD.out.2.2.2.1 HSZ.out HBE.out ?_; intro m3 w3 hown3 hbe3)
              have OW3 : Hid (w3.ownsRow w1.heap.size 5 1 m3 T1.length (bcs T1)) := Lib.hid (own_cast hown3 (by rw [EQ.out]; simp) (by rw [EQ.out, bcs_app, EC.out]))
              have BE3 := Lib.hid hbe3
              clear hown3 hbe3
              go_wp2_with fail
              go_roundw
              case rel => exact ⟨k + 1, by go_num, by omega, by rw [HT1.out]; exact OW3.out, BE3.out⟩
              case measure => show s.size - ((k : Int) + 1).toNat < s.size - ((k : Int)).toNat; omega
            · have d13 : ((c2.toNat : Int) != 13) = true := by
                rw [bne_iff_ne]
                intro e
                exact h13 (UInt8.toNat_inj.1 (by have : c2.toNat = 13 := by omega
                                                 rw [this]; rfl))
              have EQ : Hid (T1 = T0 ++ moreB ++ [10]) := Lib.hid (by rw [STEP.out, if_neg hz]; unfold wPiece; rw [if_neg h32, if_pos ⟨h10, fun e => h13 (Option.some.inj e)⟩]; simp)
              generalize c.toNat = n at *
              generalize c2.toNat = n2 at *
              clear h32 hc STEP hlt h10 hz h13
              go_wp2_with (first | (at_builtin; refine Lib.wpList_append_own_string _ rfl _ _ 46 9 rfl _ 5 i0 Tryd.underlying46 Tryd.underlying9 hi hz0 hz1 hz2 _ _ _ rfl OWN.out ⟨#[32, 35, 109, 111, 114, 101]⟩ rfl HBD.out.2.2.2.2.1 HBD.out.2.2.2.2.2.1 HSZ.out ?_; intro m2 w2 hown2 hg2 _; have hbe2 := below_own HBE.out HSZ.out OWN.out hg2) | (at_builtin; refine appendM (W := w1) rfl _ _ 46 rfl w1.heap.size 5 i0 _ 1 Tryd.underlying46 hi hz0 hz1 hz2 rfl _ _ _ rfl hown2 1 _ [.int .u8 10] _ rfl rfl rfl (by intro u hu; simp at hu; subst hu; rfl) HBD.out.2.2.2.2.2.2.1 HBD.out.2.2.2.2.2.2.2 hbe2.size hbe2 ?_; intro m3 w3 hown3 hbe3))
              have OW3 : Hid (w3.ownsRow w1.heap.size 5 1 m3 T1.length (bcs T1)) := Lib.hid (own_cast hown3 (by rw [EQ.out]; simp) (by rw [EQ.out, bcs_app, bcs_app]; rfl))
              have BE3 := Lib.hid hbe3
              clear hown3 hbe3 hown2 hg2 hbe2
              go_wp2_with fail
              go_roundw
              case rel => exact ⟨k + 1, by go_num, by omega, by rw [HT1.out]; exact OW3.out, BE3.out⟩
              case measure => show s.size - ((k : Int) + 1).toNat < s.size - ((k : Int)).toNat; omega
        · have d10 : ((c.toNat : Int) == 10) = false := by
            rw [beq_eq_false_iff_ne]
            intro e
            exact h10 (UInt8.toNat_inj.1 (by have : c.toNat = 10 := by omega
                                             rw [this]; rfl))
          have EQ : Hid (T1 = T0 ++ [c]) := Lib.hid (by rw [STEP.out]; unfold wPiece; rw [if_neg h32, if_neg (fun h => h10 h.1)])
          have EC : Hid ([Value.int .u8 (c.toNat : Int)] = bcs [c]) := Lib.hid rfl
          generalize c.toNat = n at *
          clear h32 hc STEP hlt h10
          go_wp2_with (at_builtin; refine appendM (W := w1) rfl _ _ 46 rfl w1.heap.size 5 i0 _ 1 Tryd.underlying46 hi hz0 hz1 hz2 rfl _ _ _ rfl OWN.out 1 _ [.int .u8 (n : Int)] _ rfl rfl rfl (by intro u hu; simp at hu; subst hu; rfl) HBD.out.2.2.1 HBD.out.2.2.2.1 HSZ.out HBE.out ?_; intro m3 w3 hown3 hbe3)
          have OW3 : Hid (w3.ownsRow w1.heap.size 5 1 m3 T1.length (bcs T1)) := Lib.hid (own_cast hown3 (by rw [EQ.out]; simp) (by rw [EQ.out, bcs_app, EC.out]))
          have BE3 := Lib.hid hbe3
          clear hown3 hbe3
          go_wp2_with fail
          go_roundw
          case rel => exact ⟨k + 1, by go_num, by omega, by rw [HT1.out]; exact OW3.out, BE3.out⟩
          case measure => show s.size - ((k : Int) + 1).toNat < s.size - ((k : Int)).toNat; omega
    · have hlt' : ¬ (k : Int) < (s.size : Int) := by omega
      have hcv : (convert 46 9 (.slice po (wideGo none (l.take k)).length co)).run Tryd.prog wr = .ok (str (wideGo none l)) wr := by
        have h := conv_bytes hown
        rw [h, show l.take k = l from List.take_of_length_le (by rw [HLL.out]; omega)]
      have BX := Lib.hid (B1.out.trans (hbe.mono B1.out.size))
      have RL1 := Lib.hid (RL1.out.below hbe)
      clear hown hbe hlt OWN HBE
      go_wp2_with fail
      refine (C2.out _ (EE.out.below BX.out)).mono ?_
      rintro e w2 ⟨v2, rfl, rl2, b2⟩
      have B2 := Lib.hid (BX.out.trans (b2.mono BX.out.size))
      have RL2 := Lib.hid rl2
      have RL1 := Lib.hid (RL1.out.below b2)
      clear rl2 b2 hcv
      go_wp2_with fail
      refine (C3.out _ (EE.out.below B2.out)).mono ?_
      rintro e w3 ⟨v3, rfl, rl3, b3⟩
      have B3 := Lib.hid (B2.out.trans (b3.mono B2.out.size))
      have r1 := RL1.out.below b3
      have r2 := RL2.out.below b3
      have hw1 := LB.out.1
      obtain ⟨p1, c1, rfl, g1⟩ := r1
      obtain ⟨p2, c2, rfl, g2⟩ := r2
      obtain ⟨p3, c3, rfl, g3⟩ := rl3
      rw [shiftL_len] at g3
      rw [shiftL_len]
      have G1 := Lib.hid g1
      have G2 := Lib.hid g2
      have G3 := Lib.hid (fun i (hi : i < L.length) => by have h := g3 i hi; rw [shiftL_get L i hi] at h; exact h)
      have hLl : (L.length : Int) ≤ 10001 := by have := LB.out.1; have := HB.out; simp only at *; omega
      have hA : (A : Int) ≤ 10001 := by have := LN.out.1; have := HB.out; simp only at *; omega
      have LBW : Hid (∀ i, i < L.length → (L.getD i default).2.length ≤ 281474976710656) := Lib.hid (fun i hi => by have := LB.out.2 i hi; have := HB.out; simp only at *; omega)
      have LNW : Hid (∀ i, i < L.length → (L.getD i default).1 ≤ 10001) := Lib.hid (fun i hi => by have := LN.out.2 i hi; have := HB.out; simp only at *; omega)
      clear g1 g2 g3 b3 RL1 RL2 B2 hw1
      go_wp2_with fail
      refine (NO.out _ _).mono ?_
      rintro e w' ⟨rfl, rfl⟩
      go_wp2_with fail
      refine (NO.out _ _).mono ?_
      rintro e w' ⟨rfl, rfl⟩
      have q1 : (N3 != N3) = false := by simp
      have q2 : ((A : Int) != (A : Int)) = false := by simp
      have q3 : ((L.length : Int) != (L.length : Int)) = false := by simp
      go_wp2_with fail
      refine (NO.out _ _).mono ?_
      rintro e w' ⟨rfl, rfl⟩
      go_wp2_with fail
      refine (NO.out _ _).mono ?_
      rintro e w' ⟨rfl, rfl⟩
      have A4 : Hid (A ≠ 0 → A3 = A + 2) := H4
      by_cases hA0 : A = 0
      · have q4 : decide (0 < A) = false := decide_eq_false (by omega)
        clear hA0
        go_wp2_with fail
        clear q1 q2 q3 q4 
        go_loopw [14] (fun i wr => ∃ k nq : Nat, k ≤ L.length ∧ i = .int .i64 k ∧ wr = w3.drewN nq) (fun i _ => L.length - (intOf i).toNat)
        case atStart => exact ⟨0, 0, Nat.zero_le _, by go_num, rfl⟩
        case round =>
          obtain ⟨k, nq, hk, rfl, rfl⟩ := hrel
          have hkb : (k : Int) ≤ 10001 := by omega
          by_cases hlt : k < L.length
          · obtain ⟨b, o, u1, rfl, _, a1, a2, a3⟩ := G1.out k hlt
            obtain ⟨b', o', u2, rfl, _, d1, d2, d3⟩ := G2.out k hlt
            obtain ⟨b'', o'', u3, rfl, _, f1, f2, f3⟩ := G3.out k hlt
            (try simp only at f1 f3)
            have hkn : (k : Int) < (L.length : Int) := by omega
            have TX1 := Lib.hid (fun a => (texts_s _ u1 u2 (w3.drewN (nq + a)) (a3.below (below_dr _ _)) (d3.below (below_dr _ _)) (LBW.out k hlt)).mono (fun e w'' (h : e = .returned (.bool true) ∧ ∃ m, w'' = (w3.drewN (nq + a)).drewN m) => (⟨h.1, by
              obtain ⟨m, hm⟩ := h.2
              exact ⟨a + m, by rw [hm, World.drewN_drewN, Nat.add_assoc]⟩⟩ : e = .returned (.bool true) ∧ ∃ n, w'' = w3.drewN (nq + n))))
            have TX2 := Lib.hid (fun a => (texts_s _ u1 u3 (w3.drewN (nq + a)) (a3.below (below_dr _ _)) (f3.below (below_dr _ _)) (LBW.out k hlt)).mono (fun e w'' (h : e = .returned (.bool true) ∧ ∃ m, w'' = (w3.drewN (nq + a)).drewN m) => (⟨h.1, by
              obtain ⟨m, hm⟩ := h.2
              exact ⟨a + m, by rw [hm, World.drewN_drewN, Nat.add_assoc]⟩⟩ : e = .returned (.bool true) ∧ ∃ n, w'' = w3.drewN (nq + n))))
            obtain ⟨x1, y1, rfl, _⟩ := RS.out a3
            obtain ⟨x2, y2, rfl, _⟩ := RS.out d3
            obtain ⟨x3, y3, rfl, _⟩ := RS.out f3
            have hno := LNW.out k hlt
            obtain ⟨m, hm⟩ : ∃ m : Nat, m = (L.getD k default).1 + 2 := ⟨_, rfl⟩
            rw [← hm] at f1
            generalize (L.getD k default).2 = ws at *
            generalize (L.getD k default).1 = no at *
            have hnoi : (no : Int) ≤ 10001 := by omega
            have e1 : ((no : Int) != (no : Int)) = false := by simp
            have e2 : ((no : Int) + 2 != (m : Int)) = false := by rw [bne_eq_false_iff_eq, hm]; omega
            have e3 : IntKind.i64.wrap ((no : Int) + 2) = (no : Int) + 2 := IntWalk.i64_in _ (by omega)
            have HM := Lib.hid hm
            clear a3 d3 f3 hlt hno hm
            go_wp2_with fail
            go_quiet ((go_at_call 19; (first | with_reducible exact TX1.out _ | with_reducible exact TX2.out _)))
            go_wp2_with fail
            go_roundw
            case rel => exact ⟨k + 1, _, by omega, by go_num, rfl⟩
            case measure => show L.length - ((k : Int) + 1).toNat < L.length - ((k : Int)).toNat; omega
          · obtain rfl : k = L.length := by omega
            have B3 : Hid (Below W.heap.size W (w3.drewN nq)) := Lib.hid (B3.out.trans ((below_dr w3 nq).mono B3.out.size))
            clear hlt
            go_wp2_with fail
            refine (WC.out _ (EE.out.below B3.out)).mono ?_
            rintro e w4 ⟨rfl, b4⟩
            have B4 := Lib.hid (B3.out.trans (b4.mono B3.out.size))
            clear b4
            go_wp2_with fail
            go_ret
            exact ⟨rfl, B4.out⟩
      · have q4 : decide (0 < A) = true := decide_eq_true (by omega)
        have q5 : ((A3 : Int) != (A : Int) + 2) = false := by rw [bne_eq_false_iff_eq, A4.out hA0]; omega
        clear hA0
        go_wp2_with fail
        clear q1 q2 q3 q4 q5
        go_loopw [14] (fun i wr => ∃ k nq : Nat, k ≤ L.length ∧ i = .int .i64 k ∧ wr = w3.drewN nq) (fun i _ => L.length - (intOf i).toNat)
        case atStart => exact ⟨0, 0, Nat.zero_le _, by go_num, rfl⟩
        case round =>
          obtain ⟨k, nq, hk, rfl, rfl⟩ := hrel
          have hkb : (k : Int) ≤ 10001 := by omega
          by_cases hlt : k < L.length
          · obtain ⟨b, o, u1, rfl, _, a1, a2, a3⟩ := G1.out k hlt
            obtain ⟨b', o', u2, rfl, _, d1, d2, d3⟩ := G2.out k hlt
            obtain ⟨b'', o'', u3, rfl, _, f1, f2, f3⟩ := G3.out k hlt
            (try simp only at f1 f3)
            have hkn : (k : Int) < (L.length : Int) := by omega
            have TX1 := Lib.hid (fun a => (texts_s _ u1 u2 (w3.drewN (nq + a)) (a3.below (below_dr _ _)) (d3.below (below_dr _ _)) (LBW.out k hlt)).mono (fun e w'' (h : e = .returned (.bool true) ∧ ∃ m, w'' = (w3.drewN (nq + a)).drewN m) => (⟨h.1, by
              obtain ⟨m, hm⟩ := h.2
              exact ⟨a + m, by rw [hm, World.drewN_drewN, Nat.add_assoc]⟩⟩ : e = .returned (.bool true) ∧ ∃ n, w'' = w3.drewN (nq + n))))
            have TX2 := Lib.hid (fun a => (texts_s _ u1 u3 (w3.drewN (nq + a)) (a3.below (below_dr _ _)) (f3.below (below_dr _ _)) (LBW.out k hlt)).mono (fun e w'' (h : e = .returned (.bool true) ∧ ∃ m, w'' = (w3.drewN (nq + a)).drewN m) => (⟨h.1, by
              obtain ⟨m, hm⟩ := h.2
              exact ⟨a + m, by rw [hm, World.drewN_drewN, Nat.add_assoc]⟩⟩ : e = .returned (.bool true) ∧ ∃ n, w'' = w3.drewN (nq + n))))
            obtain ⟨x1, y1, rfl, _⟩ := RS.out a3
            obtain ⟨x2, y2, rfl, _⟩ := RS.out d3
            obtain ⟨x3, y3, rfl, _⟩ := RS.out f3
            have hno := LNW.out k hlt
            obtain ⟨m, hm⟩ : ∃ m : Nat, m = (L.getD k default).1 + 2 := ⟨_, rfl⟩
            rw [← hm] at f1
            generalize (L.getD k default).2 = ws at *
            generalize (L.getD k default).1 = no at *
            have hnoi : (no : Int) ≤ 10001 := by omega
            have e1 : ((no : Int) != (no : Int)) = false := by simp
            have e2 : ((no : Int) + 2 != (m : Int)) = false := by rw [bne_eq_false_iff_eq, hm]; omega
            have e3 : IntKind.i64.wrap ((no : Int) + 2) = (no : Int) + 2 := IntWalk.i64_in _ (by omega)
            have HM := Lib.hid hm
            clear a3 d3 f3 hlt hno hm
            go_wp2_with fail
            go_quiet ((go_at_call 19; (first | with_reducible exact TX1.out _ | with_reducible exact TX2.out _)))
            go_wp2_with fail
            go_roundw
            case rel => exact ⟨k + 1, _, by omega, by go_num, rfl⟩
            case measure => show L.length - ((k : Int) + 1).toNat < L.length - ((k : Int)).toNat; omega
          · obtain rfl : k = L.length := by omega
            have B3 : Hid (Below W.heap.size W (w3.drewN nq)) := Lib.hid (B3.out.trans ((below_dr w3 nq).mono B3.out.size))
            clear hlt
            go_wp2_with fail
            refine (WC.out _ (EE.out.below B3.out)).mono ?_
            rintro e w4 ⟨rfl, b4⟩
            have B4 := Lib.hid (B3.out.trans (b4.mono B3.out.size))
            clear b4
            go_wp2_with fail
            go_ret
            exact ⟨rfl, B4.out⟩
theorem lexBlanks_walk (s : ByteArray) (hs : s.size ≤ 140737488351232) (W : World) (E : Env W) :
    Calls Tryd.prog 6 #[.string s] W fun e w' => e = .returned (.bool true) ∧ Below W.heap.size W w' := by
  by_cases h : 10000 < s.size
  · exact blanks_big s h hs W E
  · exact blanks_small s (by omega) W E
end Go.Proofs.YtdcnlgjngfmbcaaDoor
