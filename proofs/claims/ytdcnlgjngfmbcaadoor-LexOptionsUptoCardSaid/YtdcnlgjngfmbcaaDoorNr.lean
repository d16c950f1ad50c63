/- titheref24.Options at all slices of strings. -/
import Derived.Test.YtdcnlgjngfmbcaaDoorNp
namespace Go.Proofs.YtdcnlgjngfmbcaaDoor
open Go Go.RowKit Go.Shelf
set_option linter.unusedVariables false
set_option linter.unusedSimpArgs false
set_option maxRecDepth 100000
set_option maxHeartbeats 1600000

theorem chkO_step {keys met l : List (List UInt8)} {i : Nat} (h : i + 1 < l.length) : chkO keys (l.drop i) met = (fndN keys (l.getD i []) keys.length && !met.any (· == l.getD i []) && chkO keys (l.drop (i + 2)) (met ++ [l.getD i []])) := by
  rw [opt_drop h]; rfl
theorem chkO_end {keys met l : List (List UInt8)} {i : Nat} (h : l.length ≤ i + 1) : chkO keys (l.drop i) met = true := by
  have : (l.drop i).length ≤ 1 := by simp; omega
  match hd : l.drop i with
  | [] => rfl
  | [a] => rfl
  | a :: b :: r => rw [hd] at this; simp at this
theorem lastV_step {l : List (List UInt8)} {key v : List UInt8} {i : Nat} (h : i + 1 < l.length) : lastV key (l.drop i) v = lastV key (l.drop (i + 2)) (if l.getD i [] == key then l.getD (i + 1) [] else v) := by
  rw [opt_drop h]; rfl
theorem lastV_end {l : List (List UInt8)} {key v : List UInt8} {i : Nat} (h : l.length ≤ i + 1) : lastV key (l.drop i) v = v := by
  have : (l.drop i).length ≤ 1 := by simp; omega
  match hd : l.drop i with
  | [] => rfl
  | [a] => rfl
  | a :: b :: r => rw [hd] at this; simp at this
theorem roptions_any (l keys : List (List UInt8)) (v kv : Value) (W : World) (h : RS W v l) (hk : RS W kv keys) (hl : l.length * 16 ≤ 140737488351232) (hkl : keys.length * 16 ≤ 140737488351232) :
    Calls Tryd.prog 18 #[v, kv] W fun e w' => ∃ u, e = .returned (.tuple #[u, .int .i64 (optS l keys).2]) ∧ RS w' u (optS l keys).1 ∧ Below W.heap.size W w' := by
  obtain ⟨i0, hi, hz0, hz1, hz2⟩ := info_of1 Tryd.infoStr
  have HSA := Lib.hid (fun (v : Value) (m : List (List UInt8)) (a : List UInt8) (w : World) (h : RS w v m) (hm : m.length ≤ 281474976710656) => has_c m a v w h hm)
  have HK := Lib.hid hk
  obtain ⟨p, c, rfl, hr⟩ := RS.out h
  obtain ⟨kp, kc, rfl, hkr⟩ := RS.out hk
  have HL := Lib.hid hr
  have HKR := Lib.hid hkr
  clear h hk hr hkr
  have hll : (l.length : Int) ≤ 8796093021952 := by omega
  have hkk : (keys.length : Int) ≤ 8796093021952 := by omega
  have HLB := Lib.hid hl
  have HKB := Lib.hid hkl
  clear hl hkl
  have HE := Lib.hid (optS_chk l keys)
  by_cases hodd : l.length % 2 = 1
  · have HR : Hid (optS l keys = ([], 240)) := Lib.hid (by rw [HE.out, if_pos hodd])
    have e1 : ((l.length : Int) % 2 == 1) = true := by rw [beq_iff_eq]; omega
    clear hodd
    go_enter Tryd.func18, Tryd.ntmps18
    go_wp2_with fail
    go_ret2
    exact ⟨_, by rw [HR.out]; rfl, by rw [HR.out]; exact RS_nil _, Below.refl _ _⟩
  · have e1 : ((l.length : Int) % 2 == 1) = false := by rw [beq_eq_false_iff_ne]; omega
    have HEE : Hid (optS l keys = if chkO keys (l.drop (2 * 0)) [] then ((List.range keys.length).map fun k => lastV (keys.getD k []) l [], 0) else ([], 240)) := Lib.hid (by rw [HE.out, if_neg hodd]; simp only [Nat.mul_zero, List.drop_zero])
    have EV := Lib.hid hodd
    clear hodd HE
    generalize optS l keys = R at *
    obtain ⟨C0, hC0⟩ : ∃ C0, C0 = chkO keys (l.drop (2 * 0)) [] := ⟨_, rfl⟩
    rw [← hC0] at HEE
    have HC0 := Lib.hid hC0
    clear hC0
    go_enter Tryd.func18, Tryd.ntmps18
    go_wp2_with fail
    go_loopw [6, 7] (fun m i wr => ∃ (n : Nat) (met : List (List UInt8)), i = .int .i64 (2 * n : Nat) ∧ 2 * n ≤ l.length ∧ met.length = n ∧ wr.ownsRow W.heap.size 9 1 m met.length (met.map str) ∧ Below W.heap.size W wr ∧ Hid (C0 = chkO keys (l.drop (2 * n)) met)) (fun _ i _ => l.length - (intOf i).toNat)
    case atStart => exact ⟨0, [], rfl, Nat.zero_le _, rfl, World.ownsRow_nil _ _ _ _, Below.refl _ _, HC0⟩
    case round =>
      obtain ⟨n, met, rfl, hn, hmn, hown, hbe, hr⟩ := hrel
      have hnb : ((2 * n : Nat) : Int) ≤ 8796093021952 := by omega
      have OWN := Lib.hid hown
      have HBE := Lib.hid hbe
      have HML := Lib.hid hmn
      obtain ⟨pm, cm, rfl⟩ := own_form1 hown
      have RSM := Lib.hid (RS_own hown).1
      clear hown hbe hmn
      by_cases hlt : 2 * n < l.length
      rotate_left
      · have hlt' : ¬ ((2 * n : Nat) : Int) < (l.length : Int) := by omega
        have HX : Hid (R = ((List.range keys.length).map (fun k => lastV (keys.getD k []) l []), 0)) := Lib.hid (by rw [HEE.out, hr.out, chkO_end (by omega), if_pos rfl])
        clear hlt
        go_wp2_with fail
        go_loopw [8, 9] (fun m i wy => ∃ (k : Nat) (outs : List (List UInt8)), i = .int .i64 k ∧ k ≤ keys.length ∧ Hid (outs = (List.range k).map (fun k => lastV (keys.getD k []) l [])) ∧ wy.ownsRow W.heap.size 9 1 m outs.length (outs.map str) ∧ Below W.heap.size W wy) (fun _ i _ => keys.length - (intOf i).toNat)
        case atStart => exact ⟨0, [], by go_num, Nat.zero_le _, Lib.hid rfl, World.ownsRow_nil _ _ _ _, HBE.out⟩
        case round =>
          obtain ⟨k, outs, rfl, hk, hou, hown, hbe⟩ := hrel
          have OWN2 := Lib.hid hown
          have HBE2 := Lib.hid hbe
          obtain ⟨po, co, rfl⟩ := own_form1 hown
          clear hown hbe
          have hkb : (k : Int) ≤ 8796093021952 := by omega
          by_cases hkl : k < keys.length
          rotate_left
          · have hk' : ¬ (k : Int) < (keys.length : Int) := by omega
            obtain rfl : k = keys.length := by omega
            clear hkl
            go_wp2_with fail
            go_ret2
            exact ⟨_, by rw [HX.out]; rfl, by rw [HX.out]; have := (RS_own OWN2.out).1; rwa [hou.out] at this ⊢, HBE2.out⟩
          · have hk' : (k : Int) < (keys.length : Int) := by omega
            obtain ⟨bk, ok, rfl, hbk, _⟩ := HKR.out k hkl
            have GK : Hid (∀ wx, Below W.heap.size W wx → wx.cell? ⟨bk, ok + k, none⟩ = some (str (keys.getD k []))) := Lib.hid (fun wx h => by
              obtain ⟨_, _, hp, _, g⟩ := HKR.out k hkl
              cases hp
              exact (h.cell (p := ⟨bk, ok + k, none⟩) hbk).trans g)
            have NXO : Hid (∀ val, lastV (keys.getD k []) l [] = val → outs ++ [val] = (List.range (k + 1)).map (fun k => lastV (keys.getD k []) l [])) := Lib.hid (fun val h => by rw [hou.out, List.range_succ, List.map_append, ← h]; rfl)
            have HLV : Hid (lastV (keys.getD k []) l [] = lastV (keys.getD k []) (l.drop (2 * 0)) []) := Lib.hid (by simp)
            generalize keys.getD k [] = key at *
            generalize lastV key l [] = LV at *
            have OUL : Hid (outs.length = k) := Lib.hid (by rw [hou.out]; simp)
            have MB : Hid (outs.length + 1 ≤ maxLen ∧ (outs.length + 1) * 16 ≤ 140737488355328) := Lib.hid (by have := OUL.out; have := HKB.out; exact ⟨by unfold maxLen; omega, by omega⟩)
            clear hkl
            obtain ⟨wo, rfl⟩ : ∃ wo : World, wo = wr := ⟨_, rfl⟩
            go_wp2_with fail
            go_loopw [10, 11] (fun vv i wz => ∃ (q nq : Nat) (val : List UInt8), vv = str val ∧ i = .int .i64 (2 * q : Nat) ∧ 2 * q ≤ l.length ∧ wz = wo.drewN nq ∧ Hid (LV = lastV key (l.drop (2 * q)) val)) (fun _ i _ => l.length - (intOf i).toNat)
            case atStart => exact ⟨0, 0, [], rfl, rfl, Nat.zero_le _, rfl, HLV⟩
            case round =>
              obtain ⟨q, nq, val, rfl, rfl, hq, rfl, hlv⟩ := hrel
              have hqb : ((2 * q : Nat) : Int) ≤ 8796093021952 := by omega
              by_cases hlq : 2 * q < l.length
              · have hlq' : ((2 * q : Nat) : Int) < (l.length : Int) := by omega
                have hlq2 : 2 * q + 1 < l.length := by have := EV.out; omega
                have hlq3 : ((2 * q : Nat) : Int) + 1 < (l.length : Int) := by omega
                obtain ⟨bl, ol, rfl, hbl, _⟩ := HL.out (2 * q) hlq
                have ga : wo.cell? ⟨bl, ol + 2 * q, none⟩ = some (str (l.getD (2 * q) [])) := by
                  obtain ⟨_, _, hp, _, g⟩ := HL.out (2 * q) hlq
                  cases hp
                  exact (HBE2.out.cell (p := ⟨bl, ol + 2 * q, none⟩) hbl).trans g
                have gb : wo.cell? ⟨bl, ol + (2 * q + 1), none⟩ = some (str (l.getD (2 * q + 1) [])) := by
                  obtain ⟨_, _, hp, _, g⟩ := HL.out (2 * q + 1) hlq2
                  cases hp
                  exact (HBE2.out.cell (p := ⟨bl, ol + (2 * q + 1), none⟩) hbl).trans g
                have gk := GK.out wo HBE2.out
                have LS : Hid (LV = lastV key (l.drop (2 * (q + 1))) (if l.getD (2 * q) [] == key then l.getD (2 * q + 1) [] else val)) := Lib.hid (by rw [hlv.out, lastV_step hlq2]; rfl)
                generalize l.getD (2 * q) [] = a at *
                generalize l.getD (2 * q + 1) [] = b at *
                clear hlq
                by_cases he : a = key
                · subst he
                  have LX : Hid (LV = lastV a (l.drop (2 * (q + 1))) b) := Lib.hid (by rw [LS.out, if_pos (by simp)])
                  go_wp2_with fail
                  go_quiet (fail)
                  go_wp2_with fail
                  go_roundw
                  case rel => exact ⟨q + 1, _, b, rfl, by go_num, by omega, rfl, LX⟩
                  case measure => show l.length - ((2 * (q : Int)) + 2).toNat < l.length - ((2 * (q : Int))).toNat; omega
                · have LX : Hid (LV = lastV key (l.drop (2 * (q + 1))) val) := Lib.hid (by rw [LS.out, if_neg (by simpa using he)])
                  have hxa : (a == key) = false := by rw [beq_eq_false_iff_ne]; exact he
                  clear he
                  go_wp2_with fail
                  go_quiet (fail)
                  go_wp2_with fail
                  go_roundw
                  case rel => exact ⟨q + 1, _, val, rfl, by go_num, by omega, rfl, LX⟩
                  case measure => show l.length - ((2 * (q : Int)) + 2).toNat < l.length - ((2 * (q : Int))).toNat; omega
              · have hlq' : ¬ ((2 * q : Nat) : Int) < (l.length : Int) := by omega
                have NX2 := Lib.hid (NXO.out val (hlv.out.trans (lastV_end (by omega))))
                have OWN3 : Hid ((wo.drewN nq).ownsRow W.heap.size 9 1 (.slice po outs.length co) outs.length (outs.map str)) := Lib.hid (own_drewN1 OWN2.out nq)
                have HBE3 : Hid (Below W.heap.size W (wo.drewN nq)) := Lib.hid (HBE2.out.trans ((below_dr wo nq).mono HBE2.out.size))
                have HSZ := Lib.hid HBE3.out.size
                clear hlq
                go_wp2_with (at_builtin; refine appendN2 (W := W) rfl _ _ 34 rfl W.heap.size 9 i0 _ 1 16 Tryd.underlying34 hi hz0 hz1 hz2 rfl (by decide) _ _ _ rfl OWN3.out _ [str val] _ rfl rfl rfl (by intro u hu; simp at hu; subst hu; rfl) MB.out.1 MB.out.2 HSZ.out HBE3.out ?_; intro m' w3 hown3 hbe3 hgr)
                go_roundw
                case rel => exact ⟨k + 1, outs ++ [val], by go_num, by omega, NX2, by rw [List.length_append, List.map_append]; exact hown3, hbe3⟩
                case measure => show keys.length - ((k : Int) + 1).toNat < keys.length - ((k : Int)).toNat; omega
      · have hlt' : ((2 * n : Nat) : Int) < (l.length : Int) := by omega
        have hlt2 : 2 * n + 1 < l.length := by have := EV.out; omega
        obtain ⟨bl, ol, rfl, hbl, _⟩ := HL.out (2 * n) hlt
        have GA : Hid (∀ wx, Below W.heap.size W wx → wx.cell? ⟨bl, ol + 2 * n, none⟩ = some (str (l.getD (2 * n) []))) := Lib.hid (fun wx h => by
          obtain ⟨_, _, hp, _, g⟩ := HL.out (2 * n) hlt
          cases hp
          exact (h.cell (p := ⟨bl, ol + 2 * n, none⟩) hbl).trans g)
        have ST : Hid (C0 = (fndN keys (l.getD (2 * n) []) keys.length && !met.any (· == l.getD (2 * n) []) && chkO keys (l.drop (2 * (n + 1))) (met ++ [l.getD (2 * n) []]))) := Lib.hid (by rw [hr.out, chkO_step hlt2]; rfl)
        generalize l.getD (2 * n) [] = a at *
        have H1 := Lib.hid (fun w (h : RS w (.slice kp keys.length kc) keys) => HSA.out _ keys a w h (by have := HKB.out; omega))
        have H2 := Lib.hid (fun w (h : RS w (.slice pm met.length cm) met) => HSA.out _ met a w h (by have := HLB.out; have := HML.out; omega))
        have FA := Lib.hid (fndN_any keys a)
        have hml : met.length * 32 ≤ 140737488351232 := by have := HML.out; have := HLB.out; omega
        have MB := Lib.hid (show met.length + 1 ≤ maxLen ∧ (met.length + 1) * 16 ≤ 140737488355328 from ⟨by unfold maxLen; omega, by omega⟩)
        have g0 := GA.out wr HBE.out
        have BSZ := Lib.hid HBE.out.size
        clear hlt hml
        go_wp2_with fail
        refine (H1.out _ (HK.out.below HBE.out)).mono ?_
        rintro e w' ⟨rfl, rfl⟩
        rw [← FA.out]
        cases hf : fndN keys a keys.length with
        | false =>
          have HX : Hid (R = ([], 240)) := Lib.hid (by rw [HEE.out, ST.out, hf]; rfl)
          clear hf
          go_wp2_with fail
          go_ret2
          exact ⟨_, by rw [HX.out]; rfl, by rw [HX.out]; exact RS_nil _, HBE.out⟩
        | true =>
          have HF := Lib.hid hf
          clear hf
          go_wp2_with fail
          refine (H2.out _ RSM.out).mono ?_
          rintro e w' ⟨rfl, rfl⟩
          cases hm : met.any (· == a) with
          | true =>
            have HX : Hid (R = ([], 240)) := Lib.hid (by rw [HEE.out, ST.out, hm, HF.out]; rfl)
            clear hm
            go_wp2_with fail
            go_ret2
            exact ⟨_, by rw [HX.out]; rfl, by rw [HX.out]; exact RS_nil _, HBE.out⟩
          | false =>
            have NX : Hid (C0 = chkO keys (l.drop (2 * (n + 1))) (met ++ [a])) := Lib.hid (by rw [ST.out, hm, HF.out]; rfl)
            clear hm
            go_wp2_with (at_builtin; refine appendN2 (W := W) rfl _ _ 34 rfl W.heap.size 9 i0 _ 1 16 Tryd.underlying34 hi hz0 hz1 hz2 rfl (by decide) _ _ _ rfl OWN.out _ [str a] _ rfl rfl rfl (by intro u hu; simp at hu; subst hu; rfl) MB.out.1 MB.out.2 BSZ.out HBE.out ?_; intro m' w3 hown3 hbe3 hgr)
            go_roundw
            case rel => exact ⟨n + 1, met ++ [a], by go_num, by omega, by rw [List.length_append, HML.out]; rfl, by rw [List.length_append, List.map_append]; exact hown3, hbe3, NX⟩
            case measure => show l.length - ((2 * (n : Int)) + 2).toNat < l.length - ((2 * (n : Int))).toNat; omega
end Go.Proofs.YtdcnlgjngfmbcaaDoor
