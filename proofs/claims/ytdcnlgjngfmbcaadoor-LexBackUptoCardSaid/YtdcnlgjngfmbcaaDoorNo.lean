/- lex.Options at all slices of strings. -/
import Derived.Test.YtdcnlgjngfmbcaaDoorNb
import Derived.Deep.OwnRows
import Derived.WalkMore
namespace Go.Proofs.YtdcnlgjngfmbcaaDoor
open Go Go.RowKit Go.Shelf
set_option linter.unusedVariables false
set_option linter.unusedSimpArgs false
set_option maxRecDepth 100000
set_option maxHeartbeats 1600000

/-- Is a text one of the first n keys? -/
def fndN (keys : List (List UInt8)) (a : List UInt8) : Nat → Bool
  | 0 => false
  | n + 1 => fndN keys a n || keys.getD n [] == a
/-- The values, a pair's value laid at each of the first n keys that is its key. -/
def updN (keys outs : List (List UInt8)) (a b : List UInt8) : Nat → List (List UInt8)
  | 0 => outs
  | n + 1 => if keys.getD n [] == a then (updN keys outs a b n).set n b else updN keys outs a b n
theorem updN_len (keys outs : List (List UInt8)) (a b : List UInt8) : ∀ n, (updN keys outs a b n).length = outs.length
  | 0 => rfl
  | n + 1 => by
    unfold updN
    split
    · rw [List.length_set]; exact updN_len keys outs a b n
    · exact updN_len keys outs a b n
def optGo (keys : List (List UInt8)) : List (List UInt8) → List (List UInt8) → List (List UInt8) → Option (List (List UInt8))
  | a :: b :: r, met, outs => if met.any (· == a) then none else if fndN keys a keys.length then optGo keys r (met ++ [a]) (updN keys outs a b keys.length) else none
  | _, _, outs => some outs
def optS (l keys : List (List UInt8)) : List (List UInt8) × Int :=
  if l.length % 2 = 1 then ([], 240) else match optGo keys l [] (List.replicate keys.length []) with
    | none => ([], 240)
    | some o => (o, 0)
theorem opt_drop {l : List (List UInt8)} {i : Nat} (h : i + 1 < l.length) : l.drop i = l.getD i [] :: l.getD (i + 1) [] :: l.drop (i + 2) := by
  rw [List.drop_eq_getElem_cons (by omega), List.drop_eq_getElem_cons (by omega), List.getD, List.getD, List.getElem?_eq_getElem (by omega), List.getElem?_eq_getElem h]
  rfl
theorem opt_end {keys met outs l : List (List UInt8)} {i : Nat} (h : l.length ≤ i + 1) : optGo keys (l.drop i) met outs = some outs := by
  have : (l.drop i).length ≤ 1 := by simp; omega
  match hd : l.drop i with
  | [] => rfl
  | [a] => rfl
  | a :: b :: r => rw [hd] at this; simp at this
theorem any_false {met : List (List UInt8)} {a : List UInt8} (h : ∀ j, j < met.length → met.getD j [] ≠ a) : met.any (· == a) = false := by
  rw [Bool.eq_false_iff]
  intro e
  rw [List.any_eq_true] at e
  obtain ⟨x, hx, e⟩ := e
  obtain ⟨k, hk, rfl⟩ := List.getElem_of_mem hx
  have := h k hk
  rw [List.getD, List.getElem?_eq_getElem hk] at this
  exact this (by simpa using e)
theorem any_true {met : List (List UInt8)} {a : List UInt8} {j : Nat} (hj : j < met.length) (h : met.getD j [] = a) : met.any (· == a) = true := by
  rw [List.any_eq_true]
  refine ⟨met[j], List.getElem_mem hj, ?_⟩
  rw [List.getD, List.getElem?_eq_getElem hj] at h
  simpa using h
/-- Cells of strings in a block of their own. -/
def CellsAt (w : World) (B : Nat) (o : List (List UInt8)) : Prop := w.heap[B]? = some (.cells (o.map str).toArray 9)
theorem CellsAt.lt {w : World} {B : Nat} {o : List (List UInt8)} (h : CellsAt w B o) : B < w.heap.size := (Array.getElem?_eq_some_iff.1 h).1
theorem CellsAt.cell {w : World} {B : Nat} {o : List (List UInt8)} (h : CellsAt w B o) {k : Nat} (hk : k < o.length) : w.cell? ⟨B, k, none⟩ = some (str (o.getD k [])) := by
  unfold CellsAt at h
  simp only [World.cell?, h]
  simp [List.getD, hk]
theorem CellsAt.frozen {w : World} {B : Nat} {o : List (List UInt8)} (h : CellsAt w B o) (k : Nat) : w.frozen? ⟨B, k, none⟩ = false := by
  unfold CellsAt at h
  simp [World.frozen?, h]
theorem CellsAt.set {w : World} {B : Nat} {o : List (List UInt8)} (h : CellsAt w B o) {k : Nat} (b : List UInt8) : CellsAt (w.setCell ⟨B, k, none⟩ (str b)) B (o.set k b) := by
  unfold CellsAt at h ⊢
  simp [World.setCell, Array.getElem?_modify, h, List.map_set]
theorem CellsAt.rs {w : World} {B : Nat} {o : List (List UInt8)} (h : CellsAt w B o) : RS w (.slice (some ⟨B, 0, none⟩) o.length o.length) o := by
  by_cases ho : o = []
  · subst ho; exact .inl ⟨rfl, _, 0, rfl, fun h => by cases h⟩
  · refine .inr ⟨B, 0, o.length, by simp, by simp, h.lt, fun i hi => ?_⟩
    have hi' : i < o.length := by simpa using hi
    have := h.cell hi'
    rw [Nat.zero_add, this]
    simp [List.getD, hi']
theorem made_str (n : Nat) : madeCells #[.string ⟨#[]⟩] n = ((List.replicate n ([] : List UInt8)).map str).toArray := by
  apply Array.ext
  · simp [madeCells]
  · intro i h1 h2
    simp [madeCells, str, Nat.mod_one]
theorem own_set {w : World} {base B k : Nat} {e : TypeId} {v u : Value} {n : Nat} {xs : List Value} (h : w.ownsRow base e 1 u n xs) (hB : B < base) : (w.setCell ⟨B, k, none⟩ v).ownsRow base e 1 u n xs := by
  obtain ⟨h1, h2⟩ := h
  refine ⟨h1, ?_⟩
  rcases h2 with h | ⟨g, cap, cur, rfl, hg, hh, r⟩
  · exact .inl h
  · refine .inr ⟨g, cap, cur, rfl, hg, ?_, r⟩
    have hne : B ≠ g := by omega
    simp only [World.setCell, Array.getElem?_modify, hne, if_false]
    exact hh
theorem options_any (l keys : List (List UInt8)) (v kv : Value) (W : World) (h : RS W v l) (hk : RS W kv keys) (hl : l.length * 16 ≤ 140737488351232) (hkl : keys.length * 16 ≤ 140737488351232) :
    Calls Tryd.prog 17 #[v, kv] W fun e w' => ∃ u, e = .returned (.tuple #[u, errOf (optS l keys).2]) ∧ RS w' u (optS l keys).1 ∧ Below W.heap.size W w' := by
  obtain ⟨i0, hi, hz0, hz1, hz2⟩ := info_of1 Tryd.infoStr
  have HV := Lib.hid h
  have HK := Lib.hid hk
  obtain ⟨p, c, rfl, hr⟩ := RS.out h
  obtain ⟨kp, kc, rfl, hkr⟩ := RS.out hk
  have HL := Lib.hid hr
  have HKR := Lib.hid hkr
  clear h hk hr hkr
  have hll : (l.length : Int) ≤ 8796093021952 := by omega
  have hkk : (keys.length : Int) ≤ 8796093021952 := by omega
  have HLB := Lib.hid hl
  have HKB := Lib.hid hkl
  have hk48 : 16 * keys.length ≤ 281474976710656 := by omega
  have hk63 : keys.length ≤ 9223372036854775807 := by omega
  have HM := Lib.hid (run_make_row' (P := Tryd.prog) 34 9 (.string ⟨#[]⟩) 16 Tryd.underlying34 Tryd.infoStr rfl .i64 .i64 keys.length hk48 hk63)
  clear hl hkl hk48 hk63
  by_cases hodd : l.length % 2 = 1
  · have HR : Hid (optS l keys = ([], 240)) := Lib.hid (by unfold optS; rw [if_pos hodd])
    have e1 : ((l.length : Int) % 2 != 0) = true := by rw [bne_iff_ne]; omega
    clear hodd
    go_enter Tryd.func17, Tryd.ntmps17
    go_wp2_with fail
    go_step3
    go_wp2_with fail
    try rw [Exit.noGoto_ret]
    go_ret2
    exact ⟨_, by rw [HR.out]; rfl, by rw [HR.out]; exact RS_nil _, Below.refl _ _⟩
  · have e1 : ((l.length : Int) % 2 != 0) = false := by rw [bne_eq_false_iff_eq]; omega
    have HS : Hid (∀ r, optGo keys (l.drop 0) [] (List.replicate keys.length []) = r → optS l keys = match r with | none => ([], 240) | some o => (o, 0)) := Lib.hid (fun r h => by subst h; unfold optS; rw [if_neg hodd]; simp only [List.drop_zero])
    have EV := Lib.hid hodd
    generalize hR0 : optGo keys (l.drop 0) [] (List.replicate keys.length []) = R at *
    have HR0 : Hid (R = optGo keys (l.drop 0) [] (List.replicate keys.length [])) := Lib.hid hR0.symm
    have HR := Lib.hid (HS.out R rfl)
    clear hodd hR0 HS
    have hmk := HM.out
    have HC0 : Hid (CellsAt (W.alloc (.cells (madeCells #[.string ⟨#[]⟩] keys.length) 9)) W.heap.size (List.replicate keys.length [])) := Lib.hid (by
      unfold CellsAt
      show (W.heap.push _)[W.heap.size]? = _
      rw [Array.getElem?_push_size, made_str])
    have BA : Hid (Below W.heap.size W (W.alloc (.cells (madeCells #[.string ⟨#[]⟩] keys.length) 9))) := Lib.hid ((Below.refl _ _).alloc (Nat.le_refl _) _)
    go_enter Tryd.func17, Tryd.ntmps17
    go_wp2_with fail
    go_step3
    go_wp2_with fail
    go_step3
    go_wp2_with fail
    have CA := HC0
    clear HC0 HM hmk
    try clear e1
    go_loopw [7, 8] (fun m i wr => ∃ (n : Nat) (met outs : List (List UInt8)), i = .int .i64 (2 * n : Nat) ∧ 2 * n ≤ l.length ∧ met.length = n ∧ outs.length = keys.length ∧ wr.ownsRow (W.heap.size + 1) 9 1 m met.length (met.map str) ∧ CellsAt wr W.heap.size outs ∧ Below W.heap.size W wr ∧ Hid (R = optGo keys (l.drop (2 * n)) met outs)) (fun _ i _ => l.length - (intOf i).toNat)
    case atStart => exact ⟨0, [], List.replicate keys.length [], rfl, Nat.zero_le _, rfl, by simp, World.ownsRow_nil _ _ _ _, CA.out, BA.out, HR0⟩
    case round =>
      obtain ⟨n, met, outs, rfl, hn, hmn, hon, hown, hca, hbe, hr⟩ := hrel
      have hnb : ((2 * n : Nat) : Int) ≤ 8796093021952 := by omega
      have OWN := Lib.hid hown
      have CAT := Lib.hid hca
      have HBE := Lib.hid hbe
      have HML := Lib.hid hmn
      have HOL := Lib.hid hon
      obtain ⟨pm, cm, rfl⟩ := own_form1 hown
      obtain ⟨rsm, _⟩ := RS_own hown
      obtain ⟨_, _, hpm, hmr⟩ := RS.out rsm
      cases hpm
      have HMR := Lib.hid hmr
      clear hown hca hbe hmn hon rsm hmr
      by_cases hlt : 2 * n < l.length
      rotate_left
      · have hlt' : ¬ ((2 * n : Nat) : Int) < (l.length : Int) := by omega
        have HX : Hid (R = some outs) := Lib.hid (hr.out.trans (opt_end (by omega)))
        clear hlt
        go_wp2_with fail
        try rw [Exit.noGoto_ret]
        go_ret2
        have e : optS l keys = (outs, 0) := by rw [HR.out, HX.out]
        have e2 := CAT.out.rs
        rw [HOL.out] at e2
        exact ⟨_, by rw [e]; rfl, by rw [e]; exact e2, HBE.out⟩
      · have hlt' : ((2 * n : Nat) : Int) < (l.length : Int) := by omega
        have hlt2 : 2 * n + 1 < l.length := by have := EV.out; omega
        obtain ⟨bl, ol, rfl, hbl, _⟩ := HL.out (2 * n) hlt
        have ga : ∀ wx, Below W.heap.size W wx → wx.cell? ⟨bl, ol + 2 * n, none⟩ = some (str (l.getD (2 * n) [])) := fun wx h => by
          obtain ⟨_, _, hp, _, g⟩ := HL.out (2 * n) hlt
          cases hp
          exact (h.cell (p := ⟨bl, ol + 2 * n, none⟩) hbl).trans g
        have gb : ∀ wx, Below W.heap.size W wx → wx.cell? ⟨bl, ol + (2 * n + 1), none⟩ = some (str (l.getD (2 * n + 1) [])) := fun wx h => by
          obtain ⟨_, _, hp, _, g⟩ := HL.out (2 * n + 1) hlt2
          cases hp
          exact (h.cell (p := ⟨bl, ol + (2 * n + 1), none⟩) hbl).trans g
        have GA := Lib.hid ga
        have GB := Lib.hid gb
        have ST : Hid (optGo keys (l.drop (2 * n)) met outs = if met.any (· == l.getD (2 * n) []) then none else if fndN keys (l.getD (2 * n) []) keys.length then optGo keys (l.drop (2 * (n + 1))) (met ++ [l.getD (2 * n) []]) (updN keys outs (l.getD (2 * n) []) (l.getD (2 * n + 1) []) keys.length) else none) := Lib.hid (by
          rw [opt_drop hlt2]; rfl)
        generalize l.getD (2 * n) [] = a at *
        generalize l.getD (2 * n + 1) [] = b at *
        clear ga gb hlt
        have g0 := GA.out wr HBE.out
        go_wp2_with fail
        go_loopw [30] (fun i wr' => ∃ q : Nat, i = .int .i64 q ∧ q ≤ met.length ∧ wr' = wr ∧ Hid (∀ j, j < q → met.getD j [] ≠ a)) (fun i _ => met.length - (intOf i).toNat)
        case atStart => exact ⟨0, by go_num, Nat.zero_le _, rfl, Lib.hid (fun j hj => absurd hj (Nat.not_lt_zero _))⟩
        case round =>
          obtain ⟨q, rfl, hq, rfl, hne⟩ := hrel
          have hqb : (q : Int) ≤ 8796093021952 := by have := HML.out; omega
          by_cases hql : q < met.length
          · have hql' : (q : Int) < (met.length : Int) := by omega
            obtain ⟨bm, om, rfl, hbm, gm⟩ := HMR.out q hql
            by_cases hs : met.getD q [] = a
            · have HX : Hid (R = none) := Lib.hid (by rw [hr.out, ST.out, if_pos (any_true hql hs)])
              rw [hs] at gm
              clear hs hql
              go_wp2_with fail
              try rw [Exit.noGoto_ret]
              go_ret2
              have e : optS l keys = ([], 240) := by rw [HR.out, HX.out]
              exact ⟨_, by rw [e]; rfl, by rw [e]; exact RS_nil _, HBE.out⟩
            · have NX : Hid (∀ j, j < q + 1 → met.getD j [] ≠ a) := Lib.hid (fun j hj => by
                rcases Nat.lt_or_ge j q with h | h
                · exact hne.out j h
                · obtain rfl : j = q := by omega
                  exact hs)
              generalize met.getD q [] = x at *
              have hxa : (x == a) = false := by rw [beq_eq_false_iff_ne]; exact hs
              clear hs hql hne
              go_wp2_with fail
              go_roundw
              case rel => exact ⟨q + 1, by go_num, by omega, trivial, NX⟩
              case measure => show met.length - ((q : Int) + 1).toNat < met.length - ((q : Int)).toNat; omega
          · have hql' : ¬ (q : Int) < (met.length : Int) := by omega
            have NA := Lib.hid (any_false (fun j hj => hne.out j (by omega)))
            have hml : met.length * 32 ≤ 140737488351232 := by have := HML.out; have := HLB.out; omega
            have hm1 : met.length + 1 ≤ maxLen := by unfold maxLen; omega
            have hm2 : (met.length + 1) * 16 ≤ 140737488355328 := by omega
            have hbs : W.heap.size + 1 ≤ wr.heap.size := CAT.out.lt
            have MB := Lib.hid (show met.length + 1 ≤ maxLen ∧ (met.length + 1) * 16 ≤ 140737488355328 ∧ W.heap.size + 1 ≤ wr.heap.size from ⟨hm1, hm2, hbs⟩)
            clear hql hne hml hm1 hm2 hbs
            go_wp2_with (at_builtin; refine appendN2 (W := wr) rfl _ _ 34 rfl (W.heap.size + 1) 9 i0 _ 1 16 Tryd.underlying34 hi hz0 hz1 hz2 rfl (by decide) _ _ _ rfl OWN.out _ [str a] _ rfl rfl rfl (by intro u hu; simp at hu; subst hu; rfl) MB.out.1 MB.out.2.1 MB.out.2.2 (Below.refl _ _) ?_; intro m' w3 hown3 hbe3 hgr)
            have CA3 : CellsAt w3 W.heap.size outs := (hbe3.block _ (by omega)).trans CAT.out
            have BE3 : Below W.heap.size W w3 := HBE.out.trans (hbe3.mono (by omega))
            have OW3 := Lib.hid hown3
            have CA3' := Lib.hid CA3
            have BE3' := Lib.hid BE3
            clear hown3 hbe3 hgr CA3 BE3 MB
            go_loopw [11, 51] (fun fv i wy => ∃ q : Nat, i = .int .i64 q ∧ q ≤ keys.length ∧ fv = .bool (fndN keys a q) ∧ Hid (CellsAt wy W.heap.size (updN keys outs a b q)) ∧ Hid (Below W.heap.size W wy) ∧ Hid (wy.ownsRow (W.heap.size + 1) 9 1 m' (met.length + 1) (met.map str ++ [str a]))) (fun _ i _ => keys.length - (intOf i).toNat)
            case atStart => exact ⟨0, by go_num, Nat.zero_le _, rfl, CA3', BE3', OW3⟩
            case round =>
              obtain ⟨q, rfl, hq, rfl, hcy, hby, hoy⟩ := hrel
              have hqb : (q : Int) ≤ 8796093021952 := by omega
              by_cases hql : q < keys.length
              · have hql' : (q : Int) < (keys.length : Int) := by omega
                obtain ⟨bk, ok, rfl, hbk, _⟩ := HKR.out q hql
                have gk : wr.cell? ⟨bk, ok + q, none⟩ = some (str (keys.getD q [])) := by
                  obtain ⟨_, _, hp, _, g⟩ := HKR.out q hql
                  cases hp
                  exact (hby.out.cell (p := ⟨bk, ok + q, none⟩) hbk).trans g
                have g0 := GA.out wr hby.out
                by_cases hs : keys.getD q [] = a
                · have FE : Hid (fndN keys a (q + 1) = true) := Lib.hid (by unfold fndN; rw [hs]; simp)
                  have UE : Hid (updN keys outs a b (q + 1) = (updN keys outs a b q).set q b) := Lib.hid (by conv => lhs; unfold updN; rw [if_pos (by rw [hs]; simp)])
                  have hqo : q < (updN keys outs a b q).length := by rw [updN_len, HOL.out]; exact hql
                  have gc := hcy.out.cell hqo
                  have gf := hcy.out.frozen q
                  have g1 := GB.out wr hby.out
                  have hlt3 : ((2 * n : Nat) : Int) + 1 < (l.length : Int) := by omega
                  rw [hs] at gk
                  have NC := Lib.hid (hcy.out.set (k := q) b)
                  have NO := Lib.hid (own_set hoy.out (k := q) (v := str b) (Nat.lt_succ_self _))
                  have NB := Lib.hid (hby.out.setCell (p := ⟨W.heap.size, q, none⟩) (Nat.le_refl _) (str b))
                  clear hs hql hqo
                  go_wp2_with fail
                  go_roundw
                  case rel => exact ⟨q + 1, by go_num, by omega, by rw [FE.out], by rw [UE.out]; exact NC, NB, NO⟩
                  case measure => show keys.length - ((q : Int) + 1).toNat < keys.length - ((q : Int)).toNat; omega
                · have FE : Hid (fndN keys a (q + 1) = fndN keys a q) := Lib.hid (by conv => lhs; unfold fndN
                                                                                     rw [show (keys.getD q [] == a) = false by simpa using hs, Bool.or_false])
                  have UE : Hid (updN keys outs a b (q + 1) = updN keys outs a b q) := Lib.hid (by conv => lhs; unfold updN; rw [if_neg (by simpa using hs)])
                  generalize keys.getD q [] = x at *
                  have hxa : (x == a) = false := by rw [beq_eq_false_iff_ne]; exact hs
                  clear hs hql
                  go_wp2_with fail
                  go_roundw
                  case rel => exact ⟨q + 1, by go_num, by omega, by rw [FE.out], by rw [UE.out]; exact hcy, hby, hoy⟩
                  case measure => show keys.length - ((q : Int) + 1).toNat < keys.length - ((q : Int)).toNat; omega
              · have hql' : ¬ (q : Int) < (keys.length : Int) := by omega
                obtain rfl : q = keys.length := by omega
                cases hf : fndN keys a keys.length with
                | true =>
                  have HX : Hid (R = optGo keys (l.drop (2 * (n + 1))) (met ++ [a]) (updN keys outs a b keys.length)) := Lib.hid (by rw [hr.out, ST.out, NA.out, hf]; rfl)
                  clear hf hql
                  go_wp2_with fail
                  go_roundw
                  case rel => exact ⟨n + 1, met ++ [a], updN keys outs a b keys.length, by go_num, by omega, by rw [List.length_append, HML.out]; rfl, by rw [updN_len]; exact HOL.out, by rw [List.length_append, List.map_append]; exact hoy.out, hcy.out, hby.out, HX⟩
                  case measure => show l.length - ((2 * (n : Int)) + 2).toNat < l.length - ((2 * (n : Int))).toNat; omega
                | false =>
                  have HX : Hid (R = none) := Lib.hid (by rw [hr.out, ST.out, NA.out, hf]; rfl)
                  clear hf hql
                  go_wp2_with fail
                  try rw [Exit.noGoto_ret]
                  go_ret2
                  have e : optS l keys = ([], 240) := by rw [HR.out, HX.out]
                  exact ⟨_, by rw [e]; rfl, by rw [e]; exact RS_nil _, hby.out⟩
end Go.Proofs.YtdcnlgjngfmbcaaDoor
