/- config.Find. -/
import Derived.Test.YtophilmjfdhhaaaGreatDoorGk
namespace Go.Proofs.YtophilmjfdhhaaaGreatDoor
open Go Go.RowKit Go.Shelf Go.Sort
set_option linter.unusedVariables false
set_option linter.unusedSimpArgs false
set_option maxRecDepth 100000
set_option maxHeartbeats 4000000

def fndGo (at_ : Int) (nm : List UInt8) : List It → Int → Int
  | [], _ => -1
  | x :: r, i => if x.par = at_ ∧ x.nm = nm then i else fndGo at_ nm r (i + 1)
/-- The first node of a name under a parent. -/
def fndI (l : List It) (at_ : Int) (nm : List UInt8) : Int := fndGo at_ nm l 0
theorem fndGo_at {l : List It} {i : Nat} (hi : i < l.length) (a : Int) (nm : List UInt8) : fndGo a nm (l.drop i) i = if (l.getD i default).par = a ∧ (l.getD i default).nm = nm then (i : Int) else fndGo a nm (l.drop (i + 1)) ((i + 1 : Nat) : Int) := by
  rw [List.drop_eq_getElem_cons hi, List.getD, List.getElem?_eq_getElem hi]
  rfl
theorem fndGo_end (l : List It) (a : Int) (nm : List UInt8) (i : Int) : fndGo a nm (l.drop l.length) i = -1 := by rw [List.drop_eq_nil_of_le (Nat.le_refl _)]; rfl
theorem fndGo_bd (a : Int) (nm : List UInt8) : ∀ (l : List It) (i : Int), 0 ≤ i → fndGo a nm l i = -1 ∨ (i ≤ fndGo a nm l i ∧ fndGo a nm l i < i + l.length)
  | [], i, h => .inl rfl
  | x :: r, i, h => by
    unfold fndGo
    split
    · right; simp; omega
    · rcases fndGo_bd a nm r (i + 1) (by omega) with h | h
      · exact .inl h
      · right; simp; omega
theorem fndI_bd (l : List It) (a : Int) (nm : List UInt8) : fndI l a nm = -1 ∨ (0 ≤ fndI l a nm ∧ fndI l a nm < l.length) := by
  rcases fndGo_bd a nm l 0 (by decide) with h | h
  · exact .inl h
  · right; unfold fndI; omega
def findGo (l : List It) : List (List UInt8) → Int → Int × Int
  | [], at_ => (at_, 0)
  | n :: r, at_ => if fndI l at_ n < 0 then (0, 50) else findGo l r (fndI l at_ n)
def findS (t : Tr) (path : List UInt8) : Int × Int := if validS t ≠ 0 then (0, validS t) else findGo t.items (splitC 47 [] path) (-1)
theorem findGo_at {l : List It} {ns : List (List UInt8)} {i : Nat} (hi : i < ns.length) (a : Int) : findGo l (ns.drop i) a = if fndI l a (ns.getD i []) < 0 then (0, 50) else findGo l (ns.drop (i + 1)) (fndI l a (ns.getD i [])) := by
  rw [List.drop_eq_getElem_cons hi, List.getD, List.getElem?_eq_getElem hi]
  rfl
theorem findGo_end (l : List It) (ns : List (List UInt8)) (a : Int) : findGo l (ns.drop ns.length) a = (a, 0) := by rw [List.drop_eq_nil_of_le (Nat.le_refl _)]; rfl
theorem find1_c (x : It) (z : Value) (pz : ∃ p n c, z = .slice p n c) (A B : Nat) (a : Int) (nm : List UInt8) (W : World) (hA : W.cell? ⟨A, 0, none⟩ = some (.int .i64 a)) (hB : W.cell? ⟨B, 0, none⟩ = some (str nm)) :
    Calls Tryz.prog 33 #[.agg #[str x.nm, .int .i64 x.par, .int .i64 x.q, .int .i64 x.p, z], .pointer (some ⟨A, 0, none⟩), .pointer (some ⟨B, 0, none⟩)] W fun e w' => e = .returned (.bool (decide (x.par = a ∧ x.nm = nm))) ∧ Below W.heap.size W w' := by
  obtain ⟨p, n, c, rfl⟩ := pz
  have hAl : A < W.heap.size := block_lt_of_cell hA
  have hBl : B < W.heap.size := block_lt_of_cell hB
  have BX : ∀ o, Below W.heap.size W (W.alloc o) := fun o => (Below.refl _ _).alloc (Nat.le_refl _) _
  have HBX := Lib.hid BX
  obtain ⟨R, hR⟩ : ∃ R, R = decide (x.par = a ∧ x.nm = nm) := ⟨_, rfl⟩
  rw [← hR]
  clear BX
  by_cases h1 : x.par = a
  · have q1 : (x.par == a) = true := by simpa using h1
    by_cases h2 : x.nm = nm
    · have q2 : (x.nm == nm) = true := by simpa using h2
      have HR : Hid (R = true) := Lib.hid (by rw [hR, h1, h2]; simp)
      clear hR h1 h2
      go_enter Tryz.func33, Tryz.ntmps33
      go_wp2_with fail
      go_ret
      exact ⟨by rw [HR.out]; rfl, HBX.out _⟩
    · have q2 : (x.nm == nm) = false := by simpa using h2
      have HR : Hid (R = false) := Lib.hid (by rw [hR]; exact decide_eq_false (fun h => h2 h.2))
      clear hR h1 h2
      go_enter Tryz.func33, Tryz.ntmps33
      go_wp2_with fail
      go_ret
      exact ⟨by rw [HR.out]; rfl, HBX.out _⟩
  · have q1 : (x.par == a) = false := by simpa using h1
    have HR : Hid (R = false) := Lib.hid (by rw [hR]; exact decide_eq_false (fun h => h1 h.1))
    clear hR h1
    go_enter Tryz.func33, Tryz.ntmps33
    go_wp2_with fail
    go_ret
    exact ⟨by rw [HR.out]; rfl, HBX.out _⟩
theorem indexI_c (l : List It) (v : Value) (A B : Nat) (a : Int) (nm : List UInt8) (W : World) (h : RT W v l) (hA : W.cell? ⟨A, 0, none⟩ = some (.int .i64 a)) (hB : W.cell? ⟨B, 0, none⟩ = some (str nm)) (hl : l.length ≤ 1000000000000) :
    Calls Tryz.prog 32 #[v, .func (.func 33) #[] #[.pointer (some ⟨A, 0, none⟩), .pointer (some ⟨B, 0, none⟩)]] W fun e w' => e = .returned (.int .i64 (fndI l a nm)) ∧ Below W.heap.size W w' := by
  obtain ⟨p, c, rfl, _, _, hit⟩ := h.out
  have HIT := Lib.hid hit
  have AT := Lib.hid (fun i hi => fndGo_at (l := l) (i := i) hi a nm)
  have EN := Lib.hid (fndGo_end l a nm)
  have hAl : A < W.heap.size := block_lt_of_cell hA
  have hBl : B < W.heap.size := block_lt_of_cell hB
  have HA := Lib.hid (fun w (h : Below W.heap.size W w) => (h.cell (p := ⟨A, 0, none⟩) hAl).trans hA)
  have HB := Lib.hid (fun w (h : Below W.heap.size W w) => (h.cell (p := ⟨B, 0, none⟩) hBl).trans hB)
  have ST : Hid (fndGo a nm (l.drop 0) ((0 : Nat) : Int) = fndI l a nm) := Lib.hid rfl
  have hli : (l.length : Int) ≤ 1000000000000 := by omega
  generalize fndI l a nm = R at *
  clear h hit hA hB
  go_enter Tryz.func32, Tryz.ntmps32
  go_wp2_with fail
  go_loopw [8] (fun iv wr => ∃ i : Nat, iv = .int .i64 i ∧ i ≤ l.length ∧ Hid (Below W.heap.size W wr) ∧ Hid (fndGo a nm (l.drop i) (i : Int) = R)) (fun iv _ => l.length - (intOf iv).toNat)
  case atStart => exact ⟨0, by go_num, Nat.zero_le _, Lib.hid (Below.refl _ _), ST⟩
  case round =>
    obtain ⟨i, rfl, hi, hbe, hr⟩ := hrel
    have hii : (i : Int) ≤ 1000000000000 := by omega
    by_cases hlt : i < l.length
    · have hlt' : (i : Int) < (l.length : Int) := by omega
      have hi1 : i + 1 ≤ l.length := hlt
      obtain ⟨b, o, rfl, hb, hx⟩ := HIT.out (by omega)
      obtain ⟨x0, x1, x2, x3, z, x4, hz⟩ := (hx i hlt).below hb hbe.out
      obtain ⟨az, cz, rfl⟩ := RI_form hz
      have F1 := Lib.hid (find1_c (l.getD i default) (.slice az (l.getD i default).pr.length cz) ⟨_, _, _, rfl⟩ A B a nm wr (HA.out _ hbe.out) (HB.out _ hbe.out))
      have ATi := Lib.hid (hr.out.symm.trans (AT.out i hlt))
      generalize l.getD i default = x at *
      clear hx hlt
      by_cases hh : x.par = a ∧ x.nm = nm
      · have HR : Hid (R = (i : Int)) := Lib.hid (by rw [ATi.out, if_pos hh])
        have F2 : Hid (Calls Tryz.prog 33 #[.agg #[str x.nm, .int .i64 x.par, .int .i64 x.q, .int .i64 x.p, .slice az x.pr.length cz], .pointer (some ⟨A, 0, none⟩), .pointer (some ⟨B, 0, none⟩)] wr fun e w' => e = .returned (.bool true) ∧ Below wr.heap.size wr w') := Lib.hid (by have := F1.out; rw [decide_eq_true hh] at this; exact this)
        clear hh F1 ATi
        go_wp2_with (go_at_call 33; refine F2.out.mono ?_; rintro e w2 ⟨rfl, hb2⟩)
        go_ret
        exact ⟨by rw [HR.out]; rfl, hbe.out.trans (hb2.mono hbe.out.size)⟩
      · have NX : Hid (fndGo a nm (l.drop (i + 1)) ((i + 1 : Nat) : Int) = R) := Lib.hid (by rw [ATi.out, if_neg hh])
        have F2 : Hid (Calls Tryz.prog 33 #[.agg #[str x.nm, .int .i64 x.par, .int .i64 x.q, .int .i64 x.p, .slice az x.pr.length cz], .pointer (some ⟨A, 0, none⟩), .pointer (some ⟨B, 0, none⟩)] wr fun e w' => e = .returned (.bool false) ∧ Below wr.heap.size wr w') := Lib.hid (by have := F1.out; rw [decide_eq_false hh] at this; exact this)
        clear hh F1 ATi
        go_wp2_with (go_at_call 33; refine F2.out.mono ?_; rintro e w2 ⟨rfl, hb2⟩)
        go_roundw
        case rel => exact ⟨i + 1, by go_num, hi1, Lib.hid (hbe.out.trans (hb2.mono hbe.out.size)), NX⟩
        case measure => show l.length - ((i : Int) + 1).toNat < l.length - ((i : Int)).toNat; omega
    · obtain rfl : i = l.length := by omega
      have hlt' : ¬ (l.length : Int) < (l.length : Int) := by omega
      have HR : Hid (R = -1) := Lib.hid (by rw [← hr.out]; exact EN.out _)
      clear hlt
      go_wp2_with fail
      go_ret
      exact ⟨by rw [HR.out]; rfl, hbe.out⟩
theorem find_c (t : Tr) (path : List UInt8) (v1 v2 : Value) (W : World) (E : Env W) (h1 : RT W v1 t.items) (h2 : RI W v2 t.slack) (hl : t.items.length ≤ 1000000000) (hs : t.slack.length ≤ 140737488355328) (hn : ∀ x ∈ t.items, x.nm.length ≤ 140737488355328) (hp : ∀ x ∈ t.items, x.pr.length ≤ 140737488355328) (hpl : path.length < 4294967281) :
    Calls Tryz.prog 17 #[.agg #[v1, v2], str path] W fun e w' => e = .returned (.tuple #[.int .i64 (findS t path).1, errOf (findS t path).2]) ∧ Below W.heap.size W w' := by
  obtain ⟨p1, c1, rfl, _⟩ := h1.out
  obtain ⟨p2, c2, rfl⟩ := RI_form h2
  obtain ⟨w0, hw0⟩ : ∃ w0, w0 = W.alloc (trObj (.slice p1 t.items.length c1) (.slice p2 t.slack.length c2)) := ⟨_, rfl⟩
  have b0 : Below W.heap.size W w0 := by rw [hw0]; exact (Below.refl _ _).alloc (Nat.le_refl _) _
  have CC : w0.heap[W.heap.size]? = some (trObj (.slice p1 t.items.length c1) (.slice p2 t.slack.length c2)) := by rw [hw0]; exact new_blk _
  have VC := Lib.hid (valid25_c t _ _ w0 (h1.below b0) (h2.below b0) hl hs hn hp)
  have HW := Lib.hid hw0
  have B0 := Lib.hid b0
  have HC := Lib.hid CC
  have H1 := Lib.hid h1
  have EE := Lib.hid (fun w (h : Below W.heap.size W w) => E.below h)
  have SP := Lib.hid (fun w (h : Below W.heap.size W w) => ssplit_at path 47 w (EE.out w h) hpl)
  have FE : Hid (validS t ≠ 0 → findS t path = (0, validS t)) := Lib.hid (fun h => if_pos h)
  have FO : Hid (validS t = 0 → findS t path = findGo t.items (splitC 47 [] path) (-1)) := Lib.hid (fun h => if_neg (by simp [h]))
  have hsm := splitC_many 47 path []
  have c0 := blk_cell (j := 0) (v := .slice p1 t.items.length c1) HC.out rfl
  have c1' := blk_cell (j := 1) (v := .slice p2 t.slack.length c2) HC.out rfl
  have hT0 : W.heap.size < w0.heap.size := blk_lt CC
  have hli : (t.items.length : Int) ≤ 1000000000 := by omega
  generalize findS t path = R at *
  generalize splitC 47 [] path = ns at *
  generalize validS t = V at *
  have hns : (ns.length : Int) ≤ 4294967281 := by omega
  clear h1 h2 hw0 b0 CC hs hn hp E
  go_enter Tryz.func17, Tryz.ntmps17
  go_wp2_with fail
  rw [← HW.out]
  refine VC.out.mono ?_
  rintro e w1 ⟨rfl, hb1⟩
  have B1 := Lib.hid (B0.out.trans (hb1.mono B0.out.size))
  have CB1 := Lib.hid (blk_below HC.out hb1)
  clear hb1 VC
  by_cases hV : V = 0
  · rw [hV, errOf_zero]
    have HR := Lib.hid (FO.out hV)
    have LT1 : W.heap.size < w1.heap.size := blk_lt CB1.out
    have BA := Lib.hid (B1.out.alloc B1.out.size (.cells #[.int .i64 (-1)] 3))
    have SP1 := Lib.hid (SP.out _ BA.out)
    have HA0 : Hid ((w1.alloc (.cells #[.int .i64 (-1)] 3)).heap[w1.heap.size]? = some (.cells #[.int .i64 (-1)] 3)) := Lib.hid (new_blk _)
    have CBA := Lib.hid (blk_alloc CB1.out (.cells #[.int .i64 (-1)] 3))
    clear hV FE FO SP c0 c1'
    go_wp2_with fail
    refine SP1.out.mono ?_
    rintro e w2 ⟨rfl, hr2, hb2, hz2⟩
    have HA2 := Lib.hid (blk_below HA0.out hb2)
    have CB2 := Lib.hid (blk_below CBA.out hb2)
    have B2 := Lib.hid (BA.out.trans (hb2.mono BA.out.size))
    obtain ⟨A, hA⟩ : ∃ A, A = w1.heap.size := ⟨_, rfl⟩
    obtain ⟨b, hb⟩ : ∃ b, b = (w1.alloc (.cells #[.int .i64 (-1)] 3)).heap.size := ⟨_, rfl⟩
    have hbA : A < b := by rw [hA, hb]; simp
    have CELL : Hid (∀ i, i < ns.length → w2.cell? ⟨b, i, none⟩ = some (str (ns.getD i []))) := Lib.hid (fun i hi => by
      obtain ⟨p', c', hv', hc'⟩ := hr2.out
      obtain ⟨b2, o2, hp2, _, hg2⟩ := hc' i hi
      injection hv' with hv1
      rw [hv1.symm] at hp2
      injection hp2 with hp2
      injection hp2 with e1 e2
      subst e1; subst e2
      rw [hb]
      simpa using hg2)
    rw [← hb] at hz2
    rw [← hA] at HA2 LT1
    have HAE := Lib.hid hA
    have HBE := Lib.hid hb
    have hb' : w1.heap.size + 1 = b := by rw [hb]; simp
    have HBA := Lib.hid hbA
    clear hbA
    have HB' := Lib.hid hb'
    clear hr2 hb2 hA hb hb' SP1 HA0 CBA
    go_wp2_with fail
    simp only [HB'.out]
    simp only [← HAE.out]
    have ST : Hid (R = findGo t.items (ns.drop 0) (-1)) := Lib.hid HR.out
    go_loopw [19] (fun iv wr => ∃ (i : Nat) (a : Int), iv = .int .i64 i ∧ i ≤ ns.length ∧ Hid (Below W.heap.size W wr) ∧ Hid (wr.heap[W.heap.size]? = some (trObj (.slice p1 t.items.length c1) (.slice p2 t.slack.length c2))) ∧ Hid (wr.heap[A]? = some (.cells #[.int .i64 a] 3)) ∧ Hid (∀ j, j < ns.length → wr.cell? ⟨b, j, none⟩ = some (str (ns.getD j []))) ∧ b < wr.heap.size ∧ Hid (R = findGo t.items (ns.drop i) a)) (fun iv _ => ns.length - (intOf iv).toNat)
    case atStart => exact ⟨0, -1, by go_num, Nat.zero_le _, B2, CB2, HA2, CELL, hz2, ST⟩
    case round =>
      obtain ⟨i, a, rfl, hi, hbe, hcb, hca, hcell, hbw, hr⟩ := hrel
      have hii : (i : Int) ≤ 4294967281 := by omega
      have lT : W.heap.size < wr.heap.size := blk_lt hcb.out
      have lA : A < wr.heap.size := blk_lt hca.out
      have g0 := blk_cell (j := 0) (v := .slice p1 t.items.length c1) hcb.out rfl
      have ga := blk_cell (j := 0) (v := .int .i64 a) hca.out rfl
      by_cases hlt : i < ns.length
      · have hlt' : (i : Int) < (ns.length : Int) := by omega
        have hi1 : i + 1 ≤ ns.length := hlt
        have gn := hcell.out i hlt
        have AT := Lib.hid (hr.out.trans (findGo_at hlt a))
        have BWA := Lib.hid (fun nm : List UInt8 => (hbe.out.alloc hbe.out.size (.cells #[str nm] 9)))
        have IXC := Lib.hid (fun nm : List UInt8 => indexI_c t.items _ A wr.heap.size a nm (wr.alloc (.cells #[str nm] 9)) (H1.out.below (BWA.out nm)) (blk_cell (blk_alloc hca.out _) rfl) (cell_new1 wr _ _ 0 _ rfl) (by omega))
        have FB := fndI_bd t.items a (ns.getD i [])
        generalize ns.getD i [] = nm at *
        have IX1 := Lib.hid (IXC.out nm)
        generalize fndI t.items a nm = F at *
        have hmf : ∀ (fn : Fn) (first cap : Array Value) (w : World), (Instr.makeFunc fn first cap).run Tryz.prog w = .ok (.func fn first cap) w := fun _ _ _ _ => rfl
        clear hlt IXC
        by_cases hF : F < 0
        · have HR2 : Hid (R = (0, 50)) := Lib.hid (by rw [AT.out, if_pos hF])
          have q1 : decide (F < 0) = true := decide_eq_true hF
          clear AT
          go_wp2_with (go_at_call 32; refine IX1.out.mono ?_; rintro e w3 ⟨rfl, hb3⟩)
          go_ret2
          exact ⟨by rw [HR2.out]; rfl, (BWA.out nm).trans (hb3.mono (BWA.out nm).size)⟩
        · have HX : Hid (R = findGo t.items (ns.drop (i + 1)) F) := Lib.hid (by rw [AT.out, if_neg hF])
          have q1 : decide (F < 0) = false := decide_eq_false hF
          have q2 : 0 ≤ F := by omega
          clear AT FB
          go_wp2_with (go_at_call 32; refine IX1.out.mono ?_; rintro e w3 ⟨rfl, hb3⟩; have CA3 := Lib.hid (blk_below (blk_alloc hca.out (.cells #[str nm] 9)) hb3); have a3 := blk_cell (j := 0) (v := .int .i64 a) CA3.out rfl; have f3 := blk_frozen CA3.out 0; have CB3 := Lib.hid (blk_below (blk_alloc hcb.out (.cells #[str nm] 9)) hb3); have B3 := Lib.hid ((BWA.out nm).trans (hb3.mono (BWA.out nm).size)); have R3 := Lib.hid (((Below.refl wr.heap.size wr).alloc (Nat.le_refl _) (.cells #[str nm] 9)).trans (hb3.mono (by simp))))
          go_roundw
          case rel => exact ⟨i + 1, F, by go_num, hi1, Lib.hid (B3.out.setCell (p := ⟨A, 0, none⟩) (Nat.le_of_lt LT1) _), Lib.hid ((blk_set_other (Nat.ne_of_lt LT1) _ _).trans CB3.out), Lib.hid (blk_set CA3.out 0 _), Lib.hid (fun j hj => (World.cell?_of_block (w := w3) (a := ⟨b, j, none⟩) (blk_set_other (Nat.ne_of_gt HBA.out) _ _)).trans ((R3.out.cell (p := ⟨b, j, none⟩) hbw).trans (hcell.out j hj))), by simpa using Nat.lt_of_lt_of_le hbw R3.out.size, HX⟩
          case measure => show ns.length - ((i : Int) + 1).toNat < ns.length - ((i : Int)).toNat; omega
      · obtain rfl : i = ns.length := by omega
        have hlt' : ¬ (ns.length : Int) < (ns.length : Int) := by omega
        have HR2 : Hid (R = (a, 0)) := Lib.hid (hr.out.trans (findGo_end _ _ _))
        clear hlt
        go_wp2_with fail
        go_ret2
        exact ⟨by rw [HR2.out]; rfl, hbe.out⟩
  · rw [errOf_ne hV]
    have HR := Lib.hid (FE.out hV)
    have HE := Lib.hid (errOf_ne hV)
    clear hV FE FO SP
    go_wp2_with fail
    go_ret2
    exact ⟨by rw [HR.out]; simp only; rw [HE.out]; rfl, B1.out⟩
end Go.Proofs.YtophilmjfdhhaaaGreatDoor
