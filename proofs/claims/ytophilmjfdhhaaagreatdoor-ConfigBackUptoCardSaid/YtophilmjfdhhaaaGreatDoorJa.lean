/- strings.Builder and strings.Repeat of two blanks, as layer 25 prints; Digits of layer 1's reference. A tree's text, layer 25: plain; config.Print. config.Print. The reference's text of a tree, layer 25. A tree's text, read, is the tree; what is read may be. Plain. -/
import Derived.Test.YtophilmjfdhhaaaGreatDoorGm
import Derived.Lib.Builder
import Derived.Lib.AppendStr
import Derived.Lib.UnsafeStr
import Derived.Laws.Externs
import Derived.Test.YtophilmjfdhhaaaGreatDoorIa
import Derived.Test.YtophilmjfdhhaaaGreatDoorQt
namespace Go.Proofs.YtophilmjfdhhaaaGreatDoor
open Go Go.RowKit Go.Shelf Go.Sort
set_option linter.unusedVariables false
set_option linter.unusedSimpArgs false
set_option maxRecDepth 100000
set_option maxHeartbeats 2000000

theorem Tryz.sizeBld : (Tryz.prog.info? 83).map (·.size) = some 2 := by kernel_rfl
theorem Tryz.liesBld : liesAt Tryz.prog Tryz.prog.depth 83 (2 / Tryz.prog.cellsOf 83) 0 83 1 = true := by kernel_rfl
theorem Tryz.infoByteJ : (Tryz.prog.info? 5).map (fun i => (i.zero, i.size, i.bytes)) = some (some (.int .u8 0), 1, 1) := by kernel_rfl
/-- A builder that the call has made: its bytes. -/
def Bd (B b : Nat) (l : List UInt8) (w : World) : Prop := Lib.IsBuilder 83 5 B b (Lib.byteCells l) w
theorem bcopy_used (b : Nat) (w : World) (h0 : w.cell? ⟨b, 0, none⟩ = some (.pointer (some ⟨b, 0, none⟩))) :
    Calls Tryz.prog 68 #[.pointer (some ⟨b, 0, none⟩)] w fun e w' => e = .returned (.tuple #[]) ∧ w = w' := by
  obtain ⟨j, hj, _⟩ := Option.map_eq_some_iff.1 Tryz.sizeBld
  have q1 : (binOp .neq 80 (.pointer (some ⟨b, 0, none⟩)) (.pointer (some ⟨b, 0, none⟩))).run Tryz.prog w = .ok (.bool false) w := Lib.run_neq_ptr_same w _ Tryz.underlying80 hj
  clear hj
  go_enter Tryz.func68, Tryz.ntmps68
  go_wp2
  go_end0
  exact ⟨rfl, rfl⟩
theorem bcopy_fresh (b : Nat) (w : World) (h0 : w.cell? ⟨b, 0, none⟩ = some (.pointer none)) (hsh : w.shape? b = some (83, 2)) (hfz : w.frozen? ⟨b, 0, none⟩ = false) :
    Calls Tryz.prog 68 #[.pointer (some ⟨b, 0, none⟩)] w fun e w' => e = .returned (.tuple #[]) ∧ w' = w.setCell ⟨b, 0, none⟩ (.pointer (some ⟨b, 0, none⟩)) := by
  obtain ⟨j, hj, hjs⟩ := Option.map_eq_some_iff.1 Tryz.sizeBld
  go_enter Tryz.func68, Tryz.ntmps68
  go_wp2
  rw [Lib.run_to_unsafe w ⟨b, 0, none⟩ Tryz.underlying80 Tryz.underlying107 hj (by rw [hjs]; decide) hsh (Nat.zero_lt_succ 1)]
  simp only [Result.andThen]
  rw [Oper.upon_value]
  go_wp2
  rw [run_callFunc_extern Tryz.func92 (by kernel_rfl) (by kernel_rfl) (by kernel_rfl) (e := Extern.AbiNoEscape.same) (by kernel_rfl)]
  rw [Lib.run_noEscape]
  simp only [Result.andThen]
  rw [Oper.upon_value]
  go_wp2
  rw [Lib.run_from_unsafe w ⟨b, 0, none⟩ Tryz.underlying107 Tryz.underlying80 hj hsh Tryz.liesBld]
  simp only [Result.andThen]
  rw [Oper.upon_value]
  go_wp2
  go_end0
  exact ⟨rfl, rfl⟩
/-- All rows of other types are as they were. -/
def Kp (w w' : World) : Prop := ∀ (k : Nat) (cs : Array Value) (T : TypeId) (fr : Nat × Nat), w.heap[k]? = some (Obj.cells cs T fr) → T ≠ 83 → T ≠ 5 → w'.heap[k]? = some (Obj.cells cs T fr)
theorem Kp.refl (w : World) : Kp w w := fun _ _ _ _ h _ _ => h
theorem Kp.trans {a b c : World} (h : Kp a b) (g : Kp b c) : Kp a c := fun k cs T fr hk h1 h2 => g k cs T fr (h k cs T fr hk h1 h2) h1 h2
theorem Kp.set {w : World} {b : Nat} {cs : Array Value} {fr : Nat × Nat} (hb : w.heap[b]? = some (.cells cs 83 fr)) (i : Nat) (v : Value) : Kp w (w.setCell ⟨b, i, none⟩ v) := by
  intro k cs' T fr' hk h1 h2
  rw [blk_set_other (fun e => by
    subst e
    rw [hb] at hk
    injection hk with hk
    injection hk with _ hk _
    exact h1 hk.symm)]
  exact hk
theorem bcopy_c (B b : Nat) (l : List UInt8) (w : World) (h : Bd B b l w) :
    Calls Tryz.prog 68 #[.pointer (some ⟨b, 0, none⟩)] w fun e w' => e = .returned (.tuple #[]) ∧ Lib.BuilderAt 83 5 B b (.pointer (some ⟨b, 0, none⟩)) (Lib.byteCells l) w' ∧ Below B w w' ∧ Kp w w' := by
  rcases h with h | h
  · refine (bcopy_fresh b w h.cell0 h.shape h.frozen0).mono ?_
    rintro e w' ⟨rfl, rfl⟩
    obtain ⟨_, hbk, _⟩ := h.2
    exact ⟨rfl, h.used _, (Below.refl B w).setCell (p := ⟨b, 0, none⟩) h.1 _, Kp.set hbk 0 _⟩
  · refine (bcopy_used b w h.cell0).mono ?_
    rintro e w' ⟨rfl, rfl⟩
    exact ⟨rfl, h, Below.refl B _, Kp.refl _⟩
theorem strCells_list (s : List UInt8) : Lib.strCells ⟨s.toArray⟩ = Lib.byteCells s := rfl
theorem Bd.below {B b : Nat} {l : List UInt8} {w w' : World} (h : Bd B b l w) (hb : Below w.heap.size w w') : Bd B b l w' := by
  have one : ∀ p, Lib.BuilderAt 83 5 B b p (Lib.byteCells l) w → Lib.BuilderAt 83 5 B b p (Lib.byteCells l) w' := by
    rintro p ⟨hB, v, hbk, hown, hne⟩
    exact ⟨hB, v, blk_below hbk hb, own_below1 hown hb, hne⟩
  rcases h with h | h
  · exact .inl (one _ h)
  · exact .inr (one _ h)
theorem Bd.new (w : World) : Bd w.heap.size w.heap.size [] (w.alloc (.cells #[.pointer none, .slice none 0 0] 83)) := .inl ⟨Nat.le_refl _, _, new_blk _, World.ownsRow_nil _ _ _ _, by intro h; cases h⟩
theorem bwrite_c (B b : Nat) (l s : List UInt8) (w : World) (h : Bd B b l w) (hlen : l.length + s.length ≤ 1000000000) (hBw : B ≤ w.heap.size) :
    Calls Tryz.prog 35 #[.pointer (some ⟨b, 0, none⟩), str s] w fun e w' => e = .returned (.tuple #[.int .i64 s.length, .nilIface]) ∧ Bd B b (l ++ s) w' ∧ Below B w w' ∧ Kp w w' := by
  obtain ⟨i0, hi, hz0, hz1, hz2⟩ := info_of1F Tryz.infoByteJ
  have CC := Lib.hid (bcopy_c B b l w h)
  go_enter Tryz.func35, Tryz.ntmps35
  go_wp2_with fail
  refine CC.out.mono ?_
  rintro e w1 ⟨rfl, h1, hb1, kp1⟩
  have KP1 := Lib.hid kp1
  clear kp1
  obtain ⟨hB, v, hbk, hown, hne⟩ := h1
  have c0 : w1.cell? ⟨b, 0, none⟩ = some (.pointer (some ⟨b, 0, none⟩)) := by rw [Lib.cell_of_heap hbk]; rfl
  have c1 : w1.cell? ⟨b, 1, none⟩ = some v := by rw [Lib.cell_of_heap hbk]; rfl
  have hbl : (Lib.byteCells l).length = l.length := Lib.byteCells_length l
  go_wp2_with (at_builtin; refine Lib.wpList_append_own_string _ rfl _ _ 81 9 rfl B 5 i0 Tryz.underlying81 Tryz.underlying9 hi hz0 hz1 hz2 _ _ _ rfl hown ⟨s.toArray⟩ rfl ?c3 ?c4 ?c5 ?_)
  case c3 => rw [hbl, sz]; unfold maxLen; omega
  case c4 => rw [hbl, sz]; omega
  case c5 => have := hb1.size; omega
  intro v' w2 hown' hgrow _
  have hlt : b < w1.heap.size := blk_lt hbk
  have hb2 : w2.heap[b]? = some (.cells #[.pointer (some ⟨b, 0, none⟩), v] 83) := by
    rw [hgrow.block b hlt (fun e => hne e.symm)]
    exact hbk
  have d0 : w2.cell? ⟨b, 0, none⟩ = some (.pointer (some ⟨b, 0, none⟩)) := by rw [Lib.cell_of_heap hb2]; rfl
  have d1 : w2.cell? ⟨b, 1, none⟩ = some v := by rw [Lib.cell_of_heap hb2]; rfl
  have f1 : w2.frozen? ⟨b, 1, none⟩ = false := Lib.frozen_of_heap hb2 1
  obtain ⟨ao, n', cap, rfl⟩ : ∃ ao n' cap, v' = .slice ao n' cap := by
    rcases hown'.2 with ⟨hv, _⟩ | ⟨g, cap, cur, hv, _⟩
    · exact ⟨_, _, _, hv⟩
    · exact ⟨_, _, _, hv⟩
  have hsl : (⟨s.toArray⟩ : ByteArray).size = s.length := sz s
  have OW := Lib.hid hown'
  have GR := Lib.hid hgrow
  have HB1 := Lib.hid hb1
  have HOW := Lib.hid hown
  clear hown' hgrow hb1 hbl
  go_wp2
  go_ret2
  refine ⟨rfl, .inr ?_, ?_, ?_⟩
  · refine Lib.BuilderAt.put (T := 83) (e := 5) hB hb2 (bs' := Lib.byteCells (l ++ s)) ?_ (by decide)
    have e1 : Lib.byteCells (l ++ s) = Lib.byteCells l ++ Lib.strCells ⟨s.toArray⟩ := by rw [strCells_list]; simp [Lib.byteCells]
    rw [e1]
    simpa [Lib.strCells_length, Lib.byteCells_length, sz] using OW.out
  · exact (HB1.out.grown GR.out (by have := HB1.out.size; omega) (fun k hk => (HOW.out.lt k hk).1)).setCell (p := ⟨b, 1, none⟩) hB _
  · refine (KP1.out.trans ?_).trans (Kp.set hb2 1 _)
    intro k cs' T fr' hk h1 h2
    rw [GR.out.block k (blk_lt hk) (fun e => Lib.ownBlock_ne HOW.out hk h2 e.symm)]
    exact hk
theorem blen_c (B b : Nat) (l : List UInt8) (w : World) (h : Bd B b l w) : Calls Tryz.prog 39 #[.pointer (some ⟨b, 0, none⟩)] w fun e w' => e = .returned (.int .i64 l.length) ∧ w = w' := by
  refine (Tryz.Builder_Len B b _ w h).mono ?_
  rintro e w' ⟨rfl, rfl⟩
  exact ⟨by rw [Lib.byteCells_length], rfl⟩
theorem bstring_c (B b : Nat) (l : List UInt8) (w : World) (h : Bd B b l w) (hB : B ≤ w.heap.size) : Calls Tryz.prog 40 #[.pointer (some ⟨b, 0, none⟩)] w fun e w' => e = .returned (str l) ∧ Below B w w' := Tryz.Builder_String_any B b l w h hB
theorem mul2_c (n : Nat) (hn : n < 1000) (W : World) : Calls Tryz.prog 70 #[.int .u64 2, .int .u64 n] W fun e w' => e = .returned (.tuple #[.int .u64 0, .int .u64 ((2 * n : Nat) : Int)]) ∧ W = w' := by
  refine (Tryz.bits_Mul 2 n (by decide) (by omega) W).mono ?_
  rintro e w' ⟨rfl, rfl⟩
  refine ⟨?_, rfl⟩
  have h1 : 2 * n / 18446744073709551616 = 0 := by omega
  have h2 : 2 * n % 18446744073709551616 = 2 * n := by omega
  simp [h1, h2]
theorem rep2 (n : Nat) (hn : n ≤ 7) (W : World) : Calls Tryz.prog 37 #[.string ⟨#[32, 32]⟩, .int .i64 n] W fun e w' => e = .returned (str (List.replicate (2 * n) 32)) ∧ Below W.heap.size W w' := by
  rcases (by omega : n = 0 ∨ n = 1 ∨ n = 2 ∨ n = 3 ∨ n = 4 ∨ n = 5 ∨ n = 6 ∨ n = 7) with rfl | rfl | rfl | rfl | rfl | rfl | rfl | rfl
  · go_enter Tryz.func37, Tryz.ntmps37
    go_wp2
    go_ret
    exact ⟨rfl, Below.refl _ _⟩
  · go_enter Tryz.func37, Tryz.ntmps37
    go_wp2
    go_ret
    exact ⟨rfl, Below.refl _ _⟩
  · have M := Lib.hid (fun w => mul2_c 2 (by decide) w)
    go_enter Tryz.func37, Tryz.ntmps37
    go_wp2_with (first | (go_at_call 70; refine (M.out _).mono ?_; rintro e w2 ⟨rfl, rfl⟩) | (go_at_call 71; refine (Tryz.strings_HasPrefix _ _ _).mono ?_; rintro e w2 ⟨rfl, rfl⟩))
    go_ret
    exact ⟨rfl, Below.refl _ _⟩
  · have M := Lib.hid (fun w => mul2_c 3 (by decide) w)
    go_enter Tryz.func37, Tryz.ntmps37
    go_wp2_with (first | (go_at_call 70; refine (M.out _).mono ?_; rintro e w2 ⟨rfl, rfl⟩) | (go_at_call 71; refine (Tryz.strings_HasPrefix _ _ _).mono ?_; rintro e w2 ⟨rfl, rfl⟩))
    go_ret
    exact ⟨rfl, Below.refl _ _⟩
  · have M := Lib.hid (fun w => mul2_c 4 (by decide) w)
    go_enter Tryz.func37, Tryz.ntmps37
    go_wp2_with (first | (go_at_call 70; refine (M.out _).mono ?_; rintro e w2 ⟨rfl, rfl⟩) | (go_at_call 71; refine (Tryz.strings_HasPrefix _ _ _).mono ?_; rintro e w2 ⟨rfl, rfl⟩))
    go_ret
    exact ⟨rfl, Below.refl _ _⟩
  · have M := Lib.hid (fun w => mul2_c 5 (by decide) w)
    go_enter Tryz.func37, Tryz.ntmps37
    go_wp2_with (first | (go_at_call 70; refine (M.out _).mono ?_; rintro e w2 ⟨rfl, rfl⟩) | (go_at_call 71; refine (Tryz.strings_HasPrefix _ _ _).mono ?_; rintro e w2 ⟨rfl, rfl⟩))
    go_ret
    exact ⟨rfl, Below.refl _ _⟩
  · have M := Lib.hid (fun w => mul2_c 6 (by decide) w)
    go_enter Tryz.func37, Tryz.ntmps37
    go_wp2_with (first | (go_at_call 70; refine (M.out _).mono ?_; rintro e w2 ⟨rfl, rfl⟩) | (go_at_call 71; refine (Tryz.strings_HasPrefix _ _ _).mono ?_; rintro e w2 ⟨rfl, rfl⟩))
    go_ret
    exact ⟨rfl, Below.refl _ _⟩
  · have M := Lib.hid (fun w => mul2_c 7 (by decide) w)
    go_enter Tryz.func37, Tryz.ntmps37
    go_wp2_with (first | (go_at_call 70; refine (M.out _).mono ?_; rintro e w2 ⟨rfl, rfl⟩) | (go_at_call 71; refine (Tryz.strings_HasPrefix _ _ _).mono ?_; rintro e w2 ⟨rfl, rfl⟩))
    go_ret
    exact ⟨rfl, Below.refl _ _⟩
theorem cons_strJ (c : UInt8) (T : List UInt8) : (⟨#[c]⟩ : ByteArray) ++ ⟨T.toArray⟩ = ⟨(c :: T).toArray⟩ := by
  apply ByteArray.ext
  simp [ByteArray.data_append]
theorem app_strJ (a b : List UInt8) : (⟨a.toArray⟩ : ByteArray) ++ ⟨b.toArray⟩ = ⟨(a ++ b).toArray⟩ := by
  apply ByteArray.ext
  simp [ByteArray.data_append]
theorem dig_stepJ (n : Nat) (h : ¬ n < 10) (T : List UInt8) : Lib.decDigits n ++ T = Lib.decDigits (n / 10) ++ (UInt8.ofNat (48 + n % 10) :: T) := by
  rw [decDigits_step n h]; simp
theorem rdigits25 (n : Nat) (hn : n < 9223372036854775808) (W : World) :
    Calls Tryz.prog 43 #[.int .i64 n] W fun e w' => e = .returned (str (Lib.decDigits n)) ∧ W = w' := by
  have HL := Lib.hid (decDigits_len n hn)
  have h0 : ¬ (n : Int) < 0 := by omega
  have hni : (n : Int) < 9223372036854775808 := by omega
  obtain ⟨D, hD⟩ : ∃ D, D = Lib.decDigits n := ⟨_, rfl⟩
  have HD := Lib.hid hD
  rw [← hD] at HL
  rw [← hD]
  clear hD
  go_enter Tryz.func43, Tryz.ntmps43
  go_wp2_with fail
  clear h0
  go_loopw [0, 4] (fun v s wr => ∃ (m : Nat) (T : List UInt8), v = .int .i64 m ∧ s = str T ∧ m ≤ n ∧ wr = W ∧ Hid (Lib.decDigits m ++ T = D)) (fun v _ _ => (intOf v).toNat)
  case atStart => exact ⟨n, [], rfl, rfl, Nat.le_refl _, rfl, Lib.hid (by rw [HD.out]; simp)⟩
  case round =>
    obtain ⟨m, T, rfl, rfl, hm, rfl, hd⟩ := hrel
    have hmi : (m : Int) < 9223372036854775808 := by omega
    have hT : T.length ≤ 20 := by have h1 := congrArg List.length hd.out; have := HL.out; simp at h1; omega
    by_cases h10 : m < 10
    · have hm' : ¬ 10 ≤ (m : Int) := by omega
      have hm2 : (m : Int) < 10 := by omega
      have PC := dig_piece m h10
      have EQ : Hid (D = UInt8.ofNat (48 + m) :: T) := Lib.hid (by rw [← hd.out, Lib.decDigits_one h10]; rfl)
      have n1 : ¬ 9223372036854775807 < 1 + T.length := by omega
      clear h10
      generalize UInt8.ofNat (48 + m) = c at *
      go_wp2_with fail
      go_ret
      exact ⟨by rw [EQ.out]; exact congrArg (fun s => Ending.returned (Value.string s)) (cons_strJ c T), rfl⟩
    · have hm' : 10 ≤ (m : Int) := by omega
      have PC := dig_piece (m % 10) (Nat.mod_lt _ (by decide))
      have NX := Lib.hid ((dig_stepJ m h10 T).symm.trans hd.out)
      have hm10 : (m : Int) % 10 < 10 := by omega
      have hm0 : 0 ≤ (m : Int) % 10 := by omega
      have n1 : ¬ 9223372036854775807 < 1 + T.length := by omega
      clear h10
      generalize UInt8.ofNat (48 + m % 10) = c at *
      go_wp2_with fail
      go_roundw
      case rel => exact ⟨m / 10, c :: T, by go_num, congrArg Value.string (cons_strJ c T), by omega, trivial, NX⟩
      case measure => show ((m : Int) / 10).toNat < ((m : Int)).toNat; omega
theorem rdig25_c (n : Int) (h0 : 0 ≤ n) (h1 : n ≤ 9223372036854775807) (W : World) :
    Calls Tryz.prog 43 #[.int .i64 n] W fun e w' => e = .returned (str (Lib.itoa n)) ∧ Below W.heap.size W w' := by
  have := rdigits25 n.toNat (by omega) W
  rw [show ((n.toNat : Nat) : Int) = n by omega] at this
  refine this.mono ?_
  rintro e w' ⟨rfl, rfl⟩
  exact ⟨by rw [itoa_nat n h0], Below.refl _ _⟩
end Go.Proofs.YtophilmjfdhhaaaGreatDoor
namespace Go.Proofs.YtophilmjfdhhaaaGreatDoor
open Go Go.RowKit Go.Shelf Go.Sort
set_option linter.unusedVariables false
set_option linter.unusedSimpArgs false
set_option maxRecDepth 100000
set_option maxHeartbeats 4000000

/-- Numbers, a blank ahead of each. -/
def numsP (l : List Int) : List UInt8 := l.flatMap fun n => 32 :: Lib.itoa n
theorem numsP_nil : numsP [] = [] := rfl
theorem numsP_at {l : List Int} {i : Nat} (hi : i < l.length) : numsP (l.take (i + 1)) = numsP (l.take i) ++ (32 :: Lib.itoa (l.getD i 0)) := by
  rw [List.take_succ_eq_append_getElem hi]
  unfold numsP
  rw [List.flatMap_append, List.getD, List.getElem?_eq_getElem hi]
  simp
abbrev wSlk : List UInt8 := [115, 108, 97, 99, 107]
abbrev wTsk : List UInt8 := [32, 116, 97, 115, 107, 115]
/-- A node's line up to its tasks. -/
def bodyP (d : Nat) (x : It) : List UInt8 := List.replicate (2 * (d - 1)) 32 ++ x.nm ++ [32] ++ Lib.itoa x.q ++ [47] ++ Lib.itoa x.p
def tailP (l : List Int) : List UInt8 := (if l = [] then [] else wTsk) ++ numsP l ++ [10]
def lineP (l : List It) (i : Nat) : List UInt8 := bodyP (depS l i) (l.getD i default) ++ tailP (l.getD i default).pr
def headP (s : List Int) : List UInt8 := if s = [] then [] else wSlk ++ (numsP s ++ [10])
def rowsP (l : List It) (k : Nat) : List UInt8 := (List.range k).flatMap (lineP l)
theorem rowsP_succ (l : List It) (k : Nat) : rowsP l (k + 1) = rowsP l k ++ lineP l k := by
  unfold rowsP
  rw [List.range_succ, List.flatMap_append]
  simp
def textP (t : Tr) : List UInt8 := headP t.slack ++ rowsP t.items t.items.length
/-- What Print answers. -/
def printS (t : Tr) : List UInt8 × Int := if validS t ≠ 0 then ([], validS t) else if 1048576 < (textP t).length then ([], 3) else (textP t, 0)
def i64 (x : Int) : Prop := -9223372036854775808 ≤ x ∧ x ≤ 9223372036854775807
theorem numsP_len {l : List Int} (h : ∀ x ∈ l, i64 x) : (numsP l).length ≤ 22 * l.length := by
  induction l with
  | nil => simp [numsP]
  | cons a r ih =>
    have h1 := Lib.itoa_length_le a (h a (by simp)).1 (h a (by simp)).2
    have h2 := ih (fun x hx => h x (by simp [hx]))
    have e : numsP (a :: r) = (32 :: Lib.itoa a) ++ numsP r := by simp [numsP]
    rw [e, List.length_append, List.length_cons, List.length_cons]
    omega
theorem prOk_mem {l : List Int} (h : prOk l = true) : ∀ x ∈ l, 0 ≤ x ∧ x ≤ 31 := by
  intro x hx
  have := List.all_eq_true.1 h x hx
  unfold prB at this
  simp only [Bool.and_eq_true, decide_eq_true_eq] at this
  exact this
theorem prOk_i64 {l : List Int} (h : prOk l = true) : ∀ x ∈ l, i64 x := fun x hx => by have := prOk_mem h x hx; unfold i64; omega
/-- What a tree that may be holds, item by item. -/
structure OkI (l : List It) (i : Nat) : Prop where
  nm : (l.getD i default).nm.length ≤ 32
  q : 1 ≤ (l.getD i default).q ∧ (l.getD i default).q ≤ 1048576
  p : 1 ≤ (l.getD i default).p ∧ (l.getD i default).p ≤ 1048576
  pr : (l.getD i default).pr.length ≤ 8
  prb : ∀ x ∈ (l.getD i default).pr, 0 ≤ x ∧ x ≤ 31
  dep : 1 ≤ depS l i ∧ depS l i ≤ 8
theorem nameS_len {l : List UInt8} (h : nameS l = true) : l.length ≤ 32 := by
  unfold nameS at h
  simp only [Bool.and_eq_true, decide_eq_true_eq] at h
  exact h.1.1.1.1.1.1.2
theorem valid_item {t : Tr} (h : validS t = 0) {i : Nat} (hi : i < t.items.length) : OkI t.items i := by
  obtain ⟨h1, h2, h3, h4, h5, h6⟩ := valid_ok h
  have hf := valid_form h
  have hx := h1 (t.items.getD i default) (by rw [List.getD, List.getElem?_eq_getElem hi]; exact List.getElem_mem hi)
  obtain ⟨k1, k2, k3⟩ := okR_out (show okR _ _ = true from hx.1)
  have ha := formB_at hf hi
  have hn : nameS (t.items.getD i default).nm = true := by
    unfold okAt at ha
    simp only [Bool.and_eq_true] at ha
    exact ha.1.2
  refine ⟨nameS_len hn, ⟨k1, by omega⟩, ⟨by omega, k2⟩, hx.2.2, prOk_mem hx.2.1, ?_, h5 i hi⟩
  have hs := depS_step (formB_wl hf) (i := (i : Int)) (by omega) (by omega)
  rw [hs]; omega
theorem bodyP_len {l : List It} {i : Nat} (h : OkI l i) : (bodyP (depS l i) (l.getD i default)).length ≤ 100 := by
  have a := Lib.itoa_length_le (l.getD i default).q (by have := h.q; omega) (by have := h.q; omega)
  have b := Lib.itoa_length_le (l.getD i default).p (by have := h.p; omega) (by have := h.p; omega)
  have c := h.nm
  have d := h.dep
  unfold bodyP
  simp only [List.length_append, List.length_replicate, List.length_singleton]
  omega
theorem tailP_len {l : List Int} (h : ∀ x ∈ l, i64 x) : (tailP l).length ≤ 22 * l.length + 7 := by
  have := numsP_len h
  unfold tailP
  rw [List.length_append, List.length_append, List.length_singleton]
  split
  · simp; omega
  · rw [show wTsk.length = 6 from rfl]; omega
theorem rowsP_len {t : Tr} (h : validS t = 0) : ∀ k, k ≤ t.items.length → (rowsP t.items k).length ≤ 300 * k
  | 0, _ => by simp [rowsP]
  | k + 1, hk => by
    have ih := rowsP_len h k (by omega)
    have ok := valid_item h (i := k) (by omega)
    have h1 := bodyP_len ok
    have h2 := tailP_len (l := (t.items.getD k default).pr) (fun x hx => by have := ok.prb x hx; unfold i64; omega)
    have h3 := ok.pr
    rw [rowsP_succ, List.length_append]
    unfold lineP
    rw [List.length_append]
    omega
theorem headP_len {t : Tr} (h : validS t = 0) : (headP t.slack).length ≤ 1000 := by
  obtain ⟨h1, h2, h3, h4, h5, h6⟩ := valid_ok h
  have := numsP_len (prOk_i64 h4)
  unfold headP
  split
  · simp
  · simp; omega
theorem textP_len {t : Tr} (h : validS t = 0) : (textP t).length ≤ 20000 := by
  have h1 := rowsP_len h _ (Nat.le_refl _)
  have h2 := headP_len h
  have h3 := (valid_ok h).2.1
  unfold textP
  rw [List.length_append]
  omega
theorem printS_ok {t : Tr} (h : validS t = 0) : printS t = (textP t, 0) := by
  have := textP_len h
  unfold printS
  rw [if_neg (by simp [h]), if_neg (by omega)]
theorem printS_no {t : Tr} (h : validS t ≠ 0) : printS t = ([], validS t) := if_pos h
/-- The closure that writes numbers. -/
theorem plist_c (l : List Int) (v : Value) (B b : Nat) (cur : List UInt8) (W0 w : World) (E : Env W0) (hv : RI W0 v l) (hb0 : Below W0.heap.size W0 w) (hB0 : W0.heap.size ≤ B) (hBw : B ≤ w.heap.size) (h : Bd B b cur w) (hl : l.length ≤ 1000) (hc : cur.length ≤ 100000) (hn : ∀ x ∈ l, 0 ≤ x ∧ x ≤ 31) :
    Calls Tryz.prog 34 #[v, .pointer (some ⟨b, 0, none⟩)] w fun e w' => e = .returned (.tuple #[]) ∧ Bd B b (cur ++ (numsP l ++ [10])) w' ∧ Below B w w' := by
  obtain ⟨p, c, rfl, hit⟩ := hv.out
  have HIT := Lib.hid hit
  have HN : Hid (∀ i, i < l.length → 0 ≤ l.getD i 0 ∧ l.getD i 0 ≤ 31) := Lib.hid (fun i hi => by rw [List.getD, List.getElem?_eq_getElem hi]; exact hn _ (List.getElem_mem hi))
  have AT := Lib.hid (fun i hi => numsP_at (l := l) (i := i) hi)
  have EN : Hid (numsP (l.take l.length) = numsP l) := Lib.hid (by rw [List.take_length])
  have NL : Hid (∀ i, (numsP (l.take i)).length ≤ 22000) := Lib.hid (fun i => by
    have h1 := numsP_len (l := l.take i) (fun x hx => by have := hn x (List.mem_of_mem_take hx); unfold i64; omega)
    have h2 : (l.take i).length ≤ 1000 := by rw [List.length_take]; omega
    omega)
  have ST : Hid (Bd B b (cur ++ numsP (l.take 0)) w) := Lib.hid (by rw [List.take_zero, numsP_nil, List.append_nil]; exact h)
  have HB0 := Lib.hid hb0
  have HBW := Lib.hid hBw
  have HB00 := Lib.hid hB0
  have IT := Lib.hid (fun (x : Int) w' (hx : 0 ≤ x ∧ x ≤ 31) (hb : Below W0.heap.size W0 w') => itoa_c x (by omega) (by omega) w' (E.below hb))
  have IL := Lib.hid (fun (x : Int) (hx : 0 ≤ x ∧ x ≤ 31) => Lib.itoa_length_le x (by omega) (by omega))
  have hli : (l.length : Int) ≤ 1000 := by omega
  have RB := Lib.hid (Below.refl B w)
  clear hit hv h hn hb0 hB0 hBw E
  go_enter Tryz.func34, Tryz.ntmps34
  go_wp2_with fail
  go_loopw [7] (fun iv wr => ∃ i : Nat, iv = .int .i64 i ∧ i ≤ l.length ∧ Hid (Bd B b (cur ++ numsP (l.take i)) wr) ∧ Hid (Below B w wr)) (fun iv _ => l.length - (intOf iv).toNat)
  case atStart => exact ⟨0, by go_num, Nat.zero_le _, ST, RB⟩
  case round =>
    obtain ⟨i, rfl, hi, hbd, hbe⟩ := hrel
    have hii : (i : Int) ≤ 1000 := by omega
    have BW0 := Lib.hid (HB0.out.trans (hbe.out.mono HB00.out))
    have SZ := Lib.hid (Nat.le_trans HBW.out hbe.out.size)
    by_cases hlt : i < l.length
    · have hlt' : (i : Int) < (l.length : Int) := by omega
      have hi0 : (0 : Int) ≤ (i : Int) := by omega
      have hi1 : i + 1 ≤ l.length := hlt
      obtain ⟨b', o', rfl, hbl, g0⟩ := HIT.out i hlt
      have g := (BW0.out.cell (p := ⟨b', o' + i, none⟩) hbl).trans g0
      have ATi := Lib.hid (AT.out i hlt)
      have NLi := NL.out i
      have ITx := Lib.hid (IT.out _ wr (HN.out i hlt) BW0.out)
      have ILx := IL.out _ (HN.out i hlt)
      generalize l.getD i 0 = x at *
      have hz := cons_strJ 32 (Lib.itoa x)
      generalize Lib.itoa x = ds at *
      have hld : ¬ 9223372036854775807 < 1 + ds.length := by omega
      have BN : Hid ((cur ++ numsP (l.take i)).length + (32 :: ds).length ≤ 1000000000) := Lib.hid (by simp; omega)
      clear hlt g0
      go_wp2_with (first | (go_at_call 36; refine ITx.out.mono ?_; rintro e w2 ⟨rfl, hb2⟩; have BD2 := Lib.hid (hbd.out.below hb2); have B2 := Lib.hid (hbe.out.trans (hb2.mono SZ.out)); have SZ2 := Lib.hid (Nat.le_trans SZ.out hb2.size)) | (go_at_call 35; refine (bwrite_c B b _ (32 :: ds) _ BD2.out BN.out SZ2.out).mono ?_; rintro e w3 ⟨rfl, bd3, hb3, _⟩; have BD3 := Lib.hid bd3; have B3 := Lib.hid hb3))
      go_roundw
      case rel => exact ⟨i + 1, by go_num, hi1, Lib.hid (by rw [ATi.out, ← List.append_assoc]; exact BD3.out), Lib.hid (B2.out.trans B3.out)⟩
      case measure => show l.length - ((i : Int) + 1).toNat < l.length - ((i : Int)).toNat; omega
    · obtain rfl : i = l.length := by omega
      have hge : ¬ (l.length : Int) < (l.length : Int) := by omega
      have BN : Hid ((cur ++ numsP (l.take l.length)).length + [10].length ≤ 1000000000) := Lib.hid (by have := NL.out l.length; simp at this ⊢; omega)
      clear hlt
      go_wp2_with (go_at_call 35; refine (bwrite_c B b _ [10] _ hbd.out BN.out SZ.out).mono ?_; rintro e w3 ⟨rfl, bd3, hb3, _⟩; have BD3 := Lib.hid bd3; have B3 := Lib.hid hb3)
      go_end0
      exact ⟨rfl, by have := BD3.out; rw [EN.out, List.append_assoc] at this; exact this, hbe.out.trans B3.out⟩
end Go.Proofs.YtophilmjfdhhaaaGreatDoor
namespace Go.Proofs.YtophilmjfdhhaaaGreatDoor
open Go Go.RowKit Go.Shelf Go.Sort
set_option linter.unusedVariables false
set_option linter.unusedSimpArgs false
set_option maxRecDepth 100000
set_option maxHeartbeats 8000000

abbrev pitObj (nm : List UInt8) (par q p : Int) (u : Value) : Obj := .cells #[str nm, .int .i64 par, .int .i64 q, .int .i64 p, u] 45
abbrev bldObj : Obj := .cells #[.pointer none, .slice none 0 0] 83
/-- A region that draws its order, with a tail that comes last; the calls of its head make memory. -/
theorem region_below_tailJ {P : Program} {id : Nat} {Q : Exit → Act → World → Prop} {a : Act} {w : World} {l : List Oper} (n : Nat) (hm : P.follows .mixedOrders = true) (hB : Region.lexTailB .any l.toArray n = true)
    (h : wpQuiet P l.toArray (fun w' => ∃ p : Regrown, w' = grow (redrawn w p.d) p.os) (fun a' => ∀ w', (∃ p : Regrown, w' = grow (redrawn w p.d) p.os) → wpList P l.toArray Q (l.drop n) a' w') (l.take n) a) : (Code.region id l.toArray true).wp P Q a w :=
  region_quiet_tail (C := fun w' => ∃ p : Regrown, w' = grow (redrawn w p.d) p.os) n hm hB ⟨⟨w.drawn + 1, #[]⟩, by rw [grow_empty]; rfl⟩ h
theorem print_c (t : Tr) (v1 v2 : Value) (W : World) (E : Env W) (h1 : RT W v1 t.items) (h2 : RI W v2 t.slack) (hl : t.items.length ≤ 1000000000) (hs : t.slack.length ≤ 140737488355328) (hn : ∀ x ∈ t.items, x.nm.length ≤ 140737488355328) (hp : ∀ x ∈ t.items, x.pr.length ≤ 140737488355328) :
    Calls Tryz.prog 19 #[.agg #[v1, v2]] W fun e w' => e = .returned (.tuple #[str (printS t).1, errOf (printS t).2]) ∧ Below W.heap.size W w' := by
  have hmf : ∀ (fn : Fn) (first cap : Array Value) (w : World), (Instr.makeFunc fn first cap).run Tryz.prog w = .ok (.func fn first cap) w := fun _ _ _ _ => rfl
  obtain ⟨p1, c1, rfl, _, _, hit⟩ := h1.out
  obtain ⟨p2, c2, rfl⟩ := RI_form h2
  obtain ⟨w0, hw0⟩ : ∃ w0, w0 = W.alloc (trObj (.slice p1 t.items.length c1) (.slice p2 t.slack.length c2)) := ⟨_, rfl⟩
  have b0 : Below W.heap.size W w0 := by rw [hw0]; exact (Below.refl _ _).alloc (Nat.le_refl _) _
  have CC : w0.heap[W.heap.size]? = some (trObj (.slice p1 t.items.length c1) (.slice p2 t.slack.length c2)) := by rw [hw0]; exact new_blk _
  have VC := Lib.hid (valid25_c t _ _ w0 (h1.below b0) (h2.below b0) hl hs hn hp)
  have HIT := Lib.hid hit
  have HW := Lib.hid hw0
  have B0 := Lib.hid b0
  have HC := Lib.hid CC
  have FE : Hid (validS t ≠ 0 → printS t = ([], validS t)) := Lib.hid (fun h => printS_no h)
  have FO : Hid (validS t = 0 → printS t = (textP t, 0)) := Lib.hid (fun h => printS_ok h)
  have VI := Lib.hid (fun (h : validS t = 0) i (hi : i < t.items.length) => valid_item h hi)
  have VOK := Lib.hid (fun h => valid_ok (t := t) h)
  have RLN := Lib.hid (fun (h : validS t = 0) k hk => rowsP_len h k hk)
  have HLN := Lib.hid (fun (h : validS t = 0) => headP_len h)
  have TLN := Lib.hid (fun (h : validS t = 0) => textP_len h)
  have WLF := Lib.hid (fun (h : validS t = 0) => formB_wl (valid_form h))
  have TXT : Hid (textP t = headP t.slack ++ rowsP t.items t.items.length) := Lib.hid rfl
  have EE := Lib.hid (fun w (h : Below W.heap.size W w) => E.below h)
  have E0 := Lib.hid E
  have H1 := Lib.hid h1
  have H2 := Lib.hid h2
  have c0 := blk_cell (j := 0) (v := .slice p1 t.items.length c1) HC.out rfl
  have c1' := blk_cell (j := 1) (v := .slice p2 t.slack.length c2) HC.out rfl
  have hT0 : W.heap.size < w0.heap.size := blk_lt CC
  have hli : (t.items.length : Int) ≤ 1000000000 := by omega
  have hsi : (t.slack.length : Int) ≤ 140737488355328 := by omega
  generalize printS t = R at *
  generalize textP t = TX at *
  generalize validS t = V at *
  clear h1 h2 hw0 b0 CC hs hn hp E hit
  go_enter Tryz.func19, Tryz.ntmps19
  go_wp2_with fail
  rw [← HW.out]
  refine VC.out.mono ?_
  rintro e w1 ⟨rfl, hb1⟩
  have B1 := Lib.hid (B0.out.trans (hb1.mono B0.out.size))
  have CB1 := Lib.hid (blk_below HC.out hb1)
  clear hb1 VC
  by_cases hV : V = 0
  · rw [hV, errOf_zero]
    have HR := Lib.hid (FO.out hV)
    have OKI := Lib.hid (VI.out hV)
    have OK := Lib.hid (VOK.out hV)
    have RL := Lib.hid (RLN.out hV)
    have HL := Lib.hid (HLN.out hV)
    have TL := Lib.hid (TLN.out hV)
    have WF := Lib.hid (WLF.out hV)
    have LT1 : W.heap.size < w1.heap.size := blk_lt CB1.out
    have h63 := OK.out.2.1
    have h16 := OK.out.2.2.1
    obtain ⟨b, hb⟩ : ∃ b, b = w1.heap.size := ⟨_, rfl⟩
    obtain ⟨w2, hw2⟩ : ∃ w2, w2 = w1.alloc bldObj := ⟨_, rfl⟩
    have BD2 : Hid (Bd b b [] w2) := Lib.hid (by rw [hb, hw2]; exact Bd.new w1)
    have B2 : Hid (Below W.heap.size W w2) := Lib.hid (by rw [hw2]; exact B1.out.alloc B1.out.size _)
    have CB2 : Hid (w2.heap[W.heap.size]? = some (trObj (.slice p1 t.items.length c1) (.slice p2 t.slack.length c2))) := Lib.hid (by rw [hw2]; exact blk_alloc CB1.out _)
    have SZ2 : Hid (b ≤ w2.heap.size) := Lib.hid (by rw [hw2, hb]; simp)
    have HW2 := Lib.hid hw2
    have HB := Lib.hid hb
    have hTb : W.heap.size < b := by rw [hb]; exact LT1
    have HTB := Lib.hid hTb
    have a0 := blk_cell (j := 0) (v := .slice p1 t.items.length c1) CB2.out rfl
    have a1 := blk_cell (j := 1) (v := .slice p2 t.slack.length c2) CB2.out rfl
    have LT2 : W.heap.size < w2.heap.size := blk_lt CB2.out
    have RB2 := Lib.hid (Below.refl b w2)
    clear hV FE FO VI VOK RLN HLN TLN WLF c0 c1' hw2 hb hTb
    go_upto_region 6 with fail
    rw [← HW2.out]
    simp only [← HB.out]
    go_upto_if 18 with (fail)
    go_cut [5] (fun s w => ∃ wx : World, wx = w ∧ s = .pointer (some ⟨b, 0, none⟩) ∧ Hid (Bd b b (headP t.slack) w) ∧ Hid (Below b w2 w))
    case first =>
      by_cases hsl : 0 < t.slack.length
      · have hsl' : (0 : Int) < (t.slack.length : Int) := by omega
        have hsd : decide (0 < t.slack.length) = true := decide_eq_true hsl
        have HP : Hid (headP t.slack = ([] ++ wSlk) ++ (numsP t.slack ++ [10])) := Lib.hid (by unfold headP; rw [if_neg (by intro h; rw [h] at hsl; cases hsl)]; simp)
        have BN : Hid (([] : List UInt8).length + wSlk.length ≤ 1000000000) := Lib.hid (by decide)
        have W5 := Lib.hid (bwrite_c b b [] wSlk w2 BD2.out BN.out SZ2.out)
        have PLs : Hid (∀ w cur, Bd b b cur w → Below b w2 w → cur.length ≤ 100000 → Calls Tryz.prog 34 #[.slice p2 t.slack.length c2, .pointer (some ⟨b, 0, none⟩)] w fun e w' => e = .returned (.tuple #[]) ∧ Bd b b (cur ++ (numsP t.slack ++ [10])) w' ∧ Below b w w') := Lib.hid (fun w cur h hb hc => plist_c t.slack _ b b cur W w E0.out H2.out (B2.out.trans (hb.mono (Nat.le_of_lt HTB.out))) (Nat.le_of_lt HTB.out) (Nat.le_trans SZ2.out hb.size) h (by omega) hc (prOk_mem OK.out.2.2.2.1))
        have HLT := HTB.out
        clear hsl
        go_wp2_with (first | (go_at_call 35; refine W5.out.mono ?_; rintro e w3 ⟨rfl, bd3, hb3, _⟩; have BD3 := Lib.hid bd3; have B3 := Lib.hid hb3; have a13 := (hb3.cell (p := ⟨W.heap.size, 1, none⟩) HLT).trans a1) | (go_at_call 34; refine (PLs.out _ _ BD3.out B3.out (by decide)).mono ?_; rintro e w4 ⟨rfl, bd4, hb4⟩; have BD4 := Lib.hid bd4; have B4 := Lib.hid hb4))
        go_meet
        exact ⟨_, rfl, rfl, Lib.hid (by rw [HP.out]; exact BD4.out), Lib.hid (B3.out.trans B4.out)⟩
      · have hsl' : ¬ (0 : Int) < (t.slack.length : Int) := by omega
        have hsd : decide (0 < t.slack.length) = false := decide_eq_false hsl
        have HP : Hid (headP t.slack = []) := Lib.hid (by unfold headP; rw [if_pos (List.eq_nil_of_length_eq_zero (by omega))])
        clear hsl
        go_wp2_with fail
        go_meet
        exact ⟨_, rfl, rfl, Lib.hid (by rw [HP.out]; exact BD2.out), RB2⟩
    case rest =>
      obtain ⟨w5, rfl, rfl, bd5, hb5⟩ := hcut
      have CB5 := Lib.hid ((hb5.out.block _ HTB.out).trans CB2.out)
      have x0 := blk_cell (j := 0) (v := .slice p1 t.items.length c1) CB5.out rfl
      have LT5 : W.heap.size < w5.heap.size := blk_lt CB5.out
      have HD0 : Hid (Bd b b (headP t.slack ++ rowsP t.items 0) w5) := Lib.hid (by have := bd5.out; simpa [rowsP] using this)
      clear a0 a1
      go_wp2_with fail
      go_loopw [27] (fun iv wr => ∃ i : Nat, iv = .int .i64 i ∧ i ≤ t.items.length ∧ Hid (Bd b b (headP t.slack ++ rowsP t.items i) wr) ∧ Hid (Below b w2 wr)) (fun iv _ => t.items.length - (intOf iv).toNat)
      case atStart => exact ⟨0, by go_num, Nat.zero_le _, HD0, hb5⟩
      case round =>
        obtain ⟨i, rfl, hi, hbd, hbe⟩ := hrel
        have hii : (i : Int) ≤ 63 := by omega
        have SZr := Lib.hid (Nat.le_trans SZ2.out hbe.out.size)
        have BWr := Lib.hid (B2.out.trans (hbe.out.mono (Nat.le_of_lt HTB.out)))
        by_cases hlt : i < t.items.length
        · have hlt' : (i : Int) < (t.items.length : Int) := by omega
          have hi0 : (0 : Int) ≤ (i : Int) := by omega
          have hi1 : i + 1 ≤ t.items.length := hlt
          obtain ⟨bi, oi, rfl, hbi, hx⟩ := HIT.out (by omega)
          obtain ⟨y0', y1', y2', y3', z, y4', hz⟩ := hx i hlt
          obtain ⟨az, cz, rfl⟩ := RI_form hz
          have hbiw : bi < wr.heap.size := Nat.lt_of_lt_of_le hbi BWr.out.size
          have y0 := (BWr.out.cell (p := ⟨bi, oi + i * 5, none⟩) hbi).trans y0'
          have y1 := (BWr.out.cell (p := ⟨bi, oi + i * 5 + 1, none⟩) hbi).trans y1'
          have y2 := (BWr.out.cell (p := ⟨bi, oi + i * 5 + 2, none⟩) hbi).trans y2'
          have y3 := (BWr.out.cell (p := ⟨bi, oi + i * 5 + 3, none⟩) hbi).trans y3'
          have y4 := (BWr.out.cell (p := ⟨bi, oi + i * 5 + 4, none⟩) hbi).trans y4'
          have RZ := Lib.hid hz
          have oki := OKI.out i hlt
          have hq := oki.q
          have hpv := oki.p
          have hpr8 := oki.pr
          have hprb := Lib.hid oki.prb
          have hdep := oki.dep
          have hnm := oki.nm
          have RSi : Hid (rowsP t.items (i + 1) = rowsP t.items i ++ (bodyP (depS t.items i) (t.items.getD i default) ++ tailP (t.items.getD i default).pr)) := Lib.hid (rowsP_succ _ _)
          have DEP := Lib.hid (fun w (hb : Below W.heap.size W w) => depth_c t.items _ (.slice p2 t.slack.length c2) (i : Int) w (H1.out.below hb) WF.out (by omega) (by omega) (by omega))
          have HLi := HL.out
          have RLi := RL.out i (by omega)
          generalize depS t.items i = dd at *
          generalize t.items.getD i default = x at *
          clear oki hx hz y0' y1' y2' y3' y4' hlt
          go_upto_region 11 with fail
          go_cut [7, 8] (fun s7 s8 w => ∃ (wx : World) (X : Nat), wx = w ∧ s7 = .int .i64 i ∧ s8 = .pointer (some ⟨X, 0, none⟩) ∧ Hid (w.heap[X]? = some (pitObj x.nm x.par x.q x.p (.slice az x.pr.length cz))) ∧ Hid (Below wr.heap.size wr w))
          case first =>
            go_wp2_with fail
            go_meet
            exact ⟨_, wr.heap.size, rfl, rfl, rfl, Lib.hid (new_blk _), Lib.hid ((Below.refl _ _).alloc (Nat.le_refl _) _)⟩
          case rest =>
            obtain ⟨w7, X, rfl, rfl, rfl, hxb, hb7⟩ := hcut
            have B7 := Lib.hid (hbe.out.trans (hb7.out.mono SZr.out))
            have BD7 := Lib.hid (hbd.out.below hb7.out)
            have CB7 := Lib.hid ((B7.out.block _ HTB.out).trans CB2.out)
            have BW7 := Lib.hid (B2.out.trans (B7.out.mono (Nat.le_of_lt HTB.out)))
            have k0 : ∀ d os, (grow (redrawn w7 d) os).cell? ⟨W.heap.size, 0, none⟩ = some (.slice (some ⟨bi, oi, none⟩) t.items.length c1) := fun d os => cell_regrown (two_a CB7.out) d os
            have k1 : ∀ d os, (grow (redrawn w7 d) os).cell? ⟨W.heap.size, 1, none⟩ = some (.slice p2 t.slack.length c2) := fun d os => cell_regrown (two_b CB7.out) d os
            have kx0 : ∀ d os, (grow (redrawn w7 d) os).cell? ⟨X, 0, none⟩ = some (str x.nm) := fun d os => cell_regrown (blk_cell hxb.out rfl) d os
            have kx2 : ∀ d os, (grow (redrawn w7 d) os).cell? ⟨X, 2, none⟩ = some (.int .i64 x.q) := fun d os => cell_regrown (blk_cell hxb.out rfl) d os
            have kx3 : ∀ d os, (grow (redrawn w7 d) os).cell? ⟨X, 3, none⟩ = some (.int .i64 x.p) := fun d os => cell_regrown (blk_cell hxb.out rfl) d os
            have D0 := Lib.hid (fun d os => Calls.regrown_of (DEP.out (grow (redrawn w7 d) os) (BW7.out.trans ((below_regrown w7 d os).mono BW7.out.size))))
            have hcast : ((dd - 1 : Nat) : Int) = (dd : Int) - 1 := by omega
            have D1 := Lib.hid (fun d os => Calls.regrown_of (by have := rep2 (dd - 1) (by omega) (grow (redrawn w7 d) os); rw [hcast] at this; exact this))
            have D2 := Lib.hid (fun d os => Calls.regrown_of (itoa_c x.q (by omega) (by omega) _ (EE.out _ (BW7.out.trans ((below_regrown w7 d os).mono BW7.out.size)))))
            have D3 := Lib.hid (fun d os => Calls.regrown_of (itoa_c x.p (by omega) (by omega) _ (EE.out _ (BW7.out.trans ((below_regrown w7 d os).mono BW7.out.size)))))
            have L2 := Lib.itoa_length_le x.q (by omega) (by omega)
            have L3 := Lib.itoa_length_le x.p (by omega) (by omega)
            have BP : Hid (bodyP dd x = List.replicate (2 * (dd - 1)) 32 ++ x.nm ++ [32] ++ Lib.itoa x.q ++ [47] ++ Lib.itoa x.p) := Lib.hid rfl
            have LR : (List.replicate (2 * (dd - 1)) (32 : UInt8)).length ≤ 14 := by simp; omega
            generalize List.replicate (2 * (dd - 1)) (32 : UInt8) = r at *
            generalize Lib.itoa x.q = A at *
            generalize Lib.itoa x.p = C at *
            have z1 := app_strJ r x.nm
            have z2 : (⟨(r ++ x.nm).toArray⟩ : ByteArray) ++ ⟨#[32]⟩ = ⟨(r ++ x.nm ++ [32]).toArray⟩ := app_strJ _ [32]
            have z3 := app_strJ (r ++ x.nm ++ [32]) A
            have z4 : (⟨(r ++ x.nm ++ [32] ++ A).toArray⟩ : ByteArray) ++ ⟨#[47]⟩ = ⟨(r ++ x.nm ++ [32] ++ A ++ [47]).toArray⟩ := app_strJ _ [47]
            have z5 := app_strJ (r ++ x.nm ++ [32] ++ A ++ [47]) C
            have l1 : (r ++ x.nm).length ≤ 46 := by simp; omega
            have l2 : (r ++ x.nm ++ [32]).length ≤ 47 := by simp; omega
            have l3 : (r ++ x.nm ++ [32] ++ A).length ≤ 68 := by simp; omega
            have l4 : (r ++ x.nm ++ [32] ++ A ++ [47]).length ≤ 69 := by simp; omega
            have l5 : (r ++ x.nm ++ [32] ++ A ++ [47] ++ C).length ≤ 90 := by simp; omega
            generalize r ++ x.nm ++ [32] ++ A ++ [47] ++ C = m5 at *
            generalize r ++ x.nm ++ [32] ++ A ++ [47] = m4 at *
            generalize r ++ x.nm ++ [32] ++ A = m3 at *
            generalize r ++ x.nm ++ [32] = m2 at *
            generalize r ++ x.nm = m1 at *
            have n1 : ¬ 9223372036854775807 < r.length + x.nm.length := by omega
            have n2 : ¬ 9223372036854775807 < m1.length + 1 := by omega
            have n3 : ¬ 9223372036854775807 < m2.length + A.length := by omega
            have n4 : ¬ 9223372036854775807 < m3.length + 1 := by omega
            have n5 : ¬ 9223372036854775807 < m4.length + C.length := by omega
            have L5 := Lib.hid l5
            have HRL := Lib.hid RLi
            have HHL := Lib.hid HLi
            clear l1 l2 l3 l4 l5 LR L2 L3 hcast y0 y1 y2 y3 y4 RLi HLi
            have hwr : IntKind.i64.wrap ((dd : Int) - 1) = (dd : Int) - 1 := IntWalk.i64_in _ (by omega)
            go_upto_region 12 with fail
            refine region_below_tailJ 20 (by kernel_rfl) (by kernel_rfl) ?_
            repeat (quiet_step (first | with_reducible exact D0.out _ _ | with_reducible exact D1.out _ _ | with_reducible exact D2.out _ _ | with_reducible exact D3.out _ _))
            refine wpQuiet_nil ?_
            intro _ hw'
            obtain ⟨⟨dq, osq⟩, rfl⟩ := hw'
            have SZ7 := Lib.hid (Nat.le_trans SZr.out hb7.out.size)
            have B78 := Lib.hid (below_regrown w7 dq osq)
            have B8 := Lib.hid (B7.out.trans (B78.out.mono SZ7.out))
            have BD8 := Lib.hid (BD7.out.below B78.out)
            have XB8 := Lib.hid (blk_below hxb.out B78.out)
            have SZ8 := Lib.hid (Nat.le_trans SZ7.out B78.out.size)
            generalize grow (redrawn w7 dq) osq = w8 at *
            have LC : Hid ((headP t.slack ++ rowsP t.items i).length ≤ 20000) := Lib.hid (by have h1 := HRL.out; have h2 := HHL.out; rw [List.length_append]; omega)
            have WS8 := Lib.hid (bwrite_c b b (headP t.slack ++ rowsP t.items i) m5 w8 BD8.out (by have := LC.out; have := L5.out; omega) SZ8.out)
            simp only [List.drop_succ_cons, List.drop_zero]
            clear k0 k1 kx0 kx2 kx3
            go_upto_if 56 with (go_at_call 35; refine WS8.out.mono ?_; rintro e w9 ⟨rfl, bd9, hb9, kp9⟩; have BD9 := Lib.hid bd9; have B9 := Lib.hid (B8.out.trans hb9); have SZ9 := Lib.hid (Nat.le_trans SZ8.out hb9.size); have XB9 := Lib.hid (kp9 _ _ _ _ XB8.out (by decide) (by decide)); have xc4 := blk_cell (j := 4) (v := .slice az x.pr.length cz) XB9.out rfl)
            obtain ⟨TS, hTS⟩ : ∃ TS, TS = if x.pr = [] then [] else wTsk := ⟨_, rfl⟩
            have HTS := Lib.hid hTS
            clear hTS
            have hpri : (x.pr.length : Int) ≤ 8 := by omega
            go_cut [5] (fun s w => ∃ wx : World, wx = w ∧ s = .pointer (some ⟨b, 0, none⟩) ∧ Hid (Bd b b (headP t.slack ++ rowsP t.items i ++ m5 ++ TS) w) ∧ Hid (Below b w2 w) ∧ Hid (w.heap[X]? = some (pitObj x.nm x.par x.q x.p (.slice az x.pr.length cz))) ∧ Hid (b ≤ w.heap.size))
            case first =>
              by_cases hpl : 0 < x.pr.length
              · have hpl' : (0 : Int) < (x.pr.length : Int) := by omega
                have hpd : decide (0 < x.pr.length) = true := decide_eq_true hpl
                have HT : Hid (TS = wTsk) := Lib.hid (by rw [HTS.out, if_neg (by intro h; rw [h] at hpl; cases hpl)])
                have WS9 := Lib.hid (bwrite_c b b _ wTsk w9 BD9.out (by have := LC.out; have := L5.out; rw [List.length_append]; simp at *; omega) SZ9.out)
                clear hpl
                go_wp2_with (go_at_call 35; refine WS9.out.mono ?_; rintro e w10 ⟨rfl, bd10, hb10, kp10⟩; have BD10 := Lib.hid bd10; have B10 := Lib.hid (B9.out.trans hb10); have SZ10 := Lib.hid (Nat.le_trans SZ9.out hb10.size); have XB10 := Lib.hid (kp10 _ _ _ _ XB9.out (by decide) (by decide)))
                go_meet
                exact ⟨_, rfl, rfl, Lib.hid (by rw [HT.out]; exact BD10.out), B10, XB10, SZ10⟩
              · have hpl' : ¬ (0 : Int) < (x.pr.length : Int) := by omega
                have hpd : decide (0 < x.pr.length) = false := decide_eq_false hpl
                have HT : Hid (TS = []) := Lib.hid (by rw [HTS.out, if_pos (List.eq_nil_of_length_eq_zero (by omega))])
                clear hpl
                go_wp2_with fail
                go_meet
                exact ⟨_, rfl, rfl, Lib.hid (by rw [HT.out, List.append_nil]; exact BD9.out), B9, XB9, SZ9⟩
            case rest =>
              obtain ⟨w10, rfl, rfl, bd10, hb10, xb10, sz10⟩ := hcut
              have xd4 := blk_cell (j := 4) (v := .slice az x.pr.length cz) xb10.out rfl
              have PL := Lib.hid (plist_c x.pr _ b b _ W w10 E0.out RZ.out (B2.out.trans (hb10.out.mono (Nat.le_of_lt HTB.out))) (Nat.le_of_lt HTB.out) sz10.out bd10.out (by omega) (by
                have h1 := LC.out
                have h2 := L5.out
                have h3 : TS.length ≤ 6 := by rw [HTS.out]; split <;> simp
                rw [List.length_append, List.length_append]
                omega) hprb.out)
              have NX : Hid (headP t.slack ++ rowsP t.items (i + 1) = headP t.slack ++ rowsP t.items i ++ m5 ++ TS ++ (numsP x.pr ++ [10])) := Lib.hid (by
                rw [RSi.out, BP.out]
                unfold tailP
                rw [← HTS.out]
                simp only [List.append_assoc])
              clear xc4
              go_wp2_with (go_at_call 34; refine PL.out.mono ?_; rintro e w11 ⟨rfl, bd11, hb11⟩; have BD11 := Lib.hid bd11; have B11 := Lib.hid (hb10.out.trans hb11))
              go_roundw
              case rel => exact ⟨i + 1, by go_num, hi1, Lib.hid (by rw [NX.out]; exact BD11.out), B11⟩
              case measure => show t.items.length - ((i : Int) + 1).toNat < t.items.length - ((i : Int)).toNat; omega
        · obtain rfl : i = t.items.length := by omega
          have hge : ¬ (t.items.length : Int) < (t.items.length : Int) := by omega
          have hbx : Hid (Bd b b TX wr) := Lib.hid (by rw [TXT.out]; exact hbd.out)
          have BL := Lib.hid (blen_c b b TX wr hbx.out)
          have BS := Lib.hid (bstring_c b b TX wr hbx.out SZr.out)
          have hTL := TL.out
          have hnl : ¬ (1048576 : Int) < (TX.length : Int) := by omega
          have hnd : decide (1048576 < TX.length) = false := decide_eq_false (by omega)
          clear hlt
          go_wp2_with (first | (go_at_call 39; refine BL.out.mono ?_; rintro e w3 ⟨rfl, rfl⟩) | (go_at_call 40; refine BS.out.mono ?_; rintro e w4 ⟨rfl, hb4⟩; have B4 := Lib.hid hb4))
          go_ret2
          exact ⟨by rw [HR.out]; rfl, BWr.out.trans (B4.out.mono (Nat.le_of_lt HTB.out))⟩
  · rw [errOf_ne hV]
    have HR := Lib.hid (FE.out hV)
    have HE := Lib.hid (errOf_ne hV)
    clear hV FE FO
    go_wp2_with fail
    go_ret2
    exact ⟨by rw [HR.out]; simp only; rw [HE.out]; rfl, B1.out⟩
end Go.Proofs.YtophilmjfdhhaaaGreatDoor
namespace Go.Proofs.YtophilmjfdhhaaaGreatDoor
open Go Go.RowKit Go.Shelf Go.Sort
set_option linter.unusedVariables false
set_option linter.unusedSimpArgs false
set_option maxRecDepth 100000
set_option maxHeartbeats 8000000

/-- Bytes, as cells. -/
abbrev bcs (l : List UInt8) : List Value := (l.map (fun b => (b.toNat : Int))).map (Value.int .u8)
theorem nums_bytes (l : List UInt8) : strOfNums (l.map (fun b => (b.toNat : Int))) = ⟨l.toArray⟩ := by
  unfold strOfNums
  congr 1
  simp [Function.comp_def]
theorem strCells_b (s : ByteArray) : Lib.strCells s = bcs s.data.toList := by
  unfold Lib.strCells bcs
  simp [Function.comp_def]
/-- A row of bytes of the call's own. -/
def OB (w : World) (B : Nat) (v : Value) (l : List UInt8) : Prop := w.ownsRow B 5 1 v l.length (bcs l)
theorem OB.form {w : World} {B : Nat} {v : Value} {l : List UInt8} (h : OB w B v l) : ∃ p c, v = .slice p l.length c := own_form1 h
theorem OB.form3 {w : World} {B : Nat} {v : Value} {l : List UInt8} (h : OB w B v l) : ∃ p n c, v = .slice p n c := by
  obtain ⟨p, c, hv⟩ := h.form
  exact ⟨p, _, c, hv⟩
theorem OB.below {w w' : World} {B : Nat} {v : Value} {l : List UInt8} (h : OB w B v l) (hb : Below w.heap.size w w') : OB w' B v l := own_below1 h hb
theorem OB.conv {w : World} {B : Nat} {v : Value} {l : List UInt8} (h : OB w B v l) : (convert 81 9 v).run Tryz.prog w = .ok (str l) w := by
  obtain ⟨hl, h⟩ := h
  rcases h with ⟨rfl, h0⟩ | ⟨g, cap, cur, rfl, hg, hh, hn, hc, hs, ht⟩
  · obtain rfl : l = [] := List.eq_nil_of_length_eq_zero h0
    exact run_convert_bytes_nil w _ 5 Tryz.underlying81 Tryz.underlying5 0 0 _ Tryz.underlying9
  · rw [show str l = Value.string (strOfNums (l.map (fun b => (b.toNat : Int)))) by rw [nums_bytes]]
    refine run_convert_bytes_arg w _ 5 Tryz.underlying81 Tryz.underlying5 g 0 l.length cap _ (by simp) (fun i hi => ?_) _ Tryz.underlying9
    have hi' : i < l.length := by simpa using hi
    have e1 : cur.toList[i]? = (bcs l)[i]? := by
      rw [← ht, List.getElem?_take, if_pos (by omega)]
    simp only [World.cell?, hh]
    have e2 : (bcs l)[i]? = some (.int .u8 ((l.map (fun b => (b.toNat : Int))).getD i 0)) := by
      rw [List.getElem?_map, List.getD, List.getElem?_eq_getElem (by simpa using hi')]; rfl
    rw [e2] at e1
    simpa using e1
/-- 'append(b, s...)', s a string. -/
theorem appendB {ops : Array Oper} {rest : List Oper} {o : Oper} {a : Act} {Q : Exit → Act → World → Prop} {W w0 : World} (hgd : o.guard = none) (s x : Operand)
    (ho : o.op = .call { callee := .builtin .append, args := #[s, x], argTypes := #[81, 9] })
    (B : Nat) (v : Value) (l : List UInt8) (hs : a.eval s = v) (hown : OB w0 B v l) (t : List UInt8) (hx : a.eval x = .string ⟨t.toArray⟩)
    (hlen : l.length + t.length ≤ 1000000000) (hbase : B ≤ w0.heap.size) (hb : Below B W w0)
    (h : ∀ v' w', OB w' B v' (l ++ t) → Below B W w' → Kp w0 w' → wpList Tryz.prog ops Q rest (a.put o.dst v') w') :
    wpList Tryz.prog ops Q (o :: rest) a w0 := by
  obtain ⟨i0, hi, hz0, hz1, hz2⟩ := info_of1F Tryz.infoByteJ
  refine Lib.wpList_append_own_string _ hgd s x 81 9 ho B 5 i0 Tryz.underlying81 Tryz.underlying9 hi hz0 hz1 hz2 v l.length (bcs l) hs hown ⟨t.toArray⟩ hx (by rw [sz]; unfold maxLen; omega) (by rw [sz]; omega) hbase ?_
  intro v' w' h1 h2 _
  refine h v' w' ?_ (below_own hb hbase hown h2) ?_
  · unfold OB
    rw [strCells_b, sz] at h1
    have e : bcs (l ++ t) = bcs l ++ bcs t := by simp [bcs]
    rw [List.length_append, e]
    exact h1
  · intro k cs' T fr' hk g1 g2
    rw [h2.block k (blk_lt hk) (fun e => Lib.ownBlock_ne hown hk g2 e.symm)]
    exact hk
theorem rnums_c (l : List Int) (v : Value) (W : World) (hv : RI W v l) (hl : l.length ≤ 1000) (hn : ∀ x ∈ l, 0 ≤ x ∧ x ≤ 31) :
    Calls Tryz.prog 41 #[v] W fun e w' => e = .returned (str (numsP l)) ∧ Below W.heap.size W w' := by
  obtain ⟨p, c, rfl, hit⟩ := hv.out
  have HIT := Lib.hid hit
  have HN : Hid (∀ i, i < l.length → 0 ≤ l.getD i 0 ∧ l.getD i 0 ≤ 31) := Lib.hid (fun i hi => by rw [List.getD, List.getElem?_eq_getElem hi]; exact hn _ (List.getElem_mem hi))
  have AT := Lib.hid (fun i hi => numsP_at (l := l) (i := i) hi)
  have EN : Hid (numsP (l.take l.length) = numsP l) := Lib.hid (by rw [List.take_length])
  have NL : Hid (∀ i, (numsP (l.take i)).length ≤ 22000) := Lib.hid (fun i => by
    have h1 := numsP_len (l := l.take i) (fun x hx => by have := hn x (List.mem_of_mem_take hx); unfold i64; omega)
    have h2 : (l.take i).length ≤ 1000 := by rw [List.length_take]; omega
    omega)
  have DG := Lib.hid (fun (x : Int) w (hx : 0 ≤ x ∧ x ≤ 31) => rdig25_c x hx.1 (by omega) w)
  have IL := Lib.hid (fun (x : Int) (hx : 0 ≤ x ∧ x ≤ 31) => Lib.itoa_length_le x (by omega) (by omega))
  have ST : Hid (OB W W.heap.size (.slice none 0 0) (numsP (l.take 0))) := Lib.hid (World.ownsRow_nil _ _ _ _)
  have RB := Lib.hid (Below.refl W.heap.size W)
  have hli : (l.length : Int) ≤ 1000 := by omega
  clear hit hv hn
  go_enter Tryz.func41, Tryz.ntmps41
  go_wp2_with fail
  go_loopw [3, 4] (fun bv iv wr => ∃ i : Nat, iv = .int .i64 i ∧ i ≤ l.length ∧ Hid (OB wr W.heap.size bv (numsP (l.take i))) ∧ Hid (Below W.heap.size W wr)) (fun _ iv _ => l.length - (intOf iv).toNat)
  case atStart => exact ⟨0, by go_num, Nat.zero_le _, ST, RB⟩
  case round =>
    obtain ⟨i, rfl, hi, hob, hbe⟩ := hrel
    obtain ⟨pb, cb, rfl⟩ := hob.out.form
    have hii : (i : Int) ≤ 1000 := by omega
    by_cases hlt : i < l.length
    · have hlt' : (i : Int) < (l.length : Int) := by omega
      have hi0 : (0 : Int) ≤ (i : Int) := by omega
      have hi1 : i + 1 ≤ l.length := hlt
      obtain ⟨b', o', rfl, hbl, g0⟩ := HIT.out i hlt
      have g := (hbe.out.cell (p := ⟨b', o' + i, none⟩) hbl).trans g0
      have ATi := Lib.hid (AT.out i hlt)
      have NLi := NL.out i
      have DGx := Lib.hid (DG.out _ wr (HN.out i hlt))
      have ILx := IL.out _ (HN.out i hlt)
      generalize l.getD i 0 = x at *
      have hz := cons_strJ 32 (Lib.itoa x)
      generalize Lib.itoa x = ds at *
      have hld : ¬ 9223372036854775807 < 1 + ds.length := by omega
      have BN : Hid ((numsP (l.take i)).length + (32 :: ds).length ≤ 1000000000) := Lib.hid (by simp; omega)
      clear hlt g0
      go_wp2_with (first | (go_at_call 43; refine DGx.out.mono ?_; rintro e w2 ⟨rfl, hb2⟩; have OB2 := Lib.hid (hob.out.below hb2); have B2 := Lib.hid (hbe.out.trans (hb2.mono hbe.out.size))) | (at_builtin; refine appendB (W := W) rfl _ _ rfl W.heap.size _ _ rfl OB2.out (32 :: ds) rfl BN.out B2.out.size B2.out ?_; intro v3 w3 hob3 hb3 _; have OB3 := Lib.hid hob3; have B3 := Lib.hid hb3))
      go_roundw
      case rel => exact ⟨i + 1, by go_num, hi1, Lib.hid (by rw [ATi.out]; exact OB3.out), B3⟩
      case measure => show l.length - ((i : Int) + 1).toNat < l.length - ((i : Int)).toNat; omega
    · obtain rfl : i = l.length := by omega
      have hge : ¬ (l.length : Int) < (l.length : Int) := by omega
      have hcv := hob.out.conv
      rw [EN.out] at hcv
      clear hlt
      go_wp2_with fail
      go_ret
      exact ⟨rfl, hbe.out⟩
abbrev ritObj (nm : List UInt8) (par q p : Int) (u : Value) : Obj := .cells #[str nm, .int .i64 par, .int .i64 q, .int .i64 p, u] 73
abbrev rtrObjJ (v1 v2 : Value) : Obj := .cells #[v1, v2] 32
theorem replicate_two (k : Nat) (hk : 1 ≤ k) : List.replicate (2 * (k + 1 - 1)) (32 : UInt8) = List.replicate (2 * (k - 1)) 32 ++ [32, 32] := by
  rw [show 2 * (k + 1 - 1) = 2 * (k - 1) + 2 by omega, ← List.replicate_append_replicate]
  rfl
theorem rprint_c (t : Tr) (v1 v2 : Value) (W : World) (h1 : RT W v1 t.items) (h2 : RI W v2 t.slack) (hl : t.items.length ≤ 1000000000) (hs : t.slack.length ≤ 140737488355328) (hn : ∀ x ∈ t.items, x.nm.length ≤ 140737488355328) (hp : ∀ x ∈ t.items, x.pr.length ≤ 140737488355328) :
    Calls Tryz.prog 20 #[.agg #[v1, v2]] W fun e w' => e = .returned (.tuple #[str (printS t).1, .int .i64 (printS t).2]) ∧ Below W.heap.size W w' := by
  obtain ⟨j0, hj, hy0, hy1, hy2⟩ := info_of1F Tryz.infoByteJ
  obtain ⟨p1, c1, rfl, _, _, hit⟩ := h1.out
  obtain ⟨p2, c2, rfl⟩ := RI_form h2
  obtain ⟨w0, hw0⟩ : ∃ w0, w0 = W.alloc (rtrObjJ (.slice p1 t.items.length c1) (.slice p2 t.slack.length c2)) := ⟨_, rfl⟩
  have b0 : Below W.heap.size W w0 := by rw [hw0]; exact (Below.refl _ _).alloc (Nat.le_refl _) _
  have CC : w0.heap[W.heap.size]? = some (rtrObjJ (.slice p1 t.items.length c1) (.slice p2 t.slack.length c2)) := by rw [hw0]; exact new_blk _
  have VC := Lib.hid (rvalid25_c t _ _ w0 (h1.below b0) (h2.below b0) (by omega) hs hn hp)
  have HIT := Lib.hid hit
  have HW := Lib.hid hw0
  have B0 := Lib.hid b0
  have HC := Lib.hid CC
  have FE : Hid (validS t ≠ 0 → printS t = ([], validS t)) := Lib.hid (fun h => printS_no h)
  have FO : Hid (validS t = 0 → printS t = (textP t, 0)) := Lib.hid (fun h => printS_ok h)
  have VI := Lib.hid (fun (h : validS t = 0) i (hi : i < t.items.length) => valid_item h hi)
  have VOK := Lib.hid (fun h => valid_ok (t := t) h)
  have RLN := Lib.hid (fun (h : validS t = 0) k hk => rowsP_len h k hk)
  have HLN := Lib.hid (fun (h : validS t = 0) => headP_len h)
  have TLN := Lib.hid (fun (h : validS t = 0) => textP_len h)
  have WLF := Lib.hid (fun (h : validS t = 0) => formB_wl (valid_form h))
  have TXT : Hid (textP t = headP t.slack ++ rowsP t.items t.items.length) := Lib.hid rfl
  have H1 := Lib.hid h1
  have H2 := Lib.hid h2
  have c0 := blk_cell (j := 0) (v := .slice p1 t.items.length c1) HC.out rfl
  have c1' := blk_cell (j := 1) (v := .slice p2 t.slack.length c2) HC.out rfl
  have hT0 : W.heap.size < w0.heap.size := blk_lt CC
  have hli : (t.items.length : Int) ≤ 1000000000 := by omega
  have hsi : (t.slack.length : Int) ≤ 140737488355328 := by omega
  generalize printS t = R at *
  generalize textP t = TX at *
  generalize validS t = V at *
  clear h1 h2 hw0 b0 CC hs hn hp hit
  go_enter Tryz.func20, Tryz.ntmps20
  go_wp2_with fail
  rw [← HW.out]
  refine VC.out.mono ?_
  rintro e w1 ⟨rfl, hb1⟩
  have B1 := Lib.hid (B0.out.trans (hb1.mono B0.out.size))
  have CB1 := Lib.hid (blk_below HC.out hb1)
  clear hb1 VC
  by_cases hV : V = 0
  · have HR := Lib.hid (FO.out hV)
    have OKI := Lib.hid (VI.out hV)
    have OK := Lib.hid (VOK.out hV)
    have RL := Lib.hid (RLN.out hV)
    have HL := Lib.hid (HLN.out hV)
    have TL := Lib.hid (TLN.out hV)
    have WF := Lib.hid (WLF.out hV)
    have hv0 : (V == 0) = true := by simpa using hV
    have hv1 : (V != 0) = false := by simpa using hV
    have LT1 : W.heap.size < w1.heap.size := blk_lt CB1.out
    have HTB := Lib.hid LT1
    have h63 := OK.out.2.1
    have h16 := OK.out.2.2.1
    have a0 := blk_cell (j := 0) (v := .slice p1 t.items.length c1) CB1.out rfl
    have a1 := blk_cell (j := 1) (v := .slice p2 t.slack.length c2) CB1.out rfl
    have OB1 : Hid (OB w1 w1.heap.size (.slice none 0 0) []) := Lib.hid (World.ownsRow_nil _ _ _ _)
    have RB1 := Lib.hid (Below.refl w1.heap.size w1)
    clear hV FE FO VI VOK RLN HLN TLN WLF c0 c1'
    go_upto_if 17 with (fail)
    go_cut [5] (fun s w => ∃ (wx : World) (pb : Option Addr) (nb cb : Nat), wx = w ∧ s = .slice pb nb cb ∧ Hid (OB w w1.heap.size (.slice pb nb cb) (headP t.slack)) ∧ Hid (Below w1.heap.size w1 w))
    case first =>
      by_cases hsl : 0 < t.slack.length
      · have hsl' : (0 : Int) < (t.slack.length : Int) := by omega
        have hsd : decide (0 < t.slack.length) = true := decide_eq_true hsl
        have HPd : Hid (headP t.slack = [] ++ (wSlk ++ numsP t.slack ++ [10])) := Lib.hid (by unfold headP; rw [if_neg (by intro h; rw [h] at hsl; cases hsl)]; simp)
        have NS := Lib.hid (rnums_c t.slack _ w1 (H2.out.below B1.out) (by omega) (prOk_mem OK.out.2.2.2.1))
        have NLn := numsP_len (prOk_i64 OK.out.2.2.2.1)
        generalize numsP t.slack = ns at *
        have z1 : (⟨#[115, 108, 97, 99, 107]⟩ : ByteArray) ++ ⟨ns.toArray⟩ = ⟨(wSlk ++ ns).toArray⟩ := app_strJ wSlk ns
        have z2 : (⟨(wSlk ++ ns).toArray⟩ : ByteArray) ++ ⟨#[10]⟩ = ⟨(wSlk ++ ns ++ [10]).toArray⟩ := app_strJ _ [10]
        have l1 : (wSlk ++ ns).length ≤ 1000 := by simp; omega
        have l2 : (wSlk ++ ns ++ [10]).length ≤ 1000 := by simp; omega
        generalize wSlk ++ ns ++ [10] = m2 at *
        generalize wSlk ++ ns = m1 at *
        have n1 : ¬ 9223372036854775807 < 5 + ns.length := by omega
        have n2 : ¬ 9223372036854775807 < m1.length + 1 := by omega
        have BN : Hid (([] : List UInt8).length + m2.length ≤ 1000000000) := Lib.hid (by simp; omega)
        clear hsl NLn l1 l2
        go_wp2_with (first | (go_at_call 41; refine NS.out.mono ?_; rintro e w2 ⟨rfl, hb2⟩; have OB2 := Lib.hid (OB1.out.below hb2); have B2 := Lib.hid (RB1.out.trans hb2)) | (at_builtin; refine appendB (W := w1) rfl _ _ rfl w1.heap.size _ _ rfl OB2.out m2 rfl BN.out B2.out.size B2.out ?_; intro v3 w3 hob3 hb3 _; obtain ⟨a3, n3, k3, rfl⟩ := hob3.form3; have OB3 := Lib.hid hob3; have B3 := Lib.hid hb3))
        go_meet
        exact ⟨_, _, _, _, rfl, rfl, Lib.hid (by rw [HPd.out]; exact OB3.out), B3⟩
      · have hsl' : ¬ (0 : Int) < (t.slack.length : Int) := by omega
        have hsd : decide (0 < t.slack.length) = false := decide_eq_false hsl
        have HPd : Hid (headP t.slack = []) := Lib.hid (by unfold headP; rw [if_pos (List.eq_nil_of_length_eq_zero (by omega))])
        clear hsl
        go_wp2_with fail
        go_meet
        exact ⟨_, _, _, _, rfl, rfl, Lib.hid (by rw [HPd.out]; exact OB1.out), RB1⟩
    case rest =>
      obtain ⟨w5, pb5, nb5, cb5, rfl, rfl, ob5, hb5⟩ := hcut
      have OB50 : Hid (OB w5 w1.heap.size (.slice pb5 nb5 cb5) (headP t.slack ++ rowsP t.items 0)) := Lib.hid (by have := ob5.out; simpa [rowsP] using this)
      clear a0 a1
      go_wp2_with fail
      go_loopw [5, 6] (fun bv iv wr => ∃ i : Nat, iv = .int .i64 i ∧ i ≤ t.items.length ∧ Hid (OB wr w1.heap.size bv (headP t.slack ++ rowsP t.items i)) ∧ Hid (Below w1.heap.size w1 wr)) (fun _ iv _ => t.items.length - (intOf iv).toNat)
      case atStart => exact ⟨0, by go_num, Nat.zero_le _, OB50, hb5⟩
      case round =>
        obtain ⟨i, rfl, hi, hob, hbe⟩ := hrel
        obtain ⟨pb, cb, rfl⟩ := hob.out.form
        have hii : (i : Int) ≤ 63 := by omega
        have SZr := Lib.hid hbe.out.size
        have BWr := Lib.hid (B1.out.trans (hbe.out.mono (Nat.le_of_lt HTB.out)))
        have CBr := Lib.hid (blk_below CB1.out hbe.out)
        have g0 := blk_cell (j := 0) (v := .slice p1 t.items.length c1) CBr.out rfl
        have LTr : W.heap.size < wr.heap.size := blk_lt CBr.out
        by_cases hlt : i < t.items.length
        · have hlt' : (i : Int) < (t.items.length : Int) := by omega
          have hi0 : (0 : Int) ≤ (i : Int) := by omega
          have hi1 : i + 1 ≤ t.items.length := hlt
          obtain ⟨bi, oi, rfl, hbi, hx⟩ := HIT.out (by omega)
          obtain ⟨y0', y1', y2', y3', z, y4', hz⟩ := hx i hlt
          obtain ⟨az, cz, rfl⟩ := RI_form hz
          have hbiw : bi < wr.heap.size := Nat.lt_of_lt_of_le hbi BWr.out.size
          have y0 := (BWr.out.cell (p := ⟨bi, oi + i * 5, none⟩) hbi).trans y0'
          have y1 := (BWr.out.cell (p := ⟨bi, oi + i * 5 + 1, none⟩) hbi).trans y1'
          have y2 := (BWr.out.cell (p := ⟨bi, oi + i * 5 + 2, none⟩) hbi).trans y2'
          have y3 := (BWr.out.cell (p := ⟨bi, oi + i * 5 + 3, none⟩) hbi).trans y3'
          have y4 := (BWr.out.cell (p := ⟨bi, oi + i * 5 + 4, none⟩) hbi).trans y4'
          have RZ := Lib.hid hz
          have oki := OKI.out i hlt
          have hq := oki.q
          have hpv := oki.p
          have hpr8 := oki.pr
          have hprb := Lib.hid oki.prb
          have hdep := oki.dep
          have hnm := oki.nm
          have RSi : Hid (rowsP t.items (i + 1) = rowsP t.items i ++ (bodyP (depS t.items i) (t.items.getD i default) ++ tailP (t.items.getD i default).pr)) := Lib.hid (rowsP_succ _ _)
          have DEP := Lib.hid (fun w (hb : Below W.heap.size W w) => rdepth_c t.items _ (i : Int) w (H1.out.below hb) WF.out (by omega) (by omega) (by omega))
          have LC : Hid ((headP t.slack ++ rowsP t.items i).length ≤ 20000) := Lib.hid (by have h1 := HL.out; have h2 := RL.out i (by omega); rw [List.length_append]; omega)
          have NXT : Hid (headP t.slack ++ rowsP t.items (i + 1) = (headP t.slack ++ rowsP t.items i) ++ (bodyP (depS t.items i) (t.items.getD i default) ++ tailP (t.items.getD i default).pr)) := Lib.hid (by rw [RSi.out, List.append_assoc])
          generalize depS t.items i = dd at *
          generalize t.items.getD i default = x at *
          obtain ⟨nxt, hnxt⟩ : ∃ m, m = headP t.slack ++ rowsP t.items (i + 1) := ⟨_, rfl⟩
          rw [← hnxt] at NXT
          have HNX := Lib.hid hnxt
          generalize headP t.slack ++ rowsP t.items i = cur at *
          clear oki hx hz y0' y1' y2' y3' y4' hlt RSi hnxt
          go_upto_region 10 with fail
          go_cut [7] (fun s w => ∃ (wx : World) (X : Nat), wx = w ∧ s = .pointer (some ⟨X, 0, none⟩) ∧ Hid (w.heap[X]? = some (ritObj x.nm x.par x.q x.p (.slice az x.pr.length cz))) ∧ Hid (Below wr.heap.size wr w))
          case first =>
            go_wp2_with fail
            go_meet
            exact ⟨_, wr.heap.size, rfl, rfl, Lib.hid (new_blk _), Lib.hid ((Below.refl _ _).alloc (Nat.le_refl _) _)⟩
          case rest =>
            obtain ⟨w7, X, rfl, rfl, hxb, hb7⟩ := hcut
            have B7 := Lib.hid (hbe.out.trans (hb7.out.mono SZr.out))
            have OB7 : Hid (OB w7 w1.heap.size (.slice pb cur.length cb) (cur ++ List.replicate (2 * (1 - 1)) 32)) := Lib.hid (by have := hob.out.below hb7.out; simpa using this)
            have hddi : (dd : Int) ≤ 8 := by omega
            clear g0 y0 y1 y2 y3 y4
            go_wp2_with fail
            go_loopw [5, 8] (fun bv kv wr => ∃ k : Nat, kv = .int .i64 k ∧ 1 ≤ k ∧ k ≤ dd ∧ Hid (OB wr w1.heap.size bv (cur ++ List.replicate (2 * (k - 1)) 32)) ∧ Hid (Below w1.heap.size w1 wr) ∧ Hid (wr.heap[X]? = some (ritObj x.nm x.par x.q x.p (.slice az x.pr.length cz)))) (fun _ kv _ => dd - (intOf kv).toNat)
            case atStart => exact ⟨1, by go_num, Nat.le_refl _, hdep.1, OB7, B7, hxb⟩
            case round =>
              obtain ⟨k, rfl, hk1, hkd, hob2, hbe2, hxb2⟩ := hrel
              have hki : (k : Int) ≤ 8 := by omega
              have CBi := Lib.hid (blk_below CB1.out hbe2.out)
              have g1 := blk_cell (j := 0) (v := .slice (some ⟨bi, oi, none⟩) t.items.length c1) CBi.out rfl
              have LTi : W.heap.size < wr.heap.size := blk_lt CBi.out
              have BWi := Lib.hid (B1.out.trans (hbe2.out.mono (Nat.le_of_lt HTB.out)))
              have DEPi := Lib.hid (DEP.out wr BWi.out)
              have LRP : Hid ((cur ++ List.replicate (2 * (k - 1)) (32 : UInt8)).length ≤ 20014) := Lib.hid (by have := LC.out; rw [List.length_append, List.length_replicate]; omega)
              have RTW : Hid (k < dd → cur ++ List.replicate (2 * (k + 1 - 1)) (32 : UInt8) = (cur ++ List.replicate (2 * (k - 1)) 32) ++ [32, 32]) := Lib.hid (fun _ => by rw [replicate_two k hk1, List.append_assoc])
              have BPd : Hid (k = dd → cur ++ (bodyP dd x ++ tailP x.pr) = (cur ++ List.replicate (2 * (k - 1)) 32) ++ (x.nm ++ [32] ++ Lib.itoa x.q ++ [47] ++ Lib.itoa x.p) ++ (tailP x.pr)) := Lib.hid (fun h => by subst h; unfold bodyP; simp only [List.append_assoc])
              generalize cur ++ List.replicate (2 * (k - 1)) (32 : UInt8) = cr at *
              obtain ⟨pb2, cb2, rfl⟩ := hob2.out.form
              by_cases hkl : k < dd
              · have hkl' : (k : Int) < (dd : Int) := by omega
                have BN : Hid (cr.length + [32, 32].length ≤ 1000000000) := Lib.hid (by have := LRP.out; simp; omega)
                have RT2 := Lib.hid (RTW.out hkl)
                have hkl1 : k + 1 ≤ dd := hkl
                clear hkl
                go_wp2_with (first | (go_at_call 42; refine DEPi.out.mono ?_; rintro e w2 ⟨rfl, rfl⟩) | (at_builtin; refine appendB (W := w1) rfl _ _ rfl w1.heap.size _ _ rfl hob2.out [32, 32] rfl BN.out hbe2.out.size hbe2.out ?_; intro v3 w3 hob3 hb3 kp3; obtain ⟨a3, n3, k3, rfl⟩ := hob3.form3; have OB3 := Lib.hid hob3; have B3 := Lib.hid hb3; have XB3 := Lib.hid (kp3 _ _ _ _ hxb2.out (by decide) (by decide))))
                go_roundw
                case rel => exact ⟨k + 1, by go_num, by omega, hkl1, Lib.hid (by rw [RT2.out]; exact OB3.out), B3, XB3⟩
                case measure => show dd - ((k : Int) + 1).toNat < dd - ((k : Int)).toNat; omega
              · obtain rfl : k = dd := by omega
                have hge : ¬ (k : Int) < (k : Int) := by omega
                have BPe := Lib.hid (BPd.out rfl)
                clear hkl BPd RTW
                have L2 := Lib.itoa_length_le x.q (by omega) (by omega)
                have L3 := Lib.itoa_length_le x.p (by omega) (by omega)
                have D2 := Lib.hid (fun d os => Calls.regrown_of (rdig25_c x.q (by omega) (by omega) (grow (redrawn wr d) os)))
                have D3 := Lib.hid (fun d os => Calls.regrown_of (rdig25_c x.p (by omega) (by omega) (grow (redrawn wr d) os)))
                have kx0 : ∀ d os, (grow (redrawn wr d) os).cell? ⟨X, 0, none⟩ = some (str x.nm) := fun d os => cell_regrown (blk_cell hxb2.out rfl) d os
                have kx2 : ∀ d os, (grow (redrawn wr d) os).cell? ⟨X, 2, none⟩ = some (.int .i64 x.q) := fun d os => cell_regrown (blk_cell hxb2.out rfl) d os
                have kx3 : ∀ d os, (grow (redrawn wr d) os).cell? ⟨X, 3, none⟩ = some (.int .i64 x.p) := fun d os => cell_regrown (blk_cell hxb2.out rfl) d os
                generalize Lib.itoa x.q = A at *
                generalize Lib.itoa x.p = C at *
                have z2 : (⟨x.nm.toArray⟩ : ByteArray) ++ ⟨#[32]⟩ = ⟨(x.nm ++ [32]).toArray⟩ := app_strJ _ [32]
                have z3 := app_strJ (x.nm ++ [32]) A
                have z4 : (⟨(x.nm ++ [32] ++ A).toArray⟩ : ByteArray) ++ ⟨#[47]⟩ = ⟨(x.nm ++ [32] ++ A ++ [47]).toArray⟩ := app_strJ _ [47]
                have z5 := app_strJ (x.nm ++ [32] ++ A ++ [47]) C
                have l2 : (x.nm ++ [32]).length ≤ 47 := by simp; omega
                have l3 : (x.nm ++ [32] ++ A).length ≤ 68 := by simp; omega
                have l4 : (x.nm ++ [32] ++ A ++ [47]).length ≤ 69 := by simp; omega
                have l5 : (x.nm ++ [32] ++ A ++ [47] ++ C).length ≤ 90 := by simp; omega
                generalize x.nm ++ [32] ++ A ++ [47] ++ C = m5 at *
                generalize x.nm ++ [32] ++ A ++ [47] = m4 at *
                generalize x.nm ++ [32] ++ A = m3 at *
                generalize x.nm ++ [32] = m2 at *
                have n2 : ¬ 9223372036854775807 < x.nm.length + 1 := by omega
                have n3 : ¬ 9223372036854775807 < m2.length + A.length := by omega
                have n4 : ¬ 9223372036854775807 < m3.length + 1 := by omega
                have n5 : ¬ 9223372036854775807 < m4.length + C.length := by omega
                have L5 := Lib.hid l5
                clear l2 l3 l4 l5 L2 L3
                go_upto_region 15 with (go_at_call 42; refine DEPi.out.mono ?_; rintro e w2 ⟨rfl, rfl⟩)
                refine region_below_tailJ 15 (by kernel_rfl) (by kernel_rfl) ?_
                repeat (quiet_step (first | with_reducible exact D2.out _ _ | with_reducible exact D3.out _ _))
                refine wpQuiet_nil ?_
                intro _ hw'
                obtain ⟨⟨dq, osq⟩, rfl⟩ := hw'
                have B78 := Lib.hid (below_regrown wr dq osq)
                have B8 := Lib.hid (hbe2.out.trans (B78.out.mono hbe2.out.size))
                have OB8 := Lib.hid (hob2.out.below B78.out)
                have XB8 := Lib.hid (blk_below hxb2.out B78.out)
                generalize grow (redrawn wr dq) osq = w8 at *
                simp only [List.drop_succ_cons, List.drop_zero]
                have BN : Hid (cr.length + m5.length ≤ 1000000000) := Lib.hid (by have := LRP.out; have := L5.out; omega)
                clear kx0 kx2 kx3 g1
                go_upto_if 66 with (at_builtin; refine appendB (W := w1) rfl _ _ rfl w1.heap.size _ _ rfl OB8.out m5 rfl BN.out B8.out.size B8.out ?_; intro v3 w9 hob3 hb3 kp3; obtain ⟨a3, n3, k3, rfl⟩ := hob3.form3; have OB9 := Lib.hid hob3; have B9 := Lib.hid hb3; have XB9 := Lib.hid (kp3 _ _ _ _ XB8.out (by decide) (by decide)); have xc4 := blk_cell (j := 4) (v := .slice az x.pr.length cz) XB9.out rfl)
                obtain ⟨TS, hTS⟩ : ∃ TS, TS = if x.pr = [] then [] else wTsk ++ numsP x.pr := ⟨_, rfl⟩
                have HTS := Lib.hid hTS
                clear hTS
                have hpri : (x.pr.length : Int) ≤ 8 := by omega
                go_cut [5] (fun s w => ∃ (wx : World) (pz : Option Addr) (nz cz2 : Nat), wx = w ∧ s = .slice pz nz cz2 ∧ Hid (OB w w1.heap.size (.slice pz nz cz2) (cr ++ m5 ++ TS)) ∧ Hid (Below w1.heap.size w1 w))
                case first =>
                  by_cases hpl : 0 < x.pr.length
                  · have hpl' : (0 : Int) < (x.pr.length : Int) := by omega
                    have hpd : decide (0 < x.pr.length) = true := decide_eq_true hpl
                    have HT : Hid (TS = wTsk ++ numsP x.pr) := Lib.hid (by rw [HTS.out, if_neg (by intro h; rw [h] at hpl; cases hpl)])
                    have NS := Lib.hid (rnums_c x.pr _ w9 (RZ.out.below (B1.out.trans (B9.out.mono (Nat.le_of_lt HTB.out)))) (by omega) hprb.out)
                    have NLn := numsP_len (l := x.pr) (fun y hy => by have := hprb.out y hy; unfold i64; omega)
                    generalize numsP x.pr = ns at *
                    have z1 : (⟨#[32, 116, 97, 115, 107, 115]⟩ : ByteArray) ++ ⟨ns.toArray⟩ = ⟨(wTsk ++ ns).toArray⟩ := app_strJ wTsk ns
                    have l1 : (wTsk ++ ns).length ≤ 1000 := by simp; omega
                    have HT2 := Lib.hid HT.out
                    generalize wTsk ++ ns = m1 at *
                    have n1 : ¬ 9223372036854775807 < 6 + ns.length := by omega
                    have BN9 : Hid ((cr ++ m5).length + m1.length ≤ 1000000000) := Lib.hid (by have := LRP.out; have := L5.out; rw [List.length_append]; omega)
                    clear hpl NLn l1
                    go_wp2_with (first | (go_at_call 41; refine NS.out.mono ?_; rintro e w10 ⟨rfl, hb10⟩; have OB10 := Lib.hid (OB9.out.below hb10); have B10 := Lib.hid (B9.out.trans (hb10.mono B9.out.size))) | (at_builtin; refine appendB (W := w1) rfl _ _ rfl w1.heap.size _ _ rfl OB10.out m1 rfl BN9.out B10.out.size B10.out ?_; intro v3 w11 hob11 hb11 _; obtain ⟨a11, n11, k11, rfl⟩ := hob11.form3; have OB11 := Lib.hid hob11; have B11 := Lib.hid hb11))
                    go_meet
                    exact ⟨_, _, _, _, rfl, rfl, Lib.hid (by rw [HT2.out]; exact OB11.out), B11⟩
                  · have hpl' : ¬ (0 : Int) < (x.pr.length : Int) := by omega
                    have hpd : decide (0 < x.pr.length) = false := decide_eq_false hpl
                    have HT : Hid (TS = []) := Lib.hid (by rw [HTS.out, if_pos (List.eq_nil_of_length_eq_zero (by omega))])
                    clear hpl
                    go_wp2_with fail
                    go_meet
                    exact ⟨_, _, _, _, rfl, rfl, Lib.hid (by rw [HT.out, List.append_nil]; exact OB9.out), B9⟩
                case rest =>
                  obtain ⟨w12, pz, nz, cz2, rfl, rfl, ob12, hb12⟩ := hcut
                  have LTS : Hid ((cr ++ m5 ++ TS).length ≤ 30000) := Lib.hid (by
                    have h1 := LRP.out
                    have h2 := L5.out
                    have h3 : TS.length ≤ 200 := by
                      rw [HTS.out]
                      have := numsP_len (l := x.pr) (fun y hy => by have := hprb.out y hy; unfold i64; omega)
                      split
                      · simp
                      · simp; omega
                    rw [List.length_append, List.length_append]
                    omega)
                  have NX2 : Hid (nxt = cr ++ m5 ++ TS ++ [10]) := Lib.hid (by
                    rw [NXT.out, BPe.out]
                    unfold tailP
                    rw [HTS.out]
                    by_cases hp0 : x.pr = []
                    · rw [if_pos hp0, if_pos hp0, hp0]; simp [numsP]
                    · rw [if_neg hp0, if_neg hp0]; simp only [List.append_assoc])
                  generalize cr ++ m5 ++ TS = fin at *
                  have MB := Lib.hid (show fin.length + 1 ≤ maxLen ∧ (fin.length + 1) * 1 ≤ 140737488355328 from ⟨by have := LTS.out; unfold maxLen; omega, by have := LTS.out; omega⟩)
                  have SZ12 := Lib.hid hb12.out.size
                  have OWN12 : Hid (w12.ownsRow w1.heap.size 5 1 (.slice pz nz cz2) fin.length (bcs fin)) := Lib.hid ob12.out
                  clear xc4
                  go_wp2_with (at_builtin; refine appendN2 (W := w1) rfl _ _ 81 rfl w1.heap.size 5 j0 _ 1 1 Tryz.underlying81 hj hy0 hy1 hy2 rfl (by decide) _ _ _ rfl OWN12.out _ [.int .u8 10] _ rfl rfl rfl (by intro u hu; simp at hu; subst hu; rfl) MB.out.1 MB.out.2 SZ12.out hb12.out ?_; intro m' w13 hown13 hbe13 hgr13; have OW13 := Lib.hid hown13; have B13 := Lib.hid hbe13)
                  go_roundw
                  case rel => exact ⟨i + 1, by go_num, hi1, Lib.hid (by rw [← HNX.out, NX2.out]; have := OW13.out; unfold OB; simpa [bcs] using this), B13⟩
                  case measure => show t.items.length - ((i : Int) + 1).toNat < t.items.length - ((i : Int)).toNat; omega
        · obtain rfl : i = t.items.length := by omega
          have hge : ¬ (t.items.length : Int) < (t.items.length : Int) := by omega
          have hcv0 := hob.out.conv
          rw [← TXT.out] at hcv0
          have hLe : Hid ((headP t.slack ++ rowsP t.items t.items.length).length = TX.length) := Lib.hid (by rw [TXT.out])
          simp only [hLe.out]
          have hTL := TL.out
          have hnl : ¬ (1048576 : Int) < (TX.length : Int) := by omega
          have hnd : decide (1048576 < TX.length) = false := decide_eq_false (by omega)
          clear hlt
          go_wp2_with fail
          go_ret2
          exact ⟨by rw [HR.out]; rfl, BWr.out⟩
  · have HR := Lib.hid (FE.out hV)
    have hv0 : (V == 0) = false := by simpa using hV
    have hv1 : (V != 0) = true := by simpa using hV
    clear hV FE FO
    go_wp2_with fail
    go_ret2
    exact ⟨by rw [HR.out]; rfl, B1.out⟩
end Go.Proofs.YtophilmjfdhhaaaGreatDoor
namespace Go.Proofs.YtophilmjfdhhaaaGreatDoor
open Go Go.RowKit Go.Shelf Go.Sort
set_option linter.unusedVariables false
set_option linter.unusedSimpArgs false
set_option maxRecDepth 100000

theorem getD_take {l : List It} {m j : Nat} (h : j < m) : (l.take m).getD j default = l.getD j default := by
  simp [List.getD, List.getElem?_take, h]
theorem parOf_take {l : List It} {m : Nat} {j : Int} (h0 : 0 ≤ j) (h : j < m) : parOf (l.take m) j = parOf l j := by
  unfold parOf
  rw [getD_take (by omega)]
theorem Wl.take {l : List It} (h : Wl l) (m : Nat) : Wl (l.take m) := by
  intro j hj
  rw [List.length_take] at hj
  rw [getD_take (by omega)]
  exact h j (by omega)
theorem Wl.n {l : List It} (h : Wl l) {m : Nat} (hm : m ≤ l.length) : WlN l m := fun j hj => h j (by omega)
theorem depF_take {l : List It} {m : Nat} (hw : WlN l m) : ∀ (f : Nat) (j : Int), j < m → depF (l.take m) f j = depF l f j
  | 0, j, h => rfl
  | f + 1, j, h => by
    unfold depF
    by_cases h0 : j < 0
    · rw [if_pos h0, if_pos h0]
    · have hb := hw.par (k := j) (by omega) h
      rw [if_neg h0, if_neg h0, parOf_take (by omega) h, depF_take hw f _ (by omega)]
theorem depS_take {l : List It} {m : Nat} (hw : WlN l m) {j : Int} (h : j < m) : depS (l.take m) j = depS l j := depF_take hw _ j h
theorem upTo_take {l : List It} {m : Nat} (hw : WlN l m) (p : Int) (hp : -1 ≤ p) : ∀ (f : Nat) (j : Int), j < m → upTo (l.take m) p f j = upTo l p f j
  | 0, j, h => rfl
  | f + 1, j, h => by
    unfold upTo
    by_cases h0 : p < j
    · have hb := hw.par (k := j) (by omega) h
      rw [if_pos h0, if_pos h0, parOf_take (by omega) h, upTo_take hw p hp f _ (by omega)]
    · rw [if_neg h0, if_neg h0]
theorem climbF_take {l : List It} {m : Nat} (hw : WlN l m) (d : Nat) : ∀ (f : Nat) (j : Int), j < m → climbF (l.take m) d f j = climbF l d f j
  | 0, j, h => rfl
  | f + 1, j, h => by
    unfold climbF
    rw [depS_take hw h]
    by_cases h0 : depS l j ≤ d
    · rw [if_pos h0, if_pos h0]
    · have hj := depS_pos (l := l) (i := j) (by omega)
      have hb := hw.par (k := j) hj h
      rw [if_neg h0, if_neg h0, parOf_take hj h, climbF_take hw d f _ (by omega)]
theorem climbS_take {l : List It} {m : Nat} (hw : WlN l m) (d : Nat) {j : Int} (h : j < m) : climbS (l.take m) d j = climbS l d j := by
  unfold climbS
  rw [depS_take hw h, climbF_take hw d _ j h]
theorem up_dep {l : List It} (hw : Wl l) (p : Int) (hp : -1 ≤ p) : ∀ (f : Nat) (j : Int), j < l.length → upTo l p f j = p → depS l p ≤ depS l j
  | 0, j, hj, h => by have h : j = p := h; rw [h]; exact Nat.le_refl _
  | f + 1, j, hj, h => by
    unfold upTo at h
    by_cases h0 : p < j
    · rw [if_pos h0] at h
      have hb := par_bounds hw (i := j) (by omega) hj
      have := up_dep hw p hp f _ (by omega) h
      rw [depS_step hw (by omega) hj]
      omega
    · rw [if_neg h0] at h; rw [h]; exact Nat.le_refl _
theorem climb_up {l : List It} (hw : Wl l) (p : Int) (hp : -1 ≤ p) : ∀ (f : Nat) (j : Int), j < l.length → upTo l p f j = p → climbS l (depS l p) j = p
  | 0, j, hj, h => by have h : j = p := h; rw [h]; exact climbS_le (Nat.le_refl _)
  | f + 1, j, hj, h => by
    unfold upTo at h
    by_cases h0 : p < j
    · rw [if_pos h0] at h
      have hb := par_bounds hw (i := j) (by omega) hj
      have hd := up_dep hw p hp f _ (by omega) h
      rw [climbS_step hw hj (by rw [depS_step hw (by omega) hj]; omega)]
      exact climb_up hw p hp f _ (by omega) h
    · rw [if_neg h0] at h; rw [h]; exact climbS_le (Nat.le_refl _)
theorem up_climb {l : List It} (hw : Wl l) (d : Nat) : ∀ (f : Nat) (j : Int), -1 ≤ j → j < l.length → j + 1 ≤ f → upTo l (climbS l d j) f j = climbS l d j
  | 0, j, h0, hj, hf => by
    have : j = -1 := by omega
    subst this
    rw [climbS_le (by rw [depS_neg l (by omega)]; omega)]; rfl
  | f + 1, j, h0, hj, hf => by
    by_cases h : depS l j ≤ d
    · rw [climbS_le h]; exact upTo_le _ (Int.le_refl _)
    · have hp := depS_pos (l := l) (i := j) (by omega)
      have hb := par_bounds hw hp hj
      have hc := climbS_bounds hw d _ (parOf l j) (Nat.le_refl _) hb.1 (by omega)
      rw [climbS_step hw hj (by omega)]
      unfold upTo
      rw [if_pos (by omega)]
      exact up_climb hw d f _ hb.1 (by omega) (by omega)
theorem twinS_take {l : List It} {m i : Nat} (hi : i < m) : twinS (l.take m) i = twinS l i := by
  unfold twinS
  rw [getD_take hi]
  rw [Bool.eq_iff_iff, List.any_eq_true, List.any_eq_true]
  constructor
  · rintro ⟨j, hj, h⟩
    rw [getD_take (by have := List.mem_range.1 hj; omega)] at h
    exact ⟨j, hj, h⟩
  · rintro ⟨j, hj, h⟩
    exact ⟨j, hj, by rw [getD_take (by have := List.mem_range.1 hj; omega)]; exact h⟩
theorem chkK_take {l : List It} {m i : Nat} (hw : WlN l m) (hi : i < m) (k : Nat) : chkK (l.take m) i k = chkK l i k := by
  match k with
  | 0 => show (if twinS (l.take m) i = true then (251 : Int) else 0) = _; rw [twinS_take hi]; rfl
  | 1 => show (if (itR ((l.take m).getD i default) && prOk ((l.take m).getD i default).pr) = true then (0 : Int) else 2) = _; rw [getD_take hi]; rfl
  | 2 => show (if 8 < depS (l.take m) i then (90 : Int) else 0) = _; rw [depS_take hw (by omega)]; rfl
  | 3 => show (if 63 ≤ i ∨ 8 < ((l.take m).getD i default).pr.length then (30 : Int) else 0) = _; rw [getD_take hi]; rfl
  | n + 4 =>
    show (if 1048576 < underG ((l.take m).take (i + 1)) ((l.take m).getD i default).par then (80 : Int) else 0) = _
    rw [getD_take hi, List.take_take, show min (i + 1) m = i + 1 by omega]; rfl
theorem okAt_take {l : List It} {m i : Nat} (hw : WlN l m) (hi : i < m) : okAt (l.take m) i = okAt l i := by
  unfold okAt
  rw [getD_take hi]
  by_cases h : -1 ≤ (l.getD i default).par
  · rw [upTo_take hw _ h i _ (by omega)]
  · rw [decide_eq_false h]; simp
theorem valid_all {t : Tr} (h : validS t = 0) : formB t.items = true ∧ (∀ i, i < t.items.length → ∀ k, k < 5 → chkK t.items i k = 0) ∧ prOk t.slack = true ∧ t.slack.length ≤ 16 := by
  have hf := valid_form h
  obtain ⟨_, _, h3, h4, _, _⟩ := valid_ok h
  refine ⟨hf, fun i hi k hk => ?_, h4, h3⟩
  unfold validS at h
  rw [if_pos hf] at h
  have hz := firstE_zero h
  have hc : colK t.items k = 0 := by
    rcases (by omega : k = 0 ∨ k = 1 ∨ k = 2 ∨ k = 3 ∨ k = 4) with rfl | rfl | rfl | rfl | rfl <;> exact hz _ (by simp)
  unfold colK at hc
  exact firstE_zero hc _ (List.mem_map.2 ⟨i, List.mem_range.2 hi, rfl⟩)
theorem valid_of {t : Tr} (hf : formB t.items = true) (hc : ∀ i, i < t.items.length → ∀ k, k < 5 → chkK t.items i k = 0) (hp : prOk t.slack = true) (hl : t.slack.length ≤ 16) : validS t = 0 := by
  refine validS_ok hf fun j hj => ⟨fun i hi => hc i hi j hj, ?_⟩
  unfold slK
  by_cases h1 : j = 1
  · rw [if_pos h1, if_pos hp]
  · rw [if_neg h1]
    by_cases h3 : j = 3 ∧ 16 < t.slack.length
    · omega
    · rw [if_neg h3]
/-- What a node's line that is taken leaves may be. -/
theorem node_valid {t : Tr} {ws : List (List UInt8)} {n : Nat} (h : validS t = 0) (h0 : (nodeS t ws n).2 = 0) : validS (nodeS t ws n).1 = 0 := by
  obtain ⟨hf, hc, hp, hl⟩ := valid_all h
  have hw := formB_wl hf
  unfold nodeS at h0 ⊢
  cases hx : nodeI t ws n with
  | none => rw [hx] at h0; exact absurd h0 (by simp)
  | some x =>
    rw [hx] at h0
    simp only at h0 ⊢
    have hpar := nodeI_par hw hx
    have hw2 := Wl_snoc hw hpar.1 hpar.2
    obtain ⟨k0, k1, k2, k3, k4⟩ := chkI_zero h0
    have hn : nameS x.nm = true ∧ x.par = climbS t.items (n / 2) ((t.items.length : Int) - 1) := by
      unfold nodeI at hx
      split at hx
      · cases hx
      · rename_i hg
        have hnm : nameS (ws.getD 0 []) = true := by
          cases hb : nameS (ws.getD 0 []) with
          | true => rfl
          | false => exact absurd (.inr (.inr (.inr hb))) hg
        split at hx
        · cases hx
        · split at hx
          · cases hx
          · split at hx
            · injection hx with hx; subst hx; exact ⟨hnm, rfl⟩
            · split at hx
              · split at hx
                · cases hx
                · injection hx with hx; subst hx; exact ⟨hnm, rfl⟩
              · cases hx
    have htk : (t.items ++ [x]).take t.items.length = t.items := by simp
    have hwn : WlN (t.items ++ [x]) t.items.length := hw2.n (by simp)
    refine valid_of (t := ⟨t.items ++ [x], t.slack⟩) (formB_yes fun i hi => ?_) (fun i hi k hk => ?_) hp hl
    · simp only [List.length_append, List.length_singleton] at hi
      by_cases hlt : i < t.items.length
      · have := okAt_take hwn hlt
        rw [htk] at this
        rw [← this]
        exact formB_at hf hlt
      · obtain rfl : i = t.items.length := by omega
        have e := getD_last t.items x default
        unfold okAt
        rw [e, decide_eq_true hpar.1, decide_eq_true hpar.2, hn.1]
        have u := upTo_take hwn x.par hpar.1 t.items.length ((t.items.length : Int) - 1) (by omega)
        rw [htk] at u
        rw [← u, hn.2, up_climb hw (n / 2) t.items.length ((t.items.length : Int) - 1) (by omega) (by omega) (by omega)]
        simp
    · simp only [List.length_append, List.length_singleton] at hi
      by_cases hlt : i < t.items.length
      · have := chkK_take hwn hlt k
        rw [htk] at this
        rw [← this]
        exact hc i hlt k hk
      · obtain rfl : i = t.items.length := by omega
        rcases (by omega : k = 0 ∨ k = 1 ∨ k = 2 ∨ k = 3 ∨ k = 4) with rfl | rfl | rfl | rfl | rfl
        · exact k0
        · exact k1
        · exact k2
        · exact k3
        · exact k4
theorem line_valid {t : Tr} {f : Bool} {s : List UInt8} (h : validS t = 0) (h0 : (lineS t f s).2 = 0) : validS (lineS t f s).1 = 0 := by
  unfold lineS at h0 ⊢
  by_cases hx : (splitC 32 [] (lead s)).getD 0 [] = wSlack
  · rw [if_pos hx] at h0 ⊢
    cases hn : numsS ((splitC 32 [] (lead s)).drop 1) with
    | none => rw [hn] at h0; exact absurd h0 (by simp)
    | some l =>
      rw [hn] at h0
      simp only at h0 ⊢
      by_cases h1 : f = false ∨ (lead s).length < s.length
      · rw [if_pos h1] at h0; exact absurd h0 (by simp)
      · rw [if_neg h1] at h0 ⊢
        by_cases h2 : prOk l = false
        · rw [if_pos h2] at h0; exact absurd h0 (by simp)
        · rw [if_neg h2] at h0 ⊢
          by_cases h3 : 16 < l.length
          · rw [if_pos h3] at h0; exact absurd h0 (by simp)
          · rw [if_neg h3]
            obtain ⟨hf, hc, _, _⟩ := valid_all h
            exact valid_of (t := ⟨t.items, l⟩) hf hc (by simpa using h2) (Nat.le_of_not_lt h3)
  · rw [if_neg hx] at h0 ⊢
    exact node_valid h h0
theorem valid_nil : validS ⟨[], []⟩ = 0 := by kernel_rfl
theorem parseGo_valid : ∀ (ls : List (List UInt8)) (i : Nat) (t : Tr) (f : Bool), validS t = 0 → ((parseGo ls i t f).2.2 = 0 → validS (parseGo ls i t f).1 = 0 ∧ (parseGo ls i t f).2.1 = 0) ∧ ((parseGo ls i t f).2.2 ≠ 0 → (parseGo ls i t f).1 = ⟨[], []⟩)
  | [], i, t, f, h => ⟨fun _ => ⟨h, rfl⟩, fun h => absurd rfl h⟩
  | l :: r, i, t, f, h => by
    unfold parseGo
    by_cases hs : silS l = true
    · rw [if_pos hs]; exact parseGo_valid r (i + 1) t f h
    · rw [if_neg hs]
      by_cases hz : (lineS t f l).2 = 0
      · rw [if_pos hz]; exact parseGo_valid r (i + 1) _ false (line_valid h hz)
      · rw [if_neg hz]; exact ⟨fun h => absurd h hz, fun _ => rfl⟩
/-- What a text is read as may be, and no line is told. -/
theorem parse_valid (s : List UInt8) : ((parseS s).2.2 = 0 → validS (parseS s).1 = 0 ∧ (parseS s).2.1 = 0) ∧ ((parseS s).2.2 ≠ 0 → (parseS s).1 = ⟨[], []⟩) := by
  unfold parseS
  split
  · exact ⟨fun h => absurd h (by decide), fun _ => rfl⟩
  · split
    · exact ⟨fun h => absurd h (by decide), fun _ => rfl⟩
    · exact parseGo_valid _ _ _ _ valid_nil
/- Numbers and words. -/
theorem numR_itoa {n : Int} (h0 : 0 ≤ n) (h1 : n ≤ 9223372036854775807) : numR (Lib.itoa n) = some n := by
  rw [itoa_nat n h0]
  unfold numR
  rw [if_neg, decV_decDigits]
  · congr 1; omega
  · rintro (h | h | h | h)
    · exact decDigits_ne _ h
    · exact noNought_head (decDigits_noNought _) h
    · rw [List.all_eq_true.2 (decDigits_dgt _)] at h; cases h
    · rw [decV_decDigits] at h; omega
theorem itoa_byte {n : Int} (h0 : 0 ≤ n) : ∀ c ∈ Lib.itoa n, c ≠ 10 ∧ c ≠ 32 ∧ c ≠ 47 := by
  intro c hc
  rw [itoa_nat n h0] at hc
  have := decDigits_dgt _ c hc
  unfold dgt at this
  simp only [decide_eq_true_eq] at this
  refine ⟨?_, ?_, ?_⟩ <;> (rintro rfl; exact absurd this (by decide))
theorem numsP_cons (a : Int) (l : List Int) : numsP (a :: l) = 32 :: (Lib.itoa a ++ numsP l) := by simp [numsP]
theorem split_nums : ∀ (l : List Int) (a : Int), (∀ x ∈ a :: l, 0 ≤ x) → splitC 32 [] (Lib.itoa a ++ numsP l) = (a :: l).map Lib.itoa
  | [], a, h => by
    rw [numsP_nil, List.append_nil, splitC_last 32 _ [] (fun c hc => (itoa_byte (h a (by simp)) c hc).2.1)]
    rfl
  | b :: r, a, h => by
    rw [numsP_cons, splitC_line 32 _ [] _ (fun c hc => (itoa_byte (h a (by simp)) c hc).2.1), split_nums r b (fun x hx => h x (by simp at hx ⊢; exact .inr hx))]
    rfl
theorem numsGo_map : ∀ (l : List Int), (∀ x ∈ l, 0 ≤ x ∧ x ≤ 9223372036854775807) → numsGo (l.map Lib.itoa) = some l
  | [], _ => rfl
  | a :: r, h => by
    rw [List.map_cons, numsGo, numR_itoa (h a (by simp)).1 (h a (by simp)).2, numsGo_map r (fun x hx => h x (by simp [hx]))]
theorem numsS_map {l : List Int} (hl : l ≠ []) (h : ∀ x ∈ l, 0 ≤ x ∧ x ≤ 9223372036854775807) : numsS (l.map Lib.itoa) = some l := by
  unfold numsS
  rw [numsGo_map l h]
  cases l with
  | nil => exact absurd rfl hl
  | cons a r => rfl
theorem numsP_byte {l : List Int} (h : ∀ x ∈ l, 0 ≤ x) : ∀ c ∈ numsP l, c ≠ 10 := by
  intro c hc
  unfold numsP at hc
  obtain ⟨x, hx, hc⟩ := List.mem_flatMap.1 hc
  rcases List.mem_cons.1 hc with rfl | hc
  · decide
  · exact (itoa_byte (h x hx) c hc).1
theorem cutAt_app (c : UInt8) : ∀ (x r : List UInt8), (∀ b ∈ x, b ≠ c) → cutAt c (x ++ c :: r) = (x, some r)
  | [], r, _ => by simp [cutAt]
  | b :: x, r, h => by
    have hb : (b == c) = false := by simpa using h b (by simp)
    rw [List.cons_append]
    show (if b == c then ([], some (x ++ c :: r)) else (b :: (cutAt c (x ++ c :: r)).1, (cutAt c (x ++ c :: r)).2)) = _
    rw [hb, cutAt_app c x r (fun y hy => h y (by simp [hy]))]
    rfl
theorem lead_rep (k : Nat) {c : UInt8} {r : List UInt8} (h : c ≠ 32) : lead (List.replicate k 32 ++ c :: r) = c :: r := by
  induction k with
  | zero => exact lead_same h
  | succ k ih =>
    rw [List.replicate_succ, List.cons_append]
    unfold lead at ih ⊢
    rw [List.dropWhile_cons, if_pos (by rfl)]
    exact ih
theorem name_byte {l : List UInt8} (h : nameS l = true) : ∃ c r, l = c :: r ∧ c ≠ 32 ∧ c ≠ 35 ∧ ∀ b ∈ l, b ≠ 10 ∧ b ≠ 32 := by
  unfold nameS at h
  simp only [Bool.and_eq_true, decide_eq_true_eq] at h
  obtain ⟨⟨⟨⟨⟨⟨⟨h1, _⟩, _⟩, _⟩, _⟩, h2⟩, h3⟩, h4⟩ := h
  cases l with
  | nil => simp at h1
  | cons c r =>
    have hb := List.all_eq_true.1 h4
    have h2' : 97 ≤ c.toNat := h2
    refine ⟨c, r, rfl, ?_, ?_, fun b hm => ?_⟩
    · rintro rfl; exact absurd h2' (by decide)
    · rintro rfl; exact absurd h2' (by decide)
    · have := hb b hm
      constructor <;> (rintro rfl; exact absurd this (by decide))
theorem name_slack {l : List UInt8} (h : nameS l = true) : l ≠ wSlack := by
  rintro rfl
  exact absurd h (by decide)
/- Lines. -/
def tlB (l : List Int) : List UInt8 := if l = [] then [] else wTsk ++ numsP l
/-- A node's line without its blanks. -/
def bodN (x : It) : List UInt8 := x.nm ++ 32 :: ((Lib.itoa x.q ++ 47 :: Lib.itoa x.p) ++ tlB x.pr)
def lineB (l : List It) (i : Nat) : List UInt8 := List.replicate (2 * (depS l i - 1)) 32 ++ bodN (l.getD i default)
theorem lineP_B (l : List It) (i : Nat) : lineP l i = lineB l i ++ [10] := by
  unfold lineP bodyP tailP lineB bodN tlB
  by_cases h : (l.getD i default).pr = []
  · rw [h]; simp [numsP]
  · rw [if_neg h, if_neg h]; simp
theorem pair_byte {x : It} (hq : 1 ≤ x.q) (hp : 1 ≤ x.p) : ∀ c ∈ Lib.itoa x.q ++ 47 :: Lib.itoa x.p, c ≠ 10 ∧ c ≠ 32 := by
  intro c hc
  rcases List.mem_append.1 hc with hc | hc
  · have := itoa_byte (n := x.q) (by omega) c hc; exact ⟨this.1, this.2.1⟩
  · rcases List.mem_cons.1 hc with rfl | hc
    · decide
    · have := itoa_byte (n := x.p) (by omega) c hc; exact ⟨this.1, this.2.1⟩
theorem tlB_byte {l : List Int} (h : ∀ x ∈ l, 0 ≤ x) : ∀ c ∈ tlB l, c ≠ 10 := by
  intro c hc
  unfold tlB at hc
  split at hc
  · simp at hc
  · rcases List.mem_append.1 hc with hc | hc
    · simp only [List.mem_cons, List.not_mem_nil, or_false] at hc
      rcases hc with rfl | rfl | rfl | rfl | rfl | rfl <;> decide
    · exact numsP_byte h c hc
/-- The words of a node's line. -/
theorem bodN_words {x : It} (hn : nameS x.nm = true) (hq : 1 ≤ x.q) (hp : 1 ≤ x.p) (hr : ∀ y ∈ x.pr, 0 ≤ y) :
    splitC 32 [] (bodN x) = x.nm :: (Lib.itoa x.q ++ 47 :: Lib.itoa x.p) :: (if x.pr = [] then [] else wTasks :: x.pr.map Lib.itoa) := by
  obtain ⟨c, r, _, _, _, hb⟩ := name_byte hn
  unfold bodN tlB
  rw [splitC_line 32 _ [] _ (fun b hm => (hb b hm).2)]
  have hm : ∀ c ∈ Lib.itoa x.q ++ 47 :: Lib.itoa x.p, c ≠ 32 := fun c hc => (pair_byte hq hp c hc).2
  generalize Lib.itoa x.q ++ 47 :: Lib.itoa x.p = m at *
  cases hpr : x.pr with
  | nil => rw [if_pos rfl, if_pos rfl, List.append_nil, splitC_last 32 m [] hm]; rfl
  | cons a t =>
    rw [if_neg (by simp), if_neg (by simp), numsP_cons]
    have e : m ++ (wTsk ++ 32 :: (Lib.itoa a ++ numsP t)) = m ++ 32 :: ([116, 97, 115, 107, 115] ++ 32 :: (Lib.itoa a ++ numsP t)) := by simp
    rw [e, splitC_line 32 m [] _ hm, splitC_line 32 [116, 97, 115, 107, 115] [] _ (by decide), split_nums t a (by rw [hpr] at hr; exact hr)]
    rfl
structure OkL (l : List It) (i : Nat) : Prop where
  nm : nameS (l.getD i default).nm = true
  q : 1 ≤ (l.getD i default).q ∧ (l.getD i default).q ≤ 1048576
  p : 1 ≤ (l.getD i default).p ∧ (l.getD i default).p ≤ 1048576
  prb : ∀ x ∈ (l.getD i default).pr, 0 ≤ x ∧ x ≤ 31
theorem valid_line {t : Tr} (h : validS t = 0) {i : Nat} (hi : i < t.items.length) : OkL t.items i := by
  have a := valid_item h hi
  refine ⟨?_, a.q, a.p, a.prb⟩
  have ha := formB_at (valid_form h) hi
  unfold okAt at ha
  simp only [Bool.and_eq_true] at ha
  exact ha.1.2
theorem bodN_head {x : It} (hn : nameS x.nm = true) : ∃ c r, bodN x = c :: r ∧ c ≠ 32 ∧ c ≠ 35 := by
  obtain ⟨c, r, he, h1, h2, _⟩ := name_byte hn
  refine ⟨c, r ++ 32 :: ((Lib.itoa x.q ++ 47 :: Lib.itoa x.p) ++ tlB x.pr), ?_, h1, h2⟩
  unfold bodN
  rw [he]; rfl
theorem lineB_lead {l : List It} {i : Nat} (h : OkL l i) : lead (lineB l i) = bodN (l.getD i default) := by
  obtain ⟨c, r, he, h1, _⟩ := bodN_head h.nm
  unfold lineB
  rw [he, lead_rep _ h1]
theorem lineB_loud {l : List It} {i : Nat} (h : OkL l i) : silS (lineB l i) = false := by
  obtain ⟨c, r, he, _, h2⟩ := bodN_head h.nm
  unfold silS
  rw [lineB_lead h, he]
  simpa using h2
theorem lineB_byte {l : List It} {i : Nat} (h : OkL l i) : ∀ c ∈ lineB l i, c ≠ 10 := by
  intro c hc
  unfold lineB bodN at hc
  obtain ⟨_, _, _, _, _, hb⟩ := name_byte h.nm
  rcases List.mem_append.1 hc with hc | hc
  · rw [(List.mem_replicate.1 hc).2]; decide
  · rcases List.mem_append.1 hc with hc | hc
    · exact (hb c hc).1
    · rcases List.mem_cons.1 hc with rfl | hc
      · decide
      · rcases List.mem_append.1 hc with hc | hc
        · exact (pair_byte h.q.1 h.p.1 c hc).1
        · exact tlB_byte (fun x hx => (h.prb x hx).1) c hc
/-- A node's line, read behind the nodes ahead of it. -/
theorem lineB_read {t : Tr} (h : validS t = 0) {i : Nat} (hi : i < t.items.length) (s : List Int) (f : Bool) :
    lineS ⟨t.items.take i, s⟩ f (lineB t.items i) = (⟨t.items.take (i + 1), s⟩, 0) := by
  obtain ⟨hf, hc, _, _⟩ := valid_all h
  have hw := formB_wl hf
  have ok := valid_line h hi
  have oki := valid_item h hi
  have ha := formB_at hf hi
  have hpar := okAt_par ha
  have hup : upTo t.items (t.items.getD i default).par i ((i : Int) - 1) = (t.items.getD i default).par := by
    unfold okAt at ha
    simp only [Bool.and_eq_true, decide_eq_true_eq] at ha
    exact ha.2
  have hwi : WlN t.items i := hw.n (by omega)
  have hwi1 : WlN t.items (i + 1) := hw.n (by omega)
  have hdep := oki.dep
  have hds : depS t.items i = depS t.items (t.items.getD i default).par + 1 := by
    rw [depS_step hw (by omega) (by omega)]
    have : parOf t.items (i : Int) = (t.items.getD i default).par := by unfold parOf; rw [Int.toNat_natCast]
    rw [this]
  have hcl : climbS (t.items.take i) (depS t.items i - 1) ((i : Int) - 1) = (t.items.getD i default).par := by
    rw [climbS_take hwi _ (by omega), show depS t.items i - 1 = depS t.items (t.items.getD i default).par by omega]
    exact climb_up hw _ hpar.1 i _ (by omega) hup
  have hdu : depS t.items i - 1 ≤ depS (t.items.take i) ((i : Int) - 1) := by
    rw [depS_take hwi (by omega)]
    have := up_dep hw _ hpar.1 i _ (by omega) hup
    omega
  have hlen : (t.items.take i).length = i := by rw [List.length_take]; omega
  have hsub : (lineB t.items i).length - (lead (lineB t.items i)).length = 2 * (depS t.items i - 1) := by
    rw [lineB_lead ok]
    unfold lineB
    rw [List.length_append, List.length_replicate]; omega
  have hwd := bodN_words ok.nm ok.q.1 ok.p.1 (fun y hy => (ok.prb y hy).1)
  have hcut : cutAt 47 (Lib.itoa (t.items.getD i default).q ++ 47 :: Lib.itoa (t.items.getD i default).p) = (Lib.itoa (t.items.getD i default).q, some (Lib.itoa (t.items.getD i default).p)) := cutAt_app 47 _ _ fun c hc => (itoa_byte (n := (t.items.getD i default).q) (by have := ok.q; omega) c hc).2.2
  have hnum : numsS [Lib.itoa (t.items.getD i default).q, Lib.itoa (t.items.getD i default).p] = some [(t.items.getD i default).q, (t.items.getD i default).p] := numsS_map (l := [(t.items.getD i default).q, (t.items.getD i default).p]) (by simp) (fun x hx => by
    have h1 := ok.q
    have h2 := ok.p
    simp only [List.mem_cons, List.not_mem_nil, or_false] at hx
    rcases hx with rfl | rfl <;> omega)
  have hnode : nodeI ⟨t.items.take i, s⟩ (splitC 32 [] (bodN (t.items.getD i default))) (2 * (depS t.items i - 1)) = some (t.items.getD i default) := by
    rw [hwd]
    unfold nodeI
    rw [if_neg (by
      simp only [hlen]
      rintro (h | h | h | h)
      · omega
      · omega
      · simp only [List.length_cons] at h; omega
      · rw [show (_ :: _ :: _ : List (List UInt8)).getD 0 [] = (t.items.getD i default).nm from rfl, ok.nm] at h; cases h)]
    rw [show ((t.items.getD i default).nm :: (Lib.itoa (t.items.getD i default).q ++ 47 :: Lib.itoa (t.items.getD i default).p) :: (if (t.items.getD i default).pr = [] then [] else wTasks :: (t.items.getD i default).pr.map Lib.itoa)).getD 1 [] = Lib.itoa (t.items.getD i default).q ++ 47 :: Lib.itoa (t.items.getD i default).p from rfl, hcut]
    simp only [Option.isSome_some, Option.getD_some]
    rw [if_neg (by decide), hnum]
    simp only [hlen]
    rw [show 2 * (depS t.items i - 1) / 2 = depS t.items i - 1 by omega, hcl]
    generalize hx : t.items.getD i default = x at *
    by_cases hpr : x.pr = []
    · rw [if_pos hpr, if_pos (show [x.nm, Lib.itoa x.q ++ 47 :: Lib.itoa x.p].length = 2 from rfl)]
      obtain ⟨n, pa, q, p, pr⟩ := x
      simp only at hpr
      subst hpr
      rfl
    · rw [if_neg hpr, if_neg (by simp [hpr])]
      rw [if_pos (show List.getD (x.nm :: (Lib.itoa x.q ++ 47 :: Lib.itoa x.p) :: wTasks :: x.pr.map Lib.itoa) 2 [] = wTasks from rfl), show (x.nm :: (Lib.itoa x.q ++ 47 :: Lib.itoa x.p) :: wTasks :: x.pr.map Lib.itoa).drop 3 = x.pr.map Lib.itoa from rfl, numsS_map hpr (fun y hy => by have := ok.prb y (by rw [hx]; exact hy); omega)]
      rfl
  have htk : t.items.take i ++ [t.items.getD i default] = t.items.take (i + 1) := (take_it hi).symm
  have hchk : chkI (t.items.take (i + 1)) i = 0 := chkI_ok fun k hk => by rw [chkK_take hwi1 (by omega) k]; exact hc i hi k hk
  unfold lineS
  rw [lineB_lead ok, hwd]
  rw [if_neg (by exact name_slack ok.nm), ← hwd, ← lineB_lead ok, hsub, lineB_lead ok]
  unfold nodeS
  rw [hnode]
  simp only [htk, hlen, hchk]
/-- Lines from a place on, and the last, empty one. -/
def rowsL (l : List It) : Nat → Nat → List (List UInt8)
  | _, 0 => [[]]
  | i, m + 1 => lineB l i :: rowsL l (i + 1) m
def rowsT (l : List It) : Nat → Nat → List UInt8
  | _, 0 => []
  | i, m + 1 => lineB l i ++ 10 :: rowsT l (i + 1) m
theorem rowsL_len (l : List It) : ∀ (m i : Nat), (rowsL l i m).length = m + 1
  | 0, i => rfl
  | m + 1, i => by rw [rowsL, List.length_cons, rowsL_len l m (i + 1)]
theorem rows_from (l : List It) : ∀ (m i : Nat), (List.range m).flatMap (fun j => lineP l (i + j)) = rowsT l i m
  | 0, i => rfl
  | m + 1, i => by
    rw [List.range_succ_eq_map, List.flatMap_cons, rowsT, lineP_B, Nat.add_zero, List.append_assoc, List.singleton_append]
    congr 2
    rw [List.flatMap_map, ← rows_from l m (i + 1)]
    congr 1
    funext j
    show lineP l (i + (j + 1)) = lineP l (i + 1 + j)
    rw [show i + (j + 1) = i + 1 + j by omega]
theorem rowsP_T (l : List It) (m : Nat) : rowsP l m = rowsT l 0 m := by
  rw [← rows_from l m 0]
  unfold rowsP
  congr 1
  funext j
  rw [Nat.zero_add]
theorem split_rows {t : Tr} (h : validS t = 0) : ∀ (m i : Nat), i + m = t.items.length → splitC 10 [] (rowsT t.items i m) = rowsL t.items i m
  | 0, i, _ => rfl
  | m + 1, i, hi => by
    rw [rowsT, splitC_line 10 _ [] _ (lineB_byte (valid_line h (i := i) (by omega))), split_rows h m (i + 1) (by omega)]
    rfl
theorem parse_rows {t : Tr} (h : validS t = 0) (s : List Int) : ∀ (m i no : Nat) (f : Bool), i + m = t.items.length → parseGo (rowsL t.items i m) no ⟨t.items.take i, s⟩ f = (⟨t.items, s⟩, 0, 0)
  | 0, i, no, f, hi => by
    have : t.items.take i = t.items := List.take_of_length_le (by omega)
    rw [this]
    rfl
  | m + 1, i, no, f, hi => by
    have ok := valid_line h (i := i) (by omega)
    have hr := lineB_read h (i := i) (by omega) s f
    rw [rowsL, parseGo, if_neg (by rw [lineB_loud ok]; decide), hr, if_pos rfl]
    exact parse_rows h s m (i + 1) (no + 1) false (by omega)
theorem slack_split {a : Int} {r : List Int} (h : ∀ x ∈ a :: r, 0 ≤ x ∧ x ≤ 31) (T : List UInt8) : splitC 10 [] ((wSlk ++ (numsP (a :: r) ++ [10])) ++ T) = (wSlk ++ numsP (a :: r)) :: splitC 10 [] T := by
  have e : (wSlk ++ (numsP (a :: r) ++ [10])) ++ T = (wSlk ++ numsP (a :: r)) ++ 10 :: T := by simp
  rw [e, splitC_line 10 _ [] T (fun c hc => by
    rcases List.mem_append.1 hc with hc | hc
    · simp only [List.mem_cons, List.not_mem_nil, or_false] at hc
      rcases hc with rfl | rfl | rfl | rfl | rfl <;> decide
    · exact numsP_byte (fun x hx => (h x hx).1) c hc)]
  rfl
theorem slack_read {a : Int} {r : List Int} (h : ∀ x ∈ a :: r, 0 ≤ x ∧ x ≤ 31) (hp : prOk (a :: r) = true) (hl : (a :: r).length ≤ 16) : lineS ⟨[], []⟩ true (wSlk ++ numsP (a :: r)) = (⟨[], a :: r⟩, 0) := by
  have hs : slackL true (wSlk ++ numsP (a :: r)) := by
    refine ⟨rfl, ?_, ?_⟩
    · rw [numsP_cons]
      have : 0 < (Lib.itoa a).length := by
        rw [itoa_nat a (by have := h a (by simp); omega)]
        exact List.length_pos_iff.2 (decDigits_ne _)
      simp; omega
    · rw [numsP_cons]; rfl
  rw [lineS_slack hs]
  have hd : (wSlk ++ numsP (a :: r)).drop 6 = Lib.itoa a ++ numsP r := by rw [numsP_cons]; rfl
  rw [hd, split_nums r a (fun x hx => (h x hx).1), numsS_map (by simp) (fun x hx => by have := h x hx; omega)]
  simp only
  rw [if_neg (by rw [hp]; decide), if_neg (by omega)]
/-- The theorem of stage 25: what is printed is read as the tree. -/
theorem text_back {t : Tr} (h : validS t = 0) : parseS (textP t) = (t, 0, 0) := by
  obtain ⟨_, _, hp, hl⟩ := valid_all h
  have hlen := textP_len h
  have h63 := (valid_ok h).2.1
  have hT : textP t = headP t.slack ++ rowsT t.items 0 t.items.length := by unfold textP; rw [rowsP_T]
  have hR := split_rows h t.items.length 0 (by omega)
  have hP := parse_rows h t.slack t.items.length 0
  obtain ⟨items, slack⟩ := t
  simp only at *
  cases slack with
  | nil =>
    have hs : splitC 10 [] (textP ⟨items, []⟩) = rowsL items 0 items.length := by rw [hT, show headP [] = [] from rfl, List.nil_append, hR]
    rw [parseS_go (by omega) (by
      have := saidN_le (splitC 10 [] (textP ⟨items, []⟩))
      rw [hs, rowsL_len] at this
      rw [hs]; omega), hs]
    exact hP 0 true (by omega)
  | cons a r =>
    have hb := prOk_mem hp
    have hs : splitC 10 [] (textP ⟨items, a :: r⟩) = (wSlk ++ numsP (a :: r)) :: rowsL items 0 items.length := by
      rw [hT, show headP (a :: r) = wSlk ++ (numsP (a :: r) ++ [10]) from rfl, slack_split hb, hR]
    rw [parseS_go (by omega) (by
      have := saidN_le (splitC 10 [] (textP ⟨items, a :: r⟩))
      rw [hs, List.length_cons, rowsL_len] at this
      rw [hs]; omega), hs]
    have hsil : silS (wSlk ++ numsP (a :: r)) = false := by
      unfold silS
      rw [show lead (wSlk ++ numsP (a :: r)) = 115 :: ([108, 97, 99, 107] ++ numsP (a :: r)) from lead_same (by decide)]
      rfl
    rw [parseGo, if_neg (by rw [hsil]; decide), slack_read hb hp hl, if_pos rfl]
    exact hP 1 false (by omega)
end Go.Proofs.YtophilmjfdhhaaaGreatDoor
