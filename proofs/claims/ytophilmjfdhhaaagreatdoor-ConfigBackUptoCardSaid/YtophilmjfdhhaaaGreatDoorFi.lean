/- Rows of numbers of the reference of layer 25; lines that say nothing; what is asked of an item: name, range, depth, room. -/
import Derived.Test.YtophilmjfdhhaaaGreatDoorFh
namespace Go.Proofs.YtophilmjfdhhaaaGreatDoor
open Go Go.RowKit Go.Shelf Go.Sort
set_option linter.unusedVariables false
set_option linter.unusedSimpArgs false
set_option maxRecDepth 100000
set_option maxHeartbeats 1600000

theorem rall_c (l : List (List UInt8)) (v : Value) (W : World) (h : RS W v l) (hl : l.length ≤ 16777216) (hb : ∀ x ∈ l, x.length ≤ 16777216) :
    Calls Tryz.prog 60 #[v] W fun e w' => (∃ u, (∃ p k c, u = .slice p k c) ∧ e = .returned (.tuple #[u, .bool (numsS l).isSome]) ∧ ∀ o, numsS l = some o → w'.ownsRow W.heap.size 3 1 u o.length (o.map (Value.int .i64))) ∧ Below W.heap.size W w' := by
  obtain ⟨i0, hi, hz0, hz1, hz2⟩ := info_of1F Tryz.infoIntF
  obtain ⟨p, cap, rfl, hc⟩ := h.out
  have HC := Lib.hid hc
  have HB : Hid (∀ i, i < l.length → (l.getD i []).length ≤ 16777216) := Lib.hid (fun i hi => by rw [List.getD, List.getElem?_eq_getElem hi]; exact hb _ (List.getElem_mem hi))
  have AT := Lib.hid (fun i hi o => numsGo_at (l := l) (i := i) hi o)
  have EN := Lib.hid (numsGo_end l)
  have ST : Hid (preO [] (numsGo (l.drop 0)) = numsGo l) := Lib.hid (numsGo_pre l)
  have F1 := Lib.hid (fun h => numsS_none (l := l) h)
  have F2 := Lib.hid (fun h => numsS_nil (l := l) h)
  have F3 := Lib.hid (fun o h ho => numsS_some (l := l) (o := o) h ho)
  generalize numsS l = S at *
  generalize numsGo l = R at *
  clear h hc hb
  go_enter Tryz.func60, Tryz.ntmps60
  go_wp2_with fail
  go_loopw [4, 5] (fun a iv wr => ∃ (i : Nat) (o : List Int), iv = .int .i64 i ∧ i ≤ l.length ∧ Hid (o.length = i) ∧ wr.ownsRow W.heap.size 3 1 a o.length (o.map (Value.int .i64)) ∧ Below W.heap.size W wr ∧ Hid (preO o (numsGo (l.drop i)) = R)) (fun _ iv _ => l.length - (intOf iv).toNat)
  case atStart => exact ⟨0, [], by go_num, Nat.zero_le _, Lib.hid rfl, World.ownsRow_nil _ _ _ _, Below.refl _ _, ST⟩
  case round =>
    obtain ⟨i, o, rfl, hile, hol, hown, hbe, hr⟩ := hrel
    have hii : (i : Int) ≤ 16777216 := by omega
    have hoi : o.length ≤ 16777216 := by rw [hol.out]; omega
    have OWN := Lib.hid hown
    have HBE := Lib.hid hbe
    have HSZ := Lib.hid hbe.size
    obtain ⟨pa, ca, rfl⟩ := own_form1 hown
    by_cases hlt : i < l.length
    · have hlt' : (i : Int) < (l.length : Int) := by omega
      obtain ⟨b, off, rfl, hbl, g⟩ := HC.out i hlt
      have g' := (hbe.cell (p := ⟨b, off + i, none⟩) hbl).trans g
      have MB := Lib.hid (show o.length + 1 ≤ maxLen ∧ (o.length + 1) * 8 ≤ 140737488355328 from ⟨by unfold maxLen; omega, by omega⟩)
      have ATi := AT.out i hlt o
      have NC := Lib.hid (rNumber_any ⟨(l.getD i []).toArray⟩ wr (by rw [sz]; have := HB.out i hlt; omega))
      simp only [] at NC
      clear hown hbe g
      generalize l.getD i [] = x at *
      cases hx : numR x with
      | none =>
        rw [hx] at NC ATi
        have HR : Hid (S = none) := Lib.hid (F1.out (by rw [← hr.out, ATi]))
        clear hx ATi hlt
        go_wp2_with (go_at_call 88; refine NC.out.mono ?_; rintro e w2 ⟨rfl, rfl⟩)
        go_ret2
        exact ⟨⟨_, ⟨_, _, _, rfl⟩, by rw [HR.out]; rfl, fun o ho => by rw [HR.out] at ho; cases ho⟩, HBE.out⟩
      | some y =>
        rw [hx] at NC ATi
        have NX : Hid (preO (o ++ [y]) (numsGo (l.drop (i + 1))) = R) := Lib.hid (by rw [← hr.out, ATi])
        clear hx ATi hlt
        go_wp2_with (first | (go_at_call 88; refine NC.out.mono ?_; rintro e w2 ⟨rfl, rfl⟩) | (at_builtin; refine appendN2 (W := W) rfl _ _ 23 rfl W.heap.size 3 i0 _ 1 8 Tryz.underlying23 hi hz0 hz1 hz2 rfl (by decide) _ _ _ rfl OWN.out _ [.int .i64 y] _ rfl rfl rfl (by intro u hu; simp at hu; subst hu; rfl) MB.out.1 MB.out.2 HSZ.out HBE.out ?_; intro m' w3 hown3 hbe3 hgr))
        go_roundw
        case rel => exact ⟨i + 1, o ++ [y], by go_num, by omega, Lib.hid (by simp; exact hol.out), by rw [List.length_append, List.map_append]; exact hown3, hbe3, NX⟩
        case measure => show l.length - ((i : Int) + 1).toNat < l.length - ((i : Int)).toNat; omega
    · obtain rfl : i = l.length := by omega
      have HX : Hid (R = some o) := Lib.hid (by rw [← hr.out]; exact EN.out o)
      have hlt' : ¬ (l.length : Int) < (l.length : Int) := by omega
      clear hlt hown hbe
      by_cases ho : 0 < o.length
      · have HS := Lib.hid (F3.out o HX.out ho)
        have ho' : (0 : Int) < (o.length : Int) := by omega
        have hod : decide (0 < o.length) = true := decide_eq_true ho
        clear ho
        go_wp2_with fail
        go_ret2
        refine ⟨⟨_, ⟨_, _, _, rfl⟩, by rw [HS.out]; rfl, fun o' ho' => ?_⟩, HBE.out⟩
        rw [HS.out] at ho'
        injection ho' with ho'
        subst ho'
        exact OWN.out
      · have ho0 : o = [] := List.eq_nil_of_length_eq_zero (by omega)
        have HS := Lib.hid (F2.out (by rw [HX.out, ho0]))
        have hod : decide (0 < o.length) = false := decide_eq_false ho
        clear ho0
        go_wp2_with fail
        go_ret2
        exact ⟨⟨_, ⟨_, _, _, rfl⟩, by rw [HS.out]; rfl, fun o' ho' => by rw [HS.out] at ho'; cases ho'⟩, HBE.out⟩

/-- A line without the blanks in front. -/
def lead (l : List UInt8) : List UInt8 := l.dropWhile (· == 32)
/-- Does a line say nothing? -/
def silS (l : List UInt8) : Bool := match lead l with | [] => true | c :: _ => c == 35
theorem trimL_c (s : ByteArray) (W : World) : Calls Tryz.prog 56 #[.string s, .string ⟨#[32]⟩] W fun e w' => e = .returned (str (lead s.data.toList)) ∧ Below W.heap.size W w' := by
  refine (Tryz.strings_TrimLeft_one s 32 (by decide) W).mono ?_
  rintro e w' ⟨rfl, h⟩
  exact ⟨rfl, by rw [h]; exact Below.refl _ _⟩
theorem silent_c (s : ByteArray) (W : World) : Calls Tryz.prog 24 #[.string s] W fun e w' => e = .returned (.bool (silS s.data.toList)) ∧ Below W.heap.size W w' := by
  have TL := Lib.hid (trimL_c s W)
  unfold silS
  generalize lead s.data.toList = L at *
  cases L with
  | nil =>
    go_enter Tryz.func24, Tryz.ntmps24
    go_wp2_with (go_at_call 56; refine TL.out.mono ?_; rintro e w1 ⟨rfl, hb1⟩)
    go_ret
    exact ⟨rfl, hb1⟩
  | cons c r =>
    have hxe : (⟨(c :: r).toArray⟩ : ByteArray).toList.isEmpty = false := by rw [ByteArray.toList_eq]; rfl
    have hix : ∀ w, (Instr.index 9 (str (c :: r)) (.int .i64 0)).run Tryz.prog w = .ok (.int .u8 c.toNat) w := fun w => by
      rw [run_index_string _ _ _ _ _ Tryz.underlying9, dif_pos ⟨by decide, by rw [sz]; simp <;> omega⟩]; rfl
    show Calls _ _ _ _ fun e w' => e = .returned (.bool (c == 35)) ∧ Below W.heap.size W w'
    have he : ((c.toNat : Int) == 35) = (c == 35) := by
      rw [Bool.eq_iff_iff, beq_iff_eq, beq_iff_eq]
      constructor
      · intro h; exact UInt8.toNat_inj.1 (by have : c.toNat = 35 := by omega
                                             rw [this]; rfl)
      · rintro rfl; rfl
    generalize (c == 35) = R at *
    cases R
    all_goals
      go_enter Tryz.func24, Tryz.ntmps24
      go_wp2_with (go_at_call 56; refine TL.out.mono ?_; rintro e w1 ⟨rfl, hb1⟩)
      go_ret
      exact ⟨rfl, hb1⟩
theorem lead_at {l : List UInt8} {i : Nat} (h : ∀ k, k < i → l.getD k 0 = 32) (hi : i ≤ l.length) : lead l = lead (l.drop i) := by
  induction i with
  | zero => rfl
  | succ i ih =>
    rw [ih (fun k hk => h k (by omega)) (by omega)]
    have h32 := h i (by omega)
    rw [List.drop_eq_getElem_cons (by omega)]
    rw [List.getD, List.getElem?_eq_getElem (by omega)] at h32
    simp only [Option.getD_some] at h32
    unfold lead
    rw [List.dropWhile_cons, h32]
    rfl
theorem silS_hit {l : List UInt8} {i : Nat} (h : ∀ k, k < i → l.getD k 0 = 32) (hi : i < l.length) (hn : l.getD i 0 ≠ 32) : silS l = (l.getD i 0 == 35) := by
  unfold silS
  rw [lead_at h (by omega), List.drop_eq_getElem_cons hi]
  rw [List.getD, List.getElem?_eq_getElem hi] at hn ⊢
  simp only [Option.getD_some] at hn ⊢
  unfold lead
  rw [List.dropWhile_cons, if_neg (by simpa using hn)]
theorem silS_end {l : List UInt8} (h : ∀ k, k < l.length → l.getD k 0 = 32) : silS l = true := by
  unfold silS
  rw [lead_at h (Nat.le_refl _), List.drop_eq_nil_of_le (Nat.le_refl _)]
  rfl
theorem rsilent_c (s : ByteArray) (W : World) (hs : s.size ≤ 140737488355328) : Calls Tryz.prog 27 #[.string s] W fun e w' => e = .returned (.bool (silS s.data.toList)) ∧ W = w' := by
  have HIT := Lib.hid (fun i h hi hn => silS_hit (l := s.data.toList) (i := i) h hi hn)
  have EN := Lib.hid (fun h => silS_end (l := s.data.toList) h)
  have SZ := Lib.hid (size_list s)
  have BA := Lib.hid (byte_at s)
  generalize silS s.data.toList = R at *
  have hsi : (s.size : Int) ≤ 140737488355328 := by omega
  go_enter Tryz.func27, Tryz.ntmps27
  go_wp2_with fail
  go_loopw [3] (fun i wr => ∃ pos : Nat, i = .int .i64 pos ∧ wr = W ∧ pos ≤ s.size ∧ Hid (∀ k, k < pos → s.data.toList.getD k 0 = 32)) (fun i _ => s.size - (intOf i).toNat)
  case atStart => exact ⟨0, by go_num, rfl, Nat.zero_le _, Lib.hid (fun k hk => absurd hk (Nat.not_lt_zero _))⟩
  case round =>
    obtain ⟨pos, rfl, rfl, hpos, hok⟩ := hrel
    have hpi : (pos : Int) ≤ 140737488355328 := by omega
    by_cases hlt : pos < s.size
    · have hlt' : (pos : Int) < (s.size : Int) := by omega
      have hix : ∀ w, (Instr.index 9 (.string s) (.int .i64 (pos : Int))).run Tryz.prog w = .ok (.int .u8 (s[pos]).toNat) w := fun w => by
        rw [run_index_string _ _ _ _ _ Tryz.underlying9]; simp [hlt]
      have HP := Lib.hid (HIT.out pos hok.out (by rw [SZ.out]; exact hlt))
      rw [← BA.out pos hlt] at HP
      have NX : Hid (s[pos] = 32 → ∀ k, k < pos + 1 → s.data.toList.getD k 0 = 32) := Lib.hid (fun hg k hk => by
        rcases Nat.lt_or_ge k pos with h | h
        · exact hok.out k h
        · obtain rfl : k = pos := by omega
          rw [← BA.out k hlt]; exact hg)
      have hb : ∀ c : UInt8, s[pos] = c ↔ ((s[pos]).toNat : Int) = c.toNat := fun c => ⟨fun h => by rw [h], fun h => UInt8.toNat_inj.1 (by omega)⟩
      have HBB := Lib.hid hb
      have h35 := HBB.out 35
      have h32 := HBB.out 32
      generalize s[pos] = c at *
      clear hlt hb
      rcases (by by_cases h : c = 32
                 · exact .inl h
                 · by_cases h' : c = 35
                   · exact .inr (.inl h')
                   · exact .inr (.inr ⟨h, h'⟩) : c = 32 ∨ c = 35 ∨ (c ≠ 32 ∧ c ≠ 35)) with h | h | ⟨h, h'⟩
      · subst h
        have NX2 := Lib.hid (NX.out rfl)
        clear h35 h32
        go_wp2_with fail
        go_roundw
        case rel => exact ⟨pos + 1, by go_num, trivial, by omega, NX2⟩
        case measure => show s.size - ((pos : Int) + 1).toNat < s.size - ((pos : Int)).toNat; omega
      · subst h
        have HR := Lib.hid (HP.out (by decide))
        clear h35 h32
        go_wp2_with fail
        go_ret
        exact ⟨by rw [HR.out]; rfl, rfl⟩
      · have HR := Lib.hid (HP.out h)
        have g0 : ((c.toNat : Int) == 35) = false := by rw [beq_eq_false_iff_ne]; exact fun e => h' (h35.2 e)
        have g1 : ((c.toNat : Int) != 32) = true := by rw [bne_iff_ne]; exact fun e => h (h32.2 e)
        have HE : Hid ((c == 35) = false) := Lib.hid (by rw [beq_eq_false_iff_ne]; exact h')
        clear h35 h32 h h'
        go_wp2_with fail
        go_ret
        exact ⟨by rw [HR.out, HE.out]; rfl, rfl⟩
    · obtain rfl : pos = s.size := by omega
      have HR : Hid (R = true) := Lib.hid (EN.out (fun k hk => hok.out k (by rw [SZ.out] at hk; omega)))
      have hlt' : ¬ (s.size : Int) < (s.size : Int) := by omega
      clear hlt
      go_wp2_with fail
      go_ret
      exact ⟨by rw [HR.out]; rfl, rfl⟩
end Go.Proofs.YtophilmjfdhhaaaGreatDoor
