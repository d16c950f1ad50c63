/- Rows of numbers of layer 25, both sides; the reference's Number. -/
import Derived.Test.YtophilmjfdhhaaaGreatDoorFg
namespace Go.Proofs.YtophilmjfdhhaaaGreatDoor
open Go Go.RowKit Go.Shelf Go.Sort
set_option linter.unusedVariables false
set_option linter.unusedSimpArgs false
set_option maxRecDepth 100000
set_option maxHeartbeats 1600000

theorem numR_bad {s : ByteArray} {k : Nat} (hk : k < s.size) (hb : dgt s[k] = false) : numR s.data.toList = none := by
  unfold numR
  rw [if_pos (.inr (.inr (.inl (all_bad hk hb))))]
theorem take_atF (s : ByteArray) (k : Nat) (hk : k < s.size) : s.data.toList.take (k + 1) = s.data.toList.take k ++ [s[k]] := by
  rw [List.take_succ_eq_append_getElem (by rw [size_list]; exact hk), byte_at s k hk, List.getD, List.getElem?_eq_getElem (by rw [size_list]; exact hk)]
  rfl
theorem dN_app (a : Nat) (x y : List UInt8) : dN a (x ++ y) = dN (dN a x) y := by unfold dN; rw [List.foldl_append]
theorem numR_over {l : List UInt8} (k : Nat) (hd : ∀ c ∈ l.take k, dgt c = true) (hb : 9223372036854775807 < decV (l.take k)) : numR l = none := by
  unfold numR
  refine if_pos ?_
  by_cases ha : l.all dgt = true
  · refine .inr (.inr (.inr ?_))
    have h := List.all_eq_true.1 ha
    rw [decV_dN _ hd] at hb
    rw [decV_dN _ h]
    have e : dN 0 l = dN (dN 0 (l.take k)) (l.drop k) := by rw [← dN_app, List.take_append_drop]
    have := dN_ge (l.drop k) (dN 0 (l.take k))
    omega
  · exact .inr (.inr (.inl (by simpa using ha)))
theorem numR_good {s : ByteArray} (h0 : 0 < s.size) (hl : ¬ (1 < s.size ∧ (s.data.toList.getD 0 0).toNat = 48)) (h : ∀ c ∈ s.data.toList.take s.size, dgt c = true) (hb : decV (s.data.toList.take s.size) ≤ 9223372036854775807) : numR s.data.toList = some (decV (s.data.toList.take s.size)) := by
  rw [List.take_of_length_le (by rw [size_list]; exact Nat.le_refl _)] at h hb ⊢
  unfold numR
  refine if_neg ?_
  rintro (h1 | h1 | h1 | h1)
  · have := size_list s; rw [h1] at this; simp at this; omega
  · rw [size_list] at h1; exact hl h1
  · rw [List.all_eq_true.2 h] at h1; cases h1
  · omega
theorem rNumber_any (s : ByteArray) (W : World) (hs : s.size ≤ 140737488355328) :
    Calls Tryz.prog 88 #[.string s] W fun e w' => e = .returned (.tuple #[.int .i64 ((numR s.data.toList).getD 0), .bool (numR s.data.toList).isSome]) ∧ W = w' := by
  by_cases h0 : s.size = 0
  · have e : numR s.data.toList = none := by unfold numR; rw [if_pos (.inl (List.eq_nil_of_length_eq_zero (by rw [size_list]; exact h0)))]
    rw [e]
    have h0' : ((s.size : Int) == 0) = true := by rw [h0]; rfl
    have h0'' : (s.size == 0) = true := by rw [h0]; rfl
    clear e
    go_enter Tryz.func88, Tryz.ntmps88
    go_wp2_with fail
    go_ret2
    exact ⟨rfl, rfl⟩
  have hp : 0 < s.size := by omega
  have h0' : ((s.size : Int) == 0) = false := by rw [beq_eq_false_iff_ne]; omega
  have hsi : (s.size : Int) ≤ 140737488355328 := by omega
  have e0 := byte_at s 0 hp
  by_cases hl : 1 < s.size ∧ (s.data.toList.getD 0 0).toNat = 48
  · have e : numR s.data.toList = none := by unfold numR; rw [if_pos (.inr (.inl (by rw [size_list]; exact hl)))]
    rw [e]
    have hz0 : ((((s[0]).toNat : Int)) == 48) = true := by rw [e0, hl.2]; rfl
    have hz1 : decide (1 < s.size) = true := decide_eq_true hl.1
    have hz2 : (1 : Int) < (s.size : Int) := by omega
    clear hl e0 e h0
    go_enter Tryz.func88, Tryz.ntmps88
    go_wp2_with fail
    go_ret2
    exact ⟨rfl, rfl⟩
  · have BAD := Lib.hid (fun k (hk : k < s.size) (hb : dgt s[k] = false) => numR_bad hk hb)
    have OVR := Lib.hid (fun k hd hb => numR_over (l := s.data.toList) k hd hb)
    have OKV := Lib.hid (fun h hb => numR_good (s := s) hp hl h hb)
    have TK := Lib.hid (take_atF s)
    have hl2 : ¬ (1 < s.size ∧ (s[0]).toNat = 48) := by rw [e0]; exact hl
    generalize numR s.data.toList = R at *
    clear hl e0 h0
    rcases (by omega : (s[0]).toNat ≠ 48 ∧ 1 < s.size ∨ (s[0]).toNat ≠ 48 ∧ ¬ 1 < s.size ∨ (s[0]).toNat = 48 ∧ ¬ 1 < s.size) with ⟨hz, hs1⟩ | ⟨hz, hs1⟩ | ⟨hz, hs1⟩
    all_goals
      first
        | (have hz0 : ((((s[0]).toNat : Int)) == 48) = true := by rw [hz]; rfl)
        | (have hz0 : ((((s[0]).toNat : Int)) == 48) = false := by rw [beq_eq_false_iff_ne]; omega)
      first
        | (have hz1 : decide (1 < s.size) = true := decide_eq_true hs1)
        | (have hz1 : decide (1 < s.size) = false := decide_eq_false hs1)
      first
        | (have hz2 : (1 : Int) < (s.size : Int) := by omega)
        | (have hz2 : ¬ (1 : Int) < (s.size : Int) := by omega)
      clear hz hl2 hs1
      go_enter Tryz.func88, Tryz.ntmps88
      go_wp2_with fail
      clear hz0 hz1 hz2 h0'
      go_loopw [4, 5] (fun v i wr => ∃ pos : Nat, v = .int .i64 (decV (s.data.toList.take pos)) ∧ i = .int .i64 pos ∧ wr = W ∧ pos ≤ s.size ∧ decV (s.data.toList.take pos) ≤ 9223372036854775807 ∧ Hid (∀ c ∈ s.data.toList.take pos, dgt c = true)) (fun _ i _ => s.size - (intOf i).toNat)
      case atStart => exact ⟨0, by simp [decV], by go_num, rfl, Nat.zero_le _, by simp [decV], Lib.hid (fun c h => by simp at h)⟩
      case round =>
        obtain ⟨pos, rfl, rfl, rfl, hpos, hv1, hok⟩ := hrel
        have hpi : (pos : Int) ≤ 140737488355328 := by omega
        have hv0 := (decV_bound _ hok.out).1
        by_cases hlt : pos < s.size
        · have hlt' : (pos : Int) < (s.size : Int) := by omega
          have hix : ∀ w, (Instr.index 9 (.string s) (.int .i64 (pos : Int))).run Tryz.prog w = .ok (.int .u8 (s[pos]).toNat) w := fun w => by
            rw [run_index_string _ _ _ _ _ Tryz.underlying9]; simp [hlt]
          have TKp := TK.out pos hlt
          have DS : Hid (decV (s.data.toList.take (pos + 1)) = 10 * decV (s.data.toList.take pos) + (((s[pos]).toNat : Int) - 48)) := Lib.hid (by rw [TKp, decV_snoc])
          have HN : Hid (dgt s[pos] = true → ∀ c ∈ s.data.toList.take (pos + 1), dgt c = true) := Lib.hid (fun h c hc => by
            rw [TKp] at hc
            rcases List.mem_append.1 hc with hc | hc
            · exact hok.out c hc
            · rw [List.mem_singleton.1 hc]; exact h)
          have BADp := Lib.hid (BAD.out pos hlt)
          have OVp := Lib.hid (OVR.out (pos + 1))
          have hdg : dgt s[pos] = decide (48 ≤ (s[pos]).toNat ∧ (s[pos]).toNat ≤ 57) := rfl
          clear TKp
          generalize decV (s.data.toList.take pos) = v at *
          generalize dgt s[pos] = dg at *
          generalize (s[pos]).toNat = n at *
          clear hlt
          by_cases hb : 48 ≤ n ∧ n ≤ 57
          · have NX := Lib.hid (HN.out (by rw [hdg]; exact decide_eq_true hb))
            have f0 : ¬ (n : Int) < 48 := by omega
            have f1 : decide ((57 : Int) < (n : Int)) = false := decide_eq_false (by omega)
            have f1' : ¬ (57 : Int) < (n : Int) := by omega
            have f2 : 48 ≤ (n : Int) := by omega
            have f3 : (n : Int) ≤ 57 := by omega
            have ht : (9223372036854775807 - ((n : Int) - 48)).tdiv 10 = (9223372036854775807 - ((n : Int) - 48)) / 10 := Int.tdiv_eq_ediv_of_nonneg (by omega)
            clear hb hdg HN BADp hok
            by_cases hov : (9223372036854775807 - ((n : Int) - 48)) / 10 < v
            · have HR := Lib.hid (OVp.out NX.out (by rw [DS.out]; omega))
              go_wp2_with fail
              go_ret2
              exact ⟨by rw [HR.out]; rfl, rfl⟩
            · have hv2 : 10 * v + ((n : Int) - 48) ≤ 9223372036854775807 := by omega
              go_wp2_with fail
              go_roundw
              case rel => exact ⟨pos + 1, by rw [DS.out]; congr 1; omega, by go_num, trivial, by omega, by rw [DS.out]; exact hv2, NX⟩
              case measure => show s.size - ((pos : Int) + 1).toNat < s.size - ((pos : Int)).toNat; omega
          · have HR := Lib.hid (BADp.out (by rw [hdg]; exact decide_eq_false hb))
            clear hdg HN BADp hok
            by_cases hlo : n < 48
            · have f0 : (n : Int) < 48 := by omega
              clear hb hlo
              go_wp2_with fail
              go_ret2
              exact ⟨by rw [HR.out]; rfl, rfl⟩
            · have f0 : ¬ (n : Int) < 48 := by omega
              have f1 : decide ((57 : Int) < (n : Int)) = true := decide_eq_true (by omega)
              clear hb hlo
              go_wp2_with fail
              go_ret2
              exact ⟨by rw [HR.out]; rfl, rfl⟩
        · obtain rfl : pos = s.size := by omega
          have HR := Lib.hid (OKV.out hok.out hv1)
          generalize decV (s.data.toList.take s.size) = v at *
          clear hlt hok
          go_wp2_with fail
          go_ret2
          exact ⟨by rw [HR.out]; rfl, rfl⟩
/-- A row of words as numbers. -/
def numsGo : List (List UInt8) → Option (List Int)
  | [] => some []
  | x :: r => match numR x with | none => none | some v => match numsGo r with | none => none | some o => some (v :: o)
def numsS (l : List (List UInt8)) : Option (List Int) := match numsGo l with | some (v :: o) => some (v :: o) | _ => none
def preO (o : List Int) (r : Option (List Int)) : Option (List Int) := match r with | none => none | some t => some (o ++ t)
theorem numsGo_at {l : List (List UInt8)} {i : Nat} (hi : i < l.length) (o : List Int) : preO o (numsGo (l.drop i)) = match numR (l.getD i []) with | none => none | some v => preO (o ++ [v]) (numsGo (l.drop (i + 1))) := by
  rw [List.drop_eq_getElem_cons hi, List.getD, List.getElem?_eq_getElem hi]
  simp only [Option.getD_some, numsGo]
  cases numR l[i] with
  | none => rfl
  | some v =>
    simp only
    cases numsGo (l.drop (i + 1)) with
    | none => rfl
    | some t => simp [preO]
theorem numsGo_end (l : List (List UInt8)) (o : List Int) : preO o (numsGo (l.drop l.length)) = some o := by
  rw [List.drop_eq_nil_of_le (Nat.le_refl _)]; simp [numsGo, preO]
theorem numsGo_pre (l : List (List UInt8)) : preO [] (numsGo l) = numsGo l := by cases h : numsGo l <;> simp [preO]
theorem numsS_none {l : List (List UInt8)} (h : numsGo l = none) : numsS l = none := by unfold numsS; rw [h]
theorem numsS_nil {l : List (List UInt8)} (h : numsGo l = some []) : numsS l = none := by unfold numsS; rw [h]
theorem numsS_some {l : List (List UInt8)} {o : List Int} (h : numsGo l = some o) (ho : 0 < o.length) : numsS l = some o := by
  unfold numsS; rw [h]; cases o with | nil => simp at ho | cons a t => rfl
theorem numsGo_bounds : ∀ {l : List (List UInt8)} {o : List Int}, numsGo l = some o → o.length = l.length ∧ ∀ x ∈ o, 0 ≤ x ∧ x ≤ 9223372036854775807
  | [], o, h => by simp [numsGo] at h; subst h; simp
  | x :: r, o, h => by
    unfold numsGo at h
    cases hx : numR x with
    | none => rw [hx] at h; cases h
    | some v =>
      rw [hx] at h
      cases hr : numsGo r with
      | none => rw [hr] at h; cases h
      | some t =>
        rw [hr] at h
        simp at h
        subst h
        have := numsGo_bounds hr
        refine ⟨by simp [this.1], fun y hy => ?_⟩
        rcases List.mem_cons.1 hy with rfl | hy
        · exact numR_bounds hx
        · exact this.2 y hy
theorem numsS_bounds {l : List (List UInt8)} {o : List Int} (h : numsS l = some o) : o.length = l.length ∧ 0 < o.length ∧ ∀ x ∈ o, 0 ≤ x ∧ x ≤ 9223372036854775807 := by
  unfold numsS at h
  split at h
  · rename_i v t hv
    injection h with h
    subst h
    have := numsGo_bounds hv
    exact ⟨this.1, by simp, this.2⟩
  · cases h
theorem Tryz.infoIntF : (Tryz.prog.info? 3).map (fun i => (i.zero, i.size, i.bytes)) = some (some (.int .i64 0), 1, 8) := by kernel_rfl
theorem numbers_c (l : List (List UInt8)) (v : Value) (W : World) (E : Env W) (h : RS W v l) (hl : l.length ≤ 16777216) (hb : ∀ x ∈ l, x.length ≤ 16777216) :
    Calls Tryz.prog 57 #[v] W fun e w' => (∃ u, (∃ p k c, u = .slice p k c) ∧ e = .returned (.tuple #[u, .bool (numsS l).isSome]) ∧ ∀ o, numsS l = some o → w'.ownsRow W.heap.size 3 1 u o.length (o.map (Value.int .i64))) ∧ Below W.heap.size W w' := by
  obtain ⟨i0, hi, hz0, hz1, hz2⟩ := info_of1F Tryz.infoIntF
  obtain ⟨p, cap, rfl, hc⟩ := h.out
  have HC := Lib.hid hc
  have EE := Lib.hid E
  have HB : Hid (∀ i, i < l.length → (l.getD i []).length ≤ 16777216) := Lib.hid (fun i hi => by rw [List.getD, List.getElem?_eq_getElem hi]; exact hb _ (List.getElem_mem hi))
  have AT := Lib.hid (fun i hi o => numsGo_at (l := l) (i := i) hi o)
  have EN := Lib.hid (numsGo_end l)
  have ST : Hid (preO [] (numsGo (l.drop 0)) = numsGo l) := Lib.hid (numsGo_pre l)
  have F1 := Lib.hid (fun h => numsS_none (l := l) h)
  have F2 := Lib.hid (fun h => numsS_nil (l := l) h)
  have F3 := Lib.hid (fun o h ho => numsS_some (l := l) (o := o) h ho)
  generalize numsS l = S at *
  generalize numsGo l = R at *
  clear h hc hb E
  go_enter Tryz.func57, Tryz.ntmps57
  go_wp2_with fail
  go_loopw [4, 11] (fun a iv wr => ∃ (i : Nat) (o : List Int), iv = .int .i64 i ∧ i ≤ l.length ∧ Hid (o.length = i) ∧ wr.ownsRow W.heap.size 3 1 a o.length (o.map (Value.int .i64)) ∧ Below W.heap.size W wr ∧ Hid (preO o (numsGo (l.drop i)) = R)) (fun _ iv _ => l.length - (intOf iv).toNat)
  case atStart => exact ⟨0, [], by go_num, Nat.zero_le _, Lib.hid rfl, World.ownsRow_nil _ _ _ _, Below.refl _ _, ST⟩
  case round =>
    obtain ⟨i, o, rfl, hile, hol, hown, hbe, hr⟩ := hrel
    have hii : (i : Int) ≤ 16777216 := by omega
    have hoi : o.length ≤ 16777216 := by rw [hol.out]; omega
    have OWN := Lib.hid hown
    have HBE := Lib.hid hbe
    have HSZ := Lib.hid hbe.size
    obtain ⟨pa, ca, rfl⟩ := own_form1 hown
    by_cases hlt : i < l.length
    · have hlt' : (i : Int) < (l.length : Int) := by omega
      obtain ⟨b, off, rfl, hbl, g⟩ := HC.out i hlt
      have g' := (hbe.cell (p := ⟨b, off + i, none⟩) hbl).trans g
      have MB := Lib.hid (show o.length + 1 ≤ maxLen ∧ (o.length + 1) * 8 ≤ 140737488355328 from ⟨by unfold maxLen; omega, by omega⟩)
      have ATi := AT.out i hlt o
      have NC := Lib.hid (number_c ⟨(l.getD i []).toArray⟩ _ (EE.out.below hbe) (by rw [sz]; have := HB.out i hlt; omega))
      simp only [] at NC
      rw [num_same] at NC
      clear hown hbe g
      generalize l.getD i [] = x at *
      cases hx : numR x with
      | none =>
        rw [hx] at NC ATi
        have HR : Hid (S = none) := Lib.hid (F1.out (by rw [← hr.out, ATi]))
        clear hx ATi hlt
        go_wp2_with (go_at_call 83; refine NC.out.mono ?_; rintro e w2 ⟨⟨y, rfl, hy⟩, hb2⟩)
        go_ret2
        exact ⟨⟨_, ⟨_, _, _, rfl⟩, by rw [HR.out]; rfl, fun o ho => by rw [HR.out] at ho; cases ho⟩, HBE.out.trans (hb2.mono HSZ.out)⟩
      | some y =>
        rw [hx] at NC ATi
        have NX : Hid (preO (o ++ [y]) (numsGo (l.drop (i + 1))) = R) := Lib.hid (by rw [← hr.out, ATi])
        clear hx ATi hlt
        go_wp2_with (first | (go_at_call 83; refine NC.out.mono ?_; rintro e w2 ⟨⟨y', rfl, hy⟩, hb2⟩; obtain rfl := hy y rfl; have OW2 := Lib.hid (own_below1 OWN.out hb2); have BE2 := Lib.hid (HBE.out.trans (hb2.mono HSZ.out)); have SZ2 := Lib.hid BE2.out.size) | (at_builtin; refine appendN2 (W := W) rfl _ _ 23 rfl W.heap.size 3 i0 _ 1 8 Tryz.underlying23 hi hz0 hz1 hz2 rfl (by decide) _ _ _ rfl OW2.out _ [.int .i64 y'] _ rfl rfl rfl (by intro u hu; simp at hu; subst hu; rfl) MB.out.1 MB.out.2 SZ2.out BE2.out ?_; intro m' w3 hown3 hbe3 hgr))
        go_roundw
        case rel => exact ⟨i + 1, o ++ [y'], by go_num, by omega, Lib.hid (by simp; exact hol.out), by rw [List.length_append, List.map_append]; exact hown3, hbe3, NX⟩
        case measure => show l.length - ((i : Int) + 1).toNat < l.length - ((i : Int)).toNat; omega
    · obtain rfl : i = l.length := by omega
      have HX : Hid (R = some o) := Lib.hid (by rw [← hr.out]; exact EN.out o)
      have hlt' : ¬ (l.length : Int) < (l.length : Int) := by omega
      clear hlt hown hbe
      by_cases ho : 0 < o.length
      · have HS := Lib.hid (F3.out o HX.out ho)
        have ho' : (0 : Int) < (o.length : Int) := by omega
        have hod : decide (0 < o.length) = true := decide_eq_true ho
        clear ho
        go_wp2_with fail
        go_ret2
        refine ⟨⟨_, ⟨_, _, _, rfl⟩, by rw [HS.out]; rfl, fun o' ho' => ?_⟩, HBE.out⟩
        rw [HS.out] at ho'
        injection ho' with ho'
        subst ho'
        exact OWN.out
      · have ho0 : o = [] := List.eq_nil_of_length_eq_zero (by omega)
        have HS := Lib.hid (F2.out (by rw [HX.out, ho0]))
        have hod : decide (0 < o.length) = false := decide_eq_false ho
        clear ho0
        go_wp2_with fail
        go_ret2
        exact ⟨⟨_, ⟨_, _, _, rfl⟩, by rw [HS.out]; rfl, fun o' ho' => by rw [HS.out] at ho'; cases ho'⟩, HBE.out⟩
end Go.Proofs.YtophilmjfdhhaaaGreatDoor
