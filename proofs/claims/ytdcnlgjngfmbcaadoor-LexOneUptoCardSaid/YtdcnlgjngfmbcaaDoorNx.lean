/- strings.Split at '/': the pieces; lex.Path and titheref24.Path at every text. -/
import Derived.Test.YtdcnlgjngfmbcaaDoorNv
import Derived.Test.YtdcnlgjngfmbcaaDoorNa
import Derived.Test.YtdcnlgjngfmbcaaDoorLl
import Derived.Lib.SplitLaws
import Derived.Lib.CountLaws
namespace Go.Proofs.YtdcnlgjngfmbcaaDoor
open Go Go.RowKit Go.Shelf
set_option linter.unusedVariables false
set_option linter.unusedSimpArgs false
set_option maxRecDepth 100000
set_option maxHeartbeats 1600000

theorem split_c (c : UInt8) : ∀ (n : Nat) (s : ByteArray), s.size ≤ n → (Lib.splitB ⟨#[c]⟩ 0 (Lib.countB s ⟨#[c]⟩) s).map (fun x => x.data.toList) = splitC c [] s.data.toList := by
  intro n
  induction n with
  | zero =>
    intro s hs
    have : s = ⟨#[]⟩ := nil_of_size (by omega)
    subst this
    have h : Lib.indexB ⟨#[]⟩ ⟨#[c]⟩ = -1 := by
      rcases Lib.indexB_cases ⟨#[]⟩ ⟨#[c]⟩ with h | ⟨i, _, hi⟩
      · exact h
      · have : (⟨#[c]⟩ : ByteArray).size = 1 := rfl
        have h0 : (⟨#[]⟩ : ByteArray).size = 0 := rfl
        omega
    rw [Lib.countB_miss _ _ h]
    rfl
  | succ n ih =>
    intro s hs
    have hz : (⟨#[c]⟩ : ByteArray).size = 1 := rfl
    have hc := cut_cutAt c s.data.toList
    rw [splitC_cut]
    rcases Lib.indexB_cases s ⟨#[c]⟩ with h | ⟨i, h, hroom⟩
    · have h' : Lib.index s.data.toList [c] = -1 := h
      rw [Lib.countB_miss _ _ h]
      unfold Lib.cut at hc
      rw [if_neg (by rw [h']; decide)] at hc
      simp only [Prod.mk.injEq] at hc
      have : (cutAt c s.data.toList).2 = none := by
        cases e : (cutAt c s.data.toList).2 with
        | none => rfl
        | some r => rw [e] at hc; simp at hc
      rw [this]
      simp [Lib.splitB_zero, ← hc.1]
    · have h' : Lib.index s.data.toList [c] = (i : Int) := h
      rw [Lib.countB_hit s _ i (by rw [hz]; exact Nat.le_refl _) h, Nat.add_comm, Lib.splitB_hit _ _ _ _ i h]
      unfold Lib.cut at hc
      rw [if_pos (by rw [h']; omega), h'] at hc
      simp only [Prod.mk.injEq, Int.toNat_natCast] at hc
      cases e : (cutAt c s.data.toList).2 with
      | none => rw [e] at hc; simp at hc
      | some r =>
        rw [e] at hc
        simp only [Option.getD_some] at hc
        have hsz : (s.extract (i + (⟨#[c]⟩ : ByteArray).size) s.size).size ≤ n := by rw [ByteArray.size_extract]; omega
        have := ih _ hsz
        simp only [List.map_cons]
        rw [this]
        congr 1
        · rw [extract_list]; simp [← hc.1]
        · rw [extract_list, hz, ← hc.2.1]
          congr 1
          rw [List.take_of_length_le]
          · rfl
          · simp
/-- A text as a path: the names, and the error's number. -/
def pathS (l : List UInt8) : List (List UInt8) × Int :=
  if 264 < l.length then ([], 3) else if 8 < (splitC 47 [] l).length then ([], 4) else if (splitC 47 [] l).all nmS then (splitC 47 [] l, 0) else ([], 4)
theorem ssplit_c (s : ByteArray) (W : World) (E : Env W) (hs : s.size < 4294967281) :
    Calls Tryd.prog 38 #[.string s, .string ⟨#[47]⟩] W fun e w' => ∃ v, e = .returned v ∧ RS w' v (splitC 47 [] s.data.toList) ∧ Below W.heap.size W w' := by
  obtain ⟨m, hm⟩ := E.maxlen
  refine (Tryd.strings_Split s ⟨#[47]⟩ m W hs hm (by decide)).mono ?_
  rintro e w' ⟨rfl, rfl⟩
  have hsp := split_c 47 s.size s (Nat.le_refl _)
  have hlen := Lib.splitB_all ⟨#[47]⟩ (by decide) 0 _ s rfl
  have hC : CellsAt (W.alloc (.cells ((Lib.splitB ⟨#[47]⟩ 0 (Lib.countB s ⟨#[47]⟩) s).map Value.string).toArray 9)) W.heap.size (splitC 47 [] s.data.toList) := by
    unfold CellsAt
    show (W.heap.push _)[W.heap.size]? = _
    rw [Array.getElem?_push_size, ← hsp, List.map_map]
    congr 3
  have hl : (splitC 47 [] s.data.toList).length = Lib.countB s ⟨#[47]⟩ + 1 := by rw [← hsp, List.length_map, hlen]
  have hr := hC.rs
  rw [hl] at hr
  exact ⟨_, rfl, hr, (Below.refl _ _).alloc (Nat.le_refl _) _⟩
theorem path_all {l : List UInt8} (h1 : ¬ 264 < l.length) (h2 : ¬ 8 < (splitC 47 [] l).length) : pathS l = if (splitC 47 [] l).all nmS then (splitC 47 [] l, 0) else ([], 4) := by
  unfold pathS; rw [if_neg h1, if_neg h2]
theorem all_bad {P : List (List UInt8)} {k : Nat} (hk : k < P.length) (h : nmS (P.getD k []) = false) : P.all nmS = false := by
  rw [Bool.eq_false_iff]
  intro e
  rw [List.all_eq_true] at e
  have := e (P.getD k []) (by rw [List.getD, List.getElem?_eq_getElem hk]; exact List.getElem_mem hk)
  rw [h] at this
  cases this
theorem all_ok {P : List (List UInt8)} (h : ∀ k, k < P.length → nmS (P.getD k []) = true) : P.all nmS = true := by
  rw [List.all_eq_true]
  intro x hx
  obtain ⟨k, hk, rfl⟩ := List.getElem_of_mem hx
  have := h k hk
  rwa [List.getD, List.getElem?_eq_getElem hk] at this
theorem split_sz (l : List UInt8) : ∀ k, k < (splitC 47 [] l).length → ((splitC 47 [] l).getD k []).length ≤ l.length := by
  have : ∀ (s cur : List UInt8), ∀ p ∈ splitC 47 cur s, p.length ≤ cur.length + s.length := by
    intro s
    induction s with
    | nil => intro cur p hp; simp [splitC] at hp; subst hp; simp
    | cons b r ih =>
      intro cur p hp
      unfold splitC at hp
      split at hp
      · rcases List.mem_cons.1 hp with rfl | hp
        · simp
        · have := ih [] p hp; simp at this ⊢; omega
      · have := ih (cur ++ [b]) p hp; simp at this ⊢; omega
  intro k hk
  have h := this l [] ((splitC 47 [] l).getD k []) (by rw [List.getD, List.getElem?_eq_getElem hk]; exact List.getElem_mem hk)
  simpa using h

theorem path_any (l : List UInt8) (W : World) (E : Env W) (hs : l.length ≤ 140737488355328) :
    Calls Tryd.prog 24 #[str l] W fun e w' => ∃ v, e = .returned (.tuple #[v, errOf (pathS l).2]) ∧ RS w' v (pathS l).1 ∧ Below W.heap.size W w' := by
  have hls : (⟨l.toArray⟩ : ByteArray).size = l.length := sz l
  by_cases h1 : 264 < l.length
  · have HR : Hid (pathS l = ([], 3)) := Lib.hid (by unfold pathS; rw [if_pos h1])
    have h1' : (264 : Int) < (l.length : Int) := by omega
    clear h1 hls
    go_enter Tryd.func24, Tryd.ntmps24
    go_wp2_with fail
    go_ret2
    exact ⟨_, by rw [HR.out]; rfl, by rw [HR.out]; exact RS_nil _, Below.refl _ _⟩
  · have h1' : ¬ (264 : Int) < (l.length : Int) := by omega
    have PL := Lib.hid (fun h2 => path_all (l := l) h1 h2)
    have PL0 : Hid (8 < (splitC 47 [] l).length → pathS l = ([], 4)) := Lib.hid (fun h2 => by unfold pathS; rw [if_neg h1, if_pos h2])
    have SP := Lib.hid (ssplit_c ⟨l.toArray⟩ W E (by omega))
    have SS := Lib.hid (split_sz l)
    have ABAD := Lib.hid (fun k hk h => all_bad (P := splitC 47 [] l) (k := k) hk h)
    have AOK := Lib.hid (fun h => all_ok (P := splitC 47 [] l) h)
    have HL := Lib.hid h1
    clear h1 hls
    generalize pathS l = R at *
    generalize hP : splitC 47 [] l = P at *
    have SP' : Hid (Calls Tryd.prog 38 #[str l, .string ⟨#[47]⟩] W fun e w' => ∃ v, e = .returned v ∧ RS w' v P ∧ Below W.heap.size W w') := Lib.hid SP.out
    clear hP SP
    go_enter Tryd.func24, Tryd.ntmps24
    go_wp2_with fail
    refine SP'.out.mono ?_
    rintro e w1 ⟨v, rfl, rs, b1⟩
    obtain ⟨p, c, rfl, hr⟩ := RS.out rs
    have HRS := Lib.hid hr
    have RSV := Lib.hid rs
    have B1 := Lib.hid b1
    clear rs b1 hr SP'
    by_cases h8 : 8 < P.length
    · have HR := Lib.hid (PL0.out h8)
      have h8' : (8 : Int) < (P.length : Int) := by omega
      clear h8
      go_wp2_with fail
      go_ret2
      exact ⟨_, by rw [HR.out]; rfl, by rw [HR.out]; exact RS_nil _, B1.out⟩
    · have h8' : ¬ (8 : Int) < (P.length : Int) := by omega
      have h8n : (P.length : Int) ≤ 8 := by omega
      have PLX := Lib.hid (PL.out h8)
      clear h8
      go_wp2_with fail
      clear h8'
      go_loopw [19] (fun i wr => ∃ k : Nat, i = .int .i64 k ∧ k ≤ P.length ∧ Below w1.heap.size w1 wr ∧ Hid (∀ j, j < k → nmS (P.getD j []) = true)) (fun i _ => P.length - (intOf i).toNat)
      case atStart => exact ⟨0, by go_num, Nat.zero_le _, Below.refl _ _, Lib.hid (fun j hj => absurd hj (Nat.not_lt_zero _))⟩
      case round =>
        obtain ⟨k, rfl, hk, hbe, hok⟩ := hrel
        have HB := Lib.hid hbe
        have hkb : (k : Int) ≤ 8 := by omega
        by_cases hlt : k < P.length
        rotate_left
        · have hlt' : ¬ (k : Int) < (P.length : Int) := by omega
          have HR : Hid (R = (P, 0)) := Lib.hid (by rw [PLX.out, AOK.out (fun j hj => hok.out j (by omega))]; rfl)
          clear hlt hbe
          go_wp2_with fail
          go_ret2
          exact ⟨_, by rw [HR.out]; rfl, by rw [HR.out]; exact RSV.out.below HB.out, B1.out.trans (HB.out.mono B1.out.size)⟩
        · have hlt' : (k : Int) < (P.length : Int) := by omega
          obtain ⟨b, o, rfl, hb, g0⟩ := HRS.out k hlt
          have g := (hbe.cell (p := ⟨b, o + k, none⟩) hb).trans g0
          have NM := Lib.hid (fun w => name_any ⟨(P.getD k []).toArray⟩ w (by rw [sz]; have := SS.out k hlt; have := HL.out; omega))
          cases hn : nmS (P.getD k []) with
          | false =>
            have HR : Hid (R = ([], 4)) := Lib.hid (by rw [PLX.out, ABAD.out k hlt hn]; rfl)
            have HN := Lib.hid hn
            clear hlt hbe hn g0
            go_wp2_with fail
            refine (NM.out _).mono ?_
            rintro e w2 ⟨he, h2⟩
            rw [show nmS (⟨(P.getD k []).toArray⟩ : ByteArray).data.toList = false from HN.out] at he
            subst he
            have B2 : Hid (Below W.heap.size W w2) := Lib.hid ((B1.out.trans (HB.out.mono B1.out.size)).trans (h2.mono (B1.out.trans (HB.out.mono B1.out.size)).size))
            clear h2
            go_wp2_with fail
            go_ret2
            exact ⟨_, by rw [HR.out]; rfl, by rw [HR.out]; exact RS_nil _, B2.out⟩
          | true =>
            have NX : Hid (∀ j, j < k + 1 → nmS (P.getD j []) = true) := Lib.hid (fun j hj => by
              rcases Nat.lt_or_ge j k with h | h
              · exact hok.out j h
              · obtain rfl : j = k := by omega
                exact hn)
            have HN := Lib.hid hn
            clear hlt hbe hn g0 hok
            go_wp2_with fail
            refine (NM.out _).mono ?_
            rintro e w2 ⟨he, h2⟩
            rw [show nmS (⟨(P.getD k []).toArray⟩ : ByteArray).data.toList = true from HN.out] at he
            subst he
            have B2 : Hid (Below w1.heap.size w1 w2) := Lib.hid (HB.out.trans (h2.mono HB.out.size))
            clear h2
            go_wp2_with fail
            go_roundw
            case rel => exact ⟨k + 1, by go_num, by omega, B2.out, NX⟩
            case measure => show P.length - ((k : Int) + 1).toNat < P.length - ((k : Int)).toNat; omega

theorem rpath_any (l : List UInt8) (W : World) (hs : l.length ≤ 140737488355328) :
    Calls Tryd.prog 25 #[str l] W fun e w' => ∃ v, e = .returned (.tuple #[v, .int .i64 (pathS l).2]) ∧ RS w' v (pathS l).1 ∧ Below W.heap.size W w' := by
  have hls : (⟨l.toArray⟩ : ByteArray).size = l.length := sz l
  by_cases h1 : 264 < l.length
  · have HR : Hid (pathS l = ([], 3)) := Lib.hid (by unfold pathS; rw [if_pos h1])
    have h1' : (264 : Int) < (l.length : Int) := by omega
    clear h1 hls
    go_enter Tryd.func25, Tryd.ntmps25
    go_wp2_with fail
    go_ret2
    exact ⟨_, by rw [HR.out]; rfl, by rw [HR.out]; exact RS_nil _, Below.refl _ _⟩
  · have h1' : ¬ (264 : Int) < (l.length : Int) := by omega
    have PL := Lib.hid (fun h2 => path_all (l := l) h1 h2)
    have PL0 : Hid (8 < (splitC 47 [] l).length → pathS l = ([], 4)) := Lib.hid (fun h2 => by unfold pathS; rw [if_neg h1, if_pos h2])
    have SP := Lib.hid (rcut_any ⟨l.toArray⟩ W (by omega))
    have SS := Lib.hid (split_sz l)
    have ABAD := Lib.hid (fun k hk h => all_bad (P := splitC 47 [] l) (k := k) hk h)
    have AOK := Lib.hid (fun h => all_ok (P := splitC 47 [] l) h)
    have HL := Lib.hid h1
    clear h1 hls
    generalize pathS l = R at *
    generalize hP : splitC 47 [] l = P at *
    have SP' : Hid (Calls Tryd.prog 37 #[str l, .int .u8 47] W fun e w' => ∃ v, e = .returned v ∧ RS w' v P ∧ Below W.heap.size W w') := Lib.hid SP.out
    clear hP SP
    go_enter Tryd.func25, Tryd.ntmps25
    go_wp2_with fail
    refine SP'.out.mono ?_
    rintro e w1 ⟨v, rfl, rs, b1⟩
    obtain ⟨p, c, rfl, hr⟩ := RS.out rs
    have HRS := Lib.hid hr
    have RSV := Lib.hid rs
    have B1 := Lib.hid b1
    clear rs b1 hr SP'
    by_cases h8 : 8 < P.length
    · have HR := Lib.hid (PL0.out h8)
      have h8' : (8 : Int) < (P.length : Int) := by omega
      clear h8
      go_wp2_with fail
      go_ret2
      exact ⟨_, by rw [HR.out]; rfl, by rw [HR.out]; exact RS_nil _, B1.out⟩
    · have h8' : ¬ (8 : Int) < (P.length : Int) := by omega
      have h8n : (P.length : Int) ≤ 8 := by omega
      have PLX := Lib.hid (PL.out h8)
      clear h8
      go_wp2_with fail
      clear h8'
      go_loopw [5] (fun i wr => ∃ k : Nat, i = .int .i64 k ∧ k ≤ P.length ∧ Below w1.heap.size w1 wr ∧ Hid (∀ j, j < k → nmS (P.getD j []) = true)) (fun i _ => P.length - (intOf i).toNat)
      case atStart => exact ⟨0, by go_num, Nat.zero_le _, Below.refl _ _, Lib.hid (fun j hj => absurd hj (Nat.not_lt_zero _))⟩
      case round =>
        obtain ⟨k, rfl, hk, hbe, hok⟩ := hrel
        have HB := Lib.hid hbe
        have hkb : (k : Int) ≤ 8 := by omega
        by_cases hlt : k < P.length
        rotate_left
        · have hlt' : ¬ (k : Int) < (P.length : Int) := by omega
          have HR : Hid (R = (P, 0)) := Lib.hid (by rw [PLX.out, AOK.out (fun j hj => hok.out j (by omega))]; rfl)
          clear hlt hbe
          go_wp2_with fail
          go_ret2
          exact ⟨_, by rw [HR.out]; rfl, by rw [HR.out]; exact RSV.out.below HB.out, B1.out.trans (HB.out.mono B1.out.size)⟩
        · have hlt' : (k : Int) < (P.length : Int) := by omega
          obtain ⟨b, o, rfl, hb, g0⟩ := HRS.out k hlt
          have g := (hbe.cell (p := ⟨b, o + k, none⟩) hb).trans g0
          have NM := Lib.hid (fun w => rname_any ⟨(P.getD k []).toArray⟩ w (by rw [sz]; have := SS.out k hlt; have := HL.out; omega))
          cases hn : nmS (P.getD k []) with
          | false =>
            have HR : Hid (R = ([], 4)) := Lib.hid (by rw [PLX.out, ABAD.out k hlt hn]; rfl)
            have HN := Lib.hid hn
            clear hlt hbe hn g0
            go_wp2_with fail
            refine (NM.out _).mono ?_
            rintro e w2 ⟨he, h2⟩
            rw [show nmS (⟨(P.getD k []).toArray⟩ : ByteArray).data.toList = false from HN.out] at he
            subst he
            have B2 : Hid (Below W.heap.size W w2) := Lib.hid (h2 ▸ (B1.out.trans (HB.out.mono B1.out.size)))
            clear h2
            go_wp2_with fail
            go_ret2
            exact ⟨_, by rw [HR.out]; rfl, by rw [HR.out]; exact RS_nil _, B2.out⟩
          | true =>
            have NX : Hid (∀ j, j < k + 1 → nmS (P.getD j []) = true) := Lib.hid (fun j hj => by
              rcases Nat.lt_or_ge j k with h | h
              · exact hok.out j h
              · obtain rfl : j = k := by omega
                exact hn)
            have HN := Lib.hid hn
            clear hlt hbe hn g0 hok
            go_wp2_with fail
            refine (NM.out _).mono ?_
            rintro e w2 ⟨he, h2⟩
            rw [show nmS (⟨(P.getD k []).toArray⟩ : ByteArray).data.toList = true from HN.out] at he
            subst he
            have B2 : Hid (Below w1.heap.size w1 w2) := Lib.hid (h2 ▸ HB.out)
            clear h2
            go_wp2_with fail
            go_roundw
            case rel => exact ⟨k + 1, by go_num, by omega, B2.out, NX⟩
            case measure => show P.length - ((k : Int) + 1).toNat < P.length - ((k : Int)).toNat; omega
end Go.Proofs.YtdcnlgjngfmbcaaDoor
