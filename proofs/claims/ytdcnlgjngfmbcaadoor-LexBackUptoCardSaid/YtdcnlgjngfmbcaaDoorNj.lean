/- lex.Join at every slice of strings. -/
import Derived.Test.YtdcnlgjngfmbcaaDoorNb
namespace Go.Proofs.YtdcnlgjngfmbcaaDoor
open Go Go.RowKit Go.Shelf
set_option linter.unusedVariables false
set_option linter.unusedSimpArgs false
set_option maxRecDepth 100000
set_option maxHeartbeats 1600000

def badW (w : List UInt8) : Bool := decide (w.length = 0) || decide (w.getD 0 0 = 35) || !((List.range w.length).all fun k => plN (w.getD k 0).toNat)
def joinS (l : List (List UInt8)) : List UInt8 × Int :=
  if l.any badW then ([], 240) else if 1048576 < (Lib.join l [32]).length then ([], 3) else (Lib.join l [32], 0)
theorem badW_ok {s : ByteArray} (h0 : 0 < s.size) (h1 : s[0] ≠ 35) (h : ∀ j, (hj : j < s.size) → plN (s[j]).toNat = true) : badW s.data.toList = false := by
  have hl : s.data.toList.length = s.size := Array.length_toList
  unfold badW
  rw [byte_at s 0 h0]
  have : (List.range s.data.toList.length).all (fun k => plN (s.data.toList.getD k 0).toNat) = true := by
    rw [List.all_eq_true]
    intro k hk
    have hk' : k < s.size := by rw [← hl]; exact List.mem_range.1 hk
    rw [byte_at s k hk']
    exact h k hk'
  rw [this, decide_eq_false (by omega), decide_eq_false h1]
  rfl
theorem badW_byte {s : ByteArray} {j : Nat} (hj : j < s.size) (h : plN (s[j]).toNat = false) : badW s.data.toList = true := by
  have hl : s.data.toList.length = s.size := Array.length_toList
  have : (List.range s.data.toList.length).all (fun k => plN (s.data.toList.getD k 0).toNat) = false := by
    rw [Bool.eq_false_iff]
    intro e
    rw [List.all_eq_true] at e
    have := e j (List.mem_range.2 (by omega))
    rw [byte_at s j hj, h] at this
    cases this
  unfold badW
  rw [this]
  simp
theorem badW_rem {s : ByteArray} (h0 : 0 < s.size) (h1 : s[0] = 35) : badW s.data.toList = true := by
  unfold badW
  rw [byte_at s 0 h0, h1]
  simp
theorem join_bad {l : List (List UInt8)} {k : Nat} (hk : k < l.length) (h : badW (l.getD k []) = true) : joinS l = ([], 240) := by
  unfold joinS
  rw [if_pos]
  rw [List.any_eq_true]
  refine ⟨l.getD k [], ?_, h⟩
  rw [List.getD, List.getElem?_eq_getElem hk]
  exact List.getElem_mem hk
theorem join_ok {l : List (List UInt8)} (h : ∀ k, k < l.length → badW (l.getD k []) = false) : joinS l = if 1048576 < (Lib.join l [32]).length then ([], 3) else (Lib.join l [32], 0) := by
  unfold joinS
  rw [if_neg]
  rw [List.any_eq_true]
  rintro ⟨w, hw, e⟩
  obtain ⟨k, hk, rfl⟩ := List.getElem_of_mem hw
  have := h k hk
  rw [List.getD, List.getElem?_eq_getElem hk] at this
  simp only [Option.getD_some] at this
  rw [this] at e
  cases e
/-- strings.Join of a slice that is read, between blanks. -/
theorem sjoin_c (l : List (List UInt8)) (v : Value) (W : World) (h : RS W v l) (hl : l.length ≤ 140737488355328) (hj : (Lib.join l [32]).length ≤ 140737488355328) :
    Calls Tryd.prog 32 #[v, .string ⟨#[32]⟩] W fun e w' => e = .returned (str (Lib.join l [32])) ∧ Below W.heap.size W w' := by
  rcases h with ⟨hn, a, cap, rfl, _⟩ | ⟨b, off, cap, rfl, hcap, hb, hc⟩
  · obtain rfl : l = [] := by simpa using hn
    refine (Tryd.strings_Join_none a cap ⟨#[32]⟩ W).mono ?_
    intro e w' h
    exact ⟨h.1, by first | exact h.2 | (rw [h.2]; exact Below.refl _ _) | (rw [← h.2]; exact Below.refl _ _)⟩
  · have e : (l.map (fun x => (⟨x.toArray⟩ : ByteArray))).map (fun x => x.data.toList) = l := by
      rw [List.map_map]; simp [Function.comp_def]
    have := Tryd.strings_Join b off cap (l.map (fun x => (⟨x.toArray⟩ : ByteArray))) ⟨#[32]⟩ W (fun j x hx => by
      have hjl : j < l.length := by
        rcases Nat.lt_or_ge j l.length with h | h
        · exact h
        · rw [List.getElem?_eq_none (by simpa using h)] at hx; cases hx
      rw [hc j (by simpa using hjl), List.getD, List.getElem?_map]
      rw [List.getElem?_map] at hx
      rw [List.getElem?_eq_getElem hjl] at hx ⊢
      simp only [Option.map_some, Option.some.injEq, Option.getD_some] at hx ⊢
      rw [← hx]) hb (by simpa using hl) (by simpa using hcap) (by rw [e]; exact hj)
    rw [e] at this
    simpa using this
theorem join_any (l : List (List UInt8)) (v : Value) (W : World) (h : RS W v l) (hl : l.length ≤ 140737488355328) (hw : ∀ k, k < l.length → (l.getD k []).length ≤ 140737488355328) (hj : (Lib.join l [32]).length ≤ 140737488355328) :
    Calls Tryd.prog 15 #[v] W fun e w' => e = .returned (.tuple #[str (joinS l).1, errOf (joinS l).2]) ∧ Below W.heap.size W w' := by
  have JC := Lib.hid (fun wx (h : RS wx v l) => sjoin_c l v wx h hl hj)
  have HV := Lib.hid h
  have BAD := Lib.hid (fun k hk h => join_bad (l := l) (k := k) hk h)
  have OK := Lib.hid (fun h => join_ok (l := l) h)
  have HW := Lib.hid hw
  obtain ⟨p, c, rfl, hr⟩ := RS.out h
  clear h hw
  generalize hR : joinS l = R at *
  generalize hJ : Lib.join l [32] = J at *
  clear hR hJ
  go_enter Tryd.func15, Tryd.ntmps15
  go_wp2_with fail
  go_loopw [10] (fun i wr => ∃ k : Nat, i = .int .i64 k ∧ k ≤ l.length ∧ wr = W ∧ Hid (∀ j, j < k → badW (l.getD j []) = false)) (fun i _ => l.length - (intOf i).toNat)
  case atStart => exact ⟨0, by go_num, Nat.zero_le _, rfl, Lib.hid (fun j hj => absurd hj (Nat.not_lt_zero _))⟩
  case round =>
    obtain ⟨k, rfl, hk, rfl, hok⟩ := hrel
    have hkb : (k : Int) ≤ 140737488355328 := by omega
    by_cases hlt : k < l.length
    rotate_left
    · have hlt' : ¬ (k : Int) < (l.length : Int) := by omega
      have hR := OK.out (fun j hj => hok.out j (by omega))
      clear hlt hr
      by_cases hbig : 1048576 < J.length
      · have HR : Hid (R = ([], 3)) := Lib.hid (by rw [hR, if_pos hbig])
        have hbig' : (1048576 : Int) < (J.length : Int) := by omega
        clear hbig hR
        go_wp2_with fail
        refine (JC.out wr HV.out).mono ?_
        rintro e w1 ⟨rfl, be⟩
        go_wp2_with fail
        go_ret2
        exact ⟨by rw [HR.out]; rfl, be⟩
      · have HR : Hid (R = (J, 0)) := Lib.hid (by rw [hR, if_neg hbig])
        have hbig' : ¬ (1048576 : Int) < (J.length : Int) := by omega
        clear hbig hR
        go_wp2_with fail
        refine (JC.out wr HV.out).mono ?_
        rintro e w1 ⟨rfl, be⟩
        go_wp2_with fail
        go_ret2
        exact ⟨by rw [HR.out]; rfl, be⟩
    · have hlt' : (k : Int) < (l.length : Int) := by omega
      obtain ⟨b, o, rfl, _, g⟩ := hr k hlt
      have hwk := HW.out k hlt
      have BADk := Lib.hid (fun h => BAD.out k hlt h)
      have HN : Hid (badW (l.getD k []) = false → ∀ j, j < k + 1 → badW (l.getD j []) = false) := Lib.hid (fun h j hj => by
        rcases Nat.lt_or_ge j k with h' | h'
        · exact hok.out j h'
        · obtain rfl : j = k := by omega
          exact h)
      generalize l.getD k [] = x at *
      obtain ⟨s, hs⟩ : ∃ s : ByteArray, s = ⟨x.toArray⟩ := ⟨_, rfl⟩
      have hx : x = s.data.toList := by rw [hs]
      replace g : wr.cell? ⟨b, o + k, none⟩ = some (.string ⟨x.toArray⟩) := g
      rw [← hs] at g
      rw [hx] at HN BADk
      have hsz : s.size ≤ 140737488355328 := by rw [hs, sz]; exact hwk
      clear hs hx hwk hr hok
      by_cases h0 : s.size = 0
      · have HR := Lib.hid (BADk.out (by rw [nil_of_size h0]; rfl))
        obtain rfl := nil_of_size h0
        clear h0 hsz
        go_wp2_with fail
        go_ret2
        exact ⟨by rw [HR.out]; rfl, Below.refl _ _⟩
      · have hp : 0 < s.size := by omega
        have he := ne_of_size hp
        by_cases h35 : s[0] = 35
        · have HR := Lib.hid (BADk.out (badW_rem hp h35))
          have e35 : (((s[0]).toNat : Int) == 35) = true := by rw [h35]; rfl
          clear h0 h35
          go_wp2_with fail
          go_ret2
          exact ⟨by rw [HR.out]; rfl, Below.refl _ _⟩
        · have e35 : (((s[0]).toNat : Int) == 35) = false := by
            rw [beq_eq_false_iff_ne]
            intro e
            exact h35 (UInt8.toNat_inj.1 (by have : (s[0]).toNat = 35 := by omega
                                             rw [this]; rfl))
          have HN2 := Lib.hid (fun h => HN.out (badW_ok hp h35 h))
          have BB := Lib.hid (fun j hj h => BADk.out (badW_byte (s := s) (j := j) hj h))
          clear h0 h35 HN BADk
          go_wp2_with fail
          clear e35
          go_loopw [24] (fun i wr' => ∃ q : Nat, i = .int .i64 q ∧ q ≤ s.size ∧ wr' = wr ∧ Hid (∀ j, j < q → (hj : j < s.size) → plN (s[j]).toNat = true)) (fun i _ => s.size - (intOf i).toNat)
          case atStart => exact ⟨0, by go_num, Nat.zero_le _, rfl, Lib.hid (fun j hj => absurd hj (Nat.not_lt_zero _))⟩
          case round =>
            obtain ⟨q, rfl, hq, rfl, hokq⟩ := hrel
            have hqb : (q : Int) ≤ 140737488355328 := by omega
            by_cases hql : q < s.size
            · have hql' : (q : Int) < (s.size : Int) := by omega
              have hix : ∀ w, (Instr.index 9 (.string s) (.int .i64 (q : Int))).run Tryd.prog w = .ok (.int .u8 (s[q]).toNat) w := fun w => by
                rw [run_index_string _ _ _ _ _ Tryd.underlying9]; simp [hql]
              by_cases hb : plN (s[q]).toNat = true
              · have NX : Hid (∀ j, j < q + 1 → (hj : j < s.size) → plN (s[j]).toNat = true) := Lib.hid (fun j hj hj' => by
                  rcases Nat.lt_or_ge j q with h | h
                  · exact hokq.out j h hj'
                  · obtain rfl : j = q := by omega
                    exact hb)
                have hlo : 33 ≤ (s[q]).toNat ∧ (s[q]).toNat ≤ 126 := by unfold plN at hb; simpa using hb
                generalize (s[q]).toNat = n at *
                have f0 : ¬ (n : Int) < 33 := by omega
                have f1 : decide ((126 : Int) < (n : Int)) = false := decide_eq_false (by omega)
                clear hb hokq hlo
                go_wp2_with fail
                go_roundw
                case rel => exact ⟨q + 1, by go_num, by omega, trivial, NX⟩
                case measure => show s.size - ((q : Int) + 1).toNat < s.size - ((q : Int)).toNat; omega
              · have HR := Lib.hid (BB.out q hql (by simpa using hb))
                have hlo : ¬ (33 ≤ (s[q]).toNat ∧ (s[q]).toNat ≤ 126) := by unfold plN at hb; simpa using hb
                generalize (s[q]).toNat = n at *
                clear hb hokq
                by_cases hl3 : n < 33
                · have f0 : (n : Int) < 33 := by omega
                  clear hlo hl3
                  go_wp2_with fail
                  go_ret2
                  exact ⟨by rw [HR.out]; rfl, Below.refl _ _⟩
                · have f0 : ¬ (n : Int) < 33 := by omega
                  have f1 : decide ((126 : Int) < (n : Int)) = true := decide_eq_true (by omega)
                  clear hlo hl3
                  go_wp2_with fail
                  go_ret2
                  exact ⟨by rw [HR.out]; rfl, Below.refl _ _⟩
            · have hql' : ¬ (q : Int) < (s.size : Int) := by omega
              have NX := Lib.hid (HN2.out (fun j hj => hokq.out j (by omega) hj))
              clear hql hokq
              go_wp2_with fail
              go_roundw
              case rel => exact ⟨k + 1, by go_num, by omega, trivial, NX⟩
              case measure => show l.length - ((k : Int) + 1).toNat < l.length - ((k : Int)).toNat; omega
end Go.Proofs.YtdcnlgjngfmbcaaDoor
