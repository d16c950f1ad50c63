/- Plain lists of bytes: blanks, the words of a line. No program in sight. -/
import Derived.Lib.FieldsP
import Derived.Lib.TrimUEq
namespace Go.Proofs.YtophilmjfdhhaaaGreatDoor
open Go

/-- A blank; a byte of a word. -/
def bl (c : UInt8) : Bool := c == 32 || c == 9
def pl (c : UInt8) : Bool := decide (33 ≤ c.toNat) && decide (c.toNat ≤ 126)
/-- The runs of bytes that are no blanks. -/
def fldsGo : List UInt8 → List UInt8 → List (List UInt8)
  | cur, [] => if cur.isEmpty then [] else [cur]
  | cur, b :: t => if bl b then (if cur.isEmpty then fldsGo [] t else cur :: fldsGo [] t) else fldsGo (cur ++ [b]) t
def flds (s : List UInt8) : List (List UInt8) := fldsGo [] s
/-- The words ahead of a remark. -/
def noRem (w : List UInt8) : Bool := w.head? != some 35
def wds (s : List UInt8) : List (List UInt8) := (flds s).takeWhile noRem
def okLine (s : List UInt8) : Bool := s.all fun c => bl c || pl c

theorem okLine_lt {s : List UInt8} (h : okLine s = true) : ∀ b ∈ s, b.toNat < 128 := by
  intro b hb
  have := List.all_eq_true.1 h b hb
  simp only [bl, pl, Bool.or_eq_true, Bool.and_eq_true, decide_eq_true_eq, beq_iff_eq] at this
  rcases this with (rfl | rfl) | h
  · decide
  · decide
  · omega

def isBlN (x : Nat) : Bool := x == 32 || x == 9
theorem isBlN_byte (b : UInt8) : isBlN b.toNat = bl b := by
  unfold isBlN bl
  rw [Bool.eq_iff_iff]
  simp only [Bool.or_eq_true, beq_iff_eq]
  constructor
  · rintro (h | h)
    · exact .inl (UInt8.toNat_inj.1 h)
    · exact .inr (UInt8.toNat_inj.1 h)
  · rintro (rfl | rfl) <;> decide

theorem decode_byte (s : ByteArray) (pos : Nat) (h : pos < s.data.toList.length) (ha : (s.data.toList[pos]).toNat < 128) : Utf8.decode s pos = ((s.data.toList[pos]).toNat, 1) := by
  have e : s.data.toList.getD pos 0 = s.data.toList[pos] := by rw [List.getD, List.getElem?_eq_getElem h]; rfl
  rw [Lib.decode_N, e, Lib.decodeN_ascii _ _ _ _ _ ha]

theorem extract_list (s : ByteArray) (a b : Nat) : (s.extract a b).data.toList = (s.data.toList.drop a).take (b - a) := by
  simp

theorem spans_flds (s : ByteArray) (ha : ∀ b ∈ s.data.toList, b.toNat < 128) : ∀ (f pos : Nat) (st : Option Nat) (acc : List (Nat × Nat)), s.size - pos ≤ f → pos ≤ s.size → (∀ a, st = some a → a < pos) →
    (Lib.closeSpans s (Lib.spansFromP isBlN s f pos st acc)).map (fun x => (s.extract x.1 x.2).data.toList) = acc.map (fun x => (s.extract x.1 x.2).data.toList) ++ fldsGo (match st with | none => [] | some a => (s.data.toList.drop a).take (pos - a)) (s.data.toList.drop pos) := by
  have hsz : s.size = s.data.toList.length := by rw [Array.length_toList]; rfl
  intro f
  induction f with
  | zero =>
    intro pos st acc h hp hst
    have hp' : pos = s.size := by omega
    subst hp'
    rw [show s.data.toList.drop s.size = [] from List.drop_eq_nil_of_le (by omega)]
    cases st with
    | none => simp [Lib.spansFromP, Lib.closeSpans, fldsGo]
    | some a =>
      have := hst a rfl
      have hne : ((s.data.toList.drop a).take (s.size - a)).isEmpty = false := by
        rw [List.isEmpty_eq_false_iff]
        intro e
        have := congrArg List.length e
        simp at this
        omega
      simp only [Lib.spansFromP, Lib.closeSpans, fldsGo, hne, Bool.false_eq_true, if_false, List.map_append, List.map_cons, List.map_nil, extract_list]
  | succ f ih =>
    intro pos st acc h hp hst
    by_cases hlt : pos < s.size
    · have hl : pos < s.data.toList.length := by omega
      have hd := decode_byte s pos hl (ha _ (List.getElem_mem hl))
      have hdrop : s.data.toList.drop pos = s.data.toList[pos] :: s.data.toList.drop (pos + 1) := List.drop_eq_getElem_cons hl
      unfold Lib.spansFromP
      rw [if_pos hlt, hd]
      simp only [isBlN_byte]
      rw [hdrop]
      generalize hb : s.data.toList[pos] = b at *
      cases hbl : bl b with
      | true =>
        simp only [if_true]
        cases st with
        | none =>
          simp only
          rw [ih (pos + 1) none acc (by omega) (by omega) (fun a h => by cases h)]
          simp [fldsGo, hbl]
        | some a =>
          have := hst a rfl
          simp only
          rw [ih (pos + 1) none _ (by omega) (by omega) (fun a h => by cases h)]
          have hne : ((s.data.toList.drop a).take (pos - a)).isEmpty = false := by
            rw [List.isEmpty_eq_false_iff]
            intro e
            have := congrArg List.length e
            simp at this
            omega
          simp only [fldsGo, hbl, if_true, hne, Bool.false_eq_true, if_false, List.map_append, List.map_cons, List.map_nil, extract_list, List.append_assoc, List.cons_append, List.nil_append]
      | false =>
        simp only [Bool.false_eq_true, if_false]
        cases st with
        | none =>
          simp only
          rw [ih (pos + 1) (some pos) acc (by omega) (by omega) (fun a h => by injection h with h; omega)]
          have e : (s.data.toList.drop pos).take (pos + 1 - pos) = [b] := by
            rw [hdrop, show pos + 1 - pos = 1 by omega]
            simp
          simp only [fldsGo, hbl, Bool.false_eq_true, if_false, List.nil_append, e]
        | some a =>
          have := hst a rfl
          simp only
          rw [ih (pos + 1) (some a) acc (by omega) (by omega) (fun a' h => by injection h with h; omega)]
          have e : (s.data.toList.drop a).take (pos + 1 - a) = (s.data.toList.drop a).take (pos - a) ++ [b] := by
            rw [show pos + 1 - a = (pos - a) + 1 by omega, List.take_succ_eq_append_getElem (by simp; omega)]
            congr 2
            rw [List.getElem_drop, ← hb]
            congr 1
            omega
          simp only [fldsGo, hbl, Bool.false_eq_true, if_false, e]
    · rw [Lib.spansFromP_end _ _ _ _ _ _ hlt]
      have hp' : pos = s.size := by omega
      subst hp'
      rw [show s.data.toList.drop s.size = [] from List.drop_eq_nil_of_le (by omega)]
      cases st with
      | none => simp [Lib.closeSpans, fldsGo]
      | some a =>
        have := hst a rfl
        have hne : ((s.data.toList.drop a).take (s.size - a)).isEmpty = false := by
          rw [List.isEmpty_eq_false_iff]
          intro e
          have := congrArg List.length e
          simp at this
          omega
        simp only [Lib.closeSpans, fldsGo, hne, Bool.false_eq_true, if_false, List.map_append, List.map_cons, List.map_nil, extract_list]

/-- strings.FieldsFunc at blanks, on a line of such bytes. -/
theorem goFields_flds (s : ByteArray) (h : okLine s.data.toList = true) : (Lib.goFieldsP isBlN s).map Value.string = (flds s.data.toList).map (fun l => Value.string ⟨l.toArray⟩) := by
  have := spans_flds s (okLine_lt h) s.size 0 none [] (by omega) (by omega) (fun a h => by cases h)
  simp only [List.map_nil, List.nil_append, List.drop_zero] at this
  have e : (flds s.data.toList) = (Lib.goFieldsP isBlN s).map (fun x => x.data.toList) := by
    unfold flds Lib.goFieldsP Lib.spansOfP
    rw [← this, List.map_map]
    rfl
  rw [e, List.map_map]
  apply List.map_congr_left
  intro x _
  simp
theorem goFields_len (s : ByteArray) (h : okLine s.data.toList = true) : (Lib.goFieldsP isBlN s).length = (flds s.data.toList).length := by
  have := congrArg List.length (goFields_flds s h)
  simpa using this

/-- A run of no blanks, then nothing or a blank: a word. -/
theorem fldsGo_word (w : List UInt8) : ∀ (cur r : List UInt8), (∀ b ∈ w, bl b = false) → fldsGo cur (w ++ r) = fldsGo (cur ++ w) r := by
  induction w with
  | nil => intro cur r _; simp
  | cons b t ih =>
    intro cur r h
    rw [List.cons_append, fldsGo, h b (by simp)]
    simp only [Bool.false_eq_true, if_false]
    rw [ih _ _ (fun x hx => h x (by simp [hx]))]
    simp
theorem fldsGo_end {cur r : List UInt8} (hc : cur ≠ []) (hr : r = [] ∨ ∃ b t, r = b :: t ∧ bl b = true) : fldsGo cur r = cur :: fldsGo [] r := by
  have hne : cur.isEmpty = false := by simpa using hc
  rcases hr with rfl | ⟨b, t, rfl, hb⟩
  · simp [fldsGo, hne]
  · simp [fldsGo, hne, hb]
theorem fldsGo_ne (s : List UInt8) : ∀ cur, ∀ w ∈ fldsGo cur s, w ≠ [] := by
  induction s with
  | nil =>
    intro cur w hw
    unfold fldsGo at hw
    split at hw
    · simp at hw
    · rename_i hne; simp at hw; subst hw; simpa using hne
  | cons b t ih =>
    intro cur w hw
    unfold fldsGo at hw
    split at hw
    · split at hw
      · exact ih _ w hw
      · rename_i hne; rcases List.mem_cons.1 hw with rfl | h
        · simpa using hne
        · exact ih _ w h
    · exact ih _ w hw
theorem flds_ne (s : List UInt8) : ∀ w ∈ flds s, w ≠ [] := fldsGo_ne s []
theorem takeWhile_stop {α : Type} (p : α → Bool) (l : List α) (k : Nat) (h : ∀ x ∈ l.take k, p x = true) (hk : k < l.length) (hp : p l[k] = false) : l.takeWhile p = l.take k := by
  induction l generalizing k with
  | nil => simp at hk
  | cons a t ih =>
    cases k with
    | zero => simp at hp; simp [hp]
    | succ k =>
      have ha : p a = true := h a (by simp)
      rw [List.takeWhile_cons, ha]
      simp only [if_true, List.take_succ_cons]
      rw [ih k (fun x hx => h x (by simp [hx])) (by simpa using hk) (by simpa using hp)]
theorem takeWhile_full {α : Type} (p : α → Bool) (l : List α) (h : ∀ x ∈ l, p x = true) : l.takeWhile p = l := by
  induction l with
  | nil => rfl
  | cons a t ih =>
    rw [List.takeWhile_cons, h a (by simp)]
    simp only [if_true]
    rw [ih (fun x hx => h x (by simp [hx]))]
theorem fldsGo_head (s : List UInt8) : ∀ cur : List UInt8, cur ≠ [] → ∃ u r, fldsGo cur s = (cur ++ u) :: r := by
  induction s with
  | nil => intro cur h; exact ⟨[], [], by simp [fldsGo, h]⟩
  | cons b t ih =>
    intro cur h
    unfold fldsGo
    split
    · exact ⟨[], fldsGo [] t, by simp [h]⟩
    · obtain ⟨u, r, e⟩ := ih (cur ++ [b]) (by simp)
      exact ⟨[b] ++ u, r, by rw [e, List.append_assoc]⟩
/-- A remark ends the line. -/
theorem rem_end (t : List UInt8) : (fldsGo [] (35 :: t)).takeWhile noRem = [] := by
  have : fldsGo [] (35 :: t) = fldsGo [35] t := by rw [fldsGo]; rfl
  rw [this]
  obtain ⟨u, r, e⟩ := fldsGo_head t [35] (by simp)
  rw [e, List.takeWhile_cons]
  rfl
theorem blank_skip {b : UInt8} (t : List UInt8) (h : bl b = true) : fldsGo [] (b :: t) = fldsGo [] t := by
  rw [fldsGo, h]
  rfl
/-- A word is taken. -/
theorem word_take (l : List UInt8) (k j : Nat) (hkj : k < j) (hj : j ≤ l.length) (hn : ∀ i, k ≤ i → i < j → bl (l.getD i 0) = false) (he : j = l.length ∨ bl (l.getD j 0) = true) (h35 : l.getD k 0 ≠ 35) :
    (fldsGo [] (l.drop k)).takeWhile noRem = (l.drop k).take (j - k) :: (fldsGo [] (l.drop j)).takeWhile noRem := by
  have e1 : l.drop k = (l.drop k).take (j - k) ++ l.drop j := by
    have h := (List.take_append_drop (j - k) (l.drop k)).symm
    rw [List.drop_drop, show k + (j - k) = j by omega] at h
    exact h
  generalize hw : (l.drop k).take (j - k) = w at *
  have hwl : w.length = j - k := by rw [← hw]; simp; omega
  have hall : ∀ b ∈ w, bl b = false := by
    intro b hb
    obtain ⟨i, hi, rfl⟩ := List.getElem_of_mem hb
    have := hn (k + i) (by omega) (by omega)
    have e : w[i] = l.getD (k + i) 0 := by
      subst hw
      rw [List.getElem_take, List.getElem_drop, List.getD, List.getElem?_eq_getElem (by omega)]
      rfl
    rw [e]; exact this
  have hne : w ≠ [] := fun e => by rw [e] at hwl; simp at hwl; omega
  have hr : l.drop j = [] ∨ ∃ b t, l.drop j = b :: t ∧ bl b = true := by
    rcases Nat.lt_or_ge j l.length with h | h
    · refine .inr ⟨l[j], l.drop (j + 1), List.drop_eq_getElem_cons h, ?_⟩
      have hb := he.resolve_left (by omega)
      rwa [List.getD, List.getElem?_eq_getElem h] at hb
    · exact .inl (List.drop_eq_nil_of_le h)
  have hh : w.head? = some (l.getD k 0) := by
    cases w with
    | nil => exact absurd rfl hne
    | cons a t =>
      have : (l.drop k)[0]? = some a := by rw [e1]; rfl
      rw [List.getElem?_drop, Nat.add_zero] at this
      rw [List.getD, this]
      rfl
  rw [e1, fldsGo_word w [] _ hall, List.nil_append, fldsGo_end hne hr, List.takeWhile_cons]
  have hnr : noRem w = true := by unfold noRem; rw [hh]; simpa using h35
  rw [hnr]
  rfl
theorem fldsGo_len (s : List UInt8) : ∀ cur, (fldsGo cur s).length ≤ s.length + 1 := by
  induction s with
  | nil => intro cur; unfold fldsGo; split <;> simp
  | cons b t ih =>
    intro cur
    unfold fldsGo
    split
    · split
      · have := ih []; simp; omega
      · have := ih []; simp; omega
    · have := ih (cur ++ [b]); simp; omega
theorem takeWhile_len {α : Type} (p : α → Bool) (l : List α) : (l.takeWhile p).length ≤ l.length := by
  induction l with
  | nil => simp
  | cons a t ih => rw [List.takeWhile_cons]; split <;> simp <;> omega
theorem wds_len (s : List UInt8) : (wds s).length ≤ s.length + 1 := Nat.le_trans (takeWhile_len _ _) (fldsGo_len s [])
end Go.Proofs.YtophilmjfdhhaaaGreatDoor
