/- The reference's Valid of layer 25 in plain words, and that it is the program's. Plain. The reference's shaped of layer 25, at every row of items. The reference's Valid of layer 25, at every tree. -/
import Derived.Test.YtophilmjfdhhaaaGreatDoorGm
namespace Go.Proofs.YtophilmjfdhhaaaGreatDoor
open Go Go.RowKit Go.Shelf Go.Sort
set_option linter.unusedVariables false
set_option linter.unusedSimpArgs false
set_option maxRecDepth 100000

/-- The reference's look along the way up. -/
def onG (l : List It) (p : Int) : Nat → Int → Bool → Bool
  | 0, _, b => b
  | f + 1, k, b => if k < 0 then b else onG l p f (parOf l k) (b || k == p)
theorem onG_true (l : List It) (p : Int) : ∀ (f : Nat) (k : Int), onG l p f k true = true
  | 0, k => rfl
  | f + 1, k => by
    unfold onG
    split
    · rfl
    · exact onG_true l p f _
/-- Parents stand ahead, of the first so many. -/
def WlN (l : List It) (n : Nat) : Prop := ∀ j, j < n → -1 ≤ (l.getD j default).par ∧ (l.getD j default).par < j
theorem WlN.par {l : List It} {n : Nat} (h : WlN l n) {k : Int} (h0 : 0 ≤ k) (hk : k < n) : -1 ≤ parOf l k ∧ parOf l k < k := by
  have := h k.toNat (by omega)
  unfold parOf; omega
theorem upTo_le {l : List It} {p : Int} : ∀ (f : Nat) {k : Int}, k ≤ p → upTo l p f k = k
  | 0, k, h => rfl
  | f + 1, k, h => by unfold upTo; exact if_neg (by omega)
theorem onG_low {l : List It} {n : Nat} (hw : WlN l n) (p : Int) : ∀ (f : Nat) (k : Int) (b : Bool), k < p → k < n → onG l p f k b = b
  | 0, k, b, h, hn => rfl
  | f + 1, k, b, h, hn => by
    unfold onG
    split
    · rfl
    · have hp := hw.par (k := k) (by omega) hn
      rw [onG_low hw p f _ _ (by omega) (by omega), show (k == p) = false by simp; omega, Bool.or_false]
theorem onG_up {l : List It} {n : Nat} (hw : WlN l n) (p : Int) (hp0 : 0 ≤ p) : ∀ (f : Nat) (k : Int), -1 ≤ k → k < n → k.toNat + 1 ≤ f → onG l p f k false = decide (upTo l p f k = p)
  | 0, k, h0, hn, hf => by omega
  | f + 1, k, h0, hn, hf => by
    by_cases hk : k < 0
    · rw [upTo_le _ (by omega)]
      unfold onG
      rw [if_pos hk]
      exact (decide_eq_false (by omega)).symm
    · have hpp := hw.par (k := k) (by omega) hn
      unfold onG
      rw [if_neg hk]
      rcases Int.lt_trichotomy k p with h | h | h
      · rw [upTo_le _ (by omega), show (k == p) = false by simp; omega, Bool.or_false, onG_low hw p f _ _ (by omega) (by omega)]
        exact (decide_eq_false (by omega)).symm
      · subst h
        rw [upTo_le _ (Int.le_refl _)]
        simp [onG_true]
      · unfold upTo
        rw [if_pos h, show (k == p) = false by simp; omega, Bool.or_false]
        by_cases hq : parOf l k < 0
        · rw [upTo_le _ (by omega)]
          rw [decide_eq_false (by omega)]
          cases f with
          | zero => rfl
          | succ f => unfold onG; exact if_pos hq
        · exact onG_up hw p hp0 f _ (by omega) (by omega) (by omega)
theorem upTo_root {l : List It} {n : Nat} (hw : WlN l n) : ∀ (f : Nat) (k : Int), -1 ≤ k → k < n → k.toNat + 1 ≤ f → upTo l (-1) f k = -1
  | 0, k, h0, hn, hf => by omega
  | f + 1, k, h0, hn, hf => by
    by_cases hk : k < 0
    · rw [upTo_le _ (by omega)]; omega
    · have hpp := hw.par (k := k) (by omega) hn
      unfold upTo
      rw [if_pos (by omega)]
      by_cases hq : parOf l k < 0
      · rw [upTo_le _ (by omega)]; omega
      · exact upTo_root hw f _ (by omega) (by omega) (by omega)
/-- What the reference asks of an item's place. -/
def rokAt (l : List It) (i : Nat) : Bool := onG l (l.getD i default).par i ((i : Int) - 1) ((l.getD i default).par == -1)
theorem rokAt_eq {l : List It} {i : Nat} (hw : WlN l i) (h0 : -1 ≤ (l.getD i default).par) (h1 : (l.getD i default).par < i) : rokAt l i = decide (upTo l (l.getD i default).par i ((i : Int) - 1) = (l.getD i default).par) := by
  unfold rokAt
  generalize (l.getD i default).par = p at *
  by_cases hi : i = 0
  · subst hi
    have : p = -1 := by omega
    subst this
    rfl
  · by_cases hp : p = -1
    · subst hp
      rw [upTo_root hw _ _ (by omega) (by omega) (by omega)]
      simp [onG_true]
    · rw [show (p == -1) = false by simpa using hp]
      exact onG_up hw p (by omega) i _ (by omega) (by omega) (by omega)
theorem okAt_of {l : List It} {i : Nat} (hw : WlN l i) : okAt l i = (decide (-1 ≤ (l.getD i default).par) && decide ((l.getD i default).par < i) && nameS (l.getD i default).nm && rokAt l i) := by
  by_cases h0 : -1 ≤ (l.getD i default).par
  · by_cases h1 : (l.getD i default).par < i
    · rw [rokAt_eq hw h0 h1]; rfl
    · unfold okAt; rw [decide_eq_false h1]; simp
  · unfold okAt; rw [decide_eq_false h0]; simp
/-- Is it so of one of the first so many? -/
def anyK (f : Nat → Bool) (n : Nat) : Bool := (List.range n).any f
theorem anyK_zero (f : Nat → Bool) : anyK f 0 = false := rfl
theorem anyK_succ (f : Nat → Bool) (n : Nat) : anyK f (n + 1) = (anyK f n || f n) := by unfold anyK; rw [List.range_succ, List.any_append]; simp
theorem anyK_true {f : Nat → Bool} {n : Nat} : anyK f n = true ↔ ∃ i, i < n ∧ f i = true := by
  unfold anyK
  rw [List.any_eq_true]
  constructor
  · rintro ⟨i, hi, h⟩; exact ⟨i, List.mem_range.1 hi, h⟩
  · rintro ⟨i, hi, h⟩; exact ⟨i, List.mem_range.2 hi, h⟩
theorem anyK_false {f : Nat → Bool} {n : Nat} : anyK f n = false ↔ ∀ i, i < n → f i = false := by
  rw [Bool.eq_false_iff, ne_eq, anyK_true]
  constructor
  · intro h i hi
    rw [Bool.eq_false_iff]
    exact fun e => h ⟨i, hi, e⟩
  · rintro h ⟨i, hi, e⟩
    rw [h i hi] at e; cases e
def badR (l : List It) (i : Nat) : Bool := !(itR (l.getD i default) && prOk (l.getD i default).pr)
def bigP (l : List It) (i : Nat) : Bool := decide (8 < (l.getD i default).pr.length)
def deepI (l : List It) (i : Nat) : Bool := decide (8 < depS l i)
/-- Is more than a unit reserved under the root or under one of the first so many less one? -/
def overI (l : List It) (i : Nat) : Bool := decide (1048576 < underG l ((i : Int) - 1))
/-- The reference's Valid. -/
def rvS (t : Tr) : Int :=
  if formB t.items = false then 4
  else if anyK (twinS t.items) t.items.length = true then 251
  else if (!prOk t.slack || anyK (badR t.items) t.items.length) = true then 2
  else if anyK (deepI t.items) t.items.length = true then 90
  else if ((decide (63 < t.items.length) || decide (16 < t.slack.length)) || anyK (bigP t.items) t.items.length) = true then 30
  else if anyK (overI t.items) (t.items.length + 1) = true then 80 else 0
theorem firstE_two (c : Int) (f : Nat → Int) (b : Nat → Bool) : ∀ (l : List Nat), (∀ i ∈ l, f i = if b i = true then c else 0) → firstE (l.map f) = if l.any b = true then c else 0
  | [], h => rfl
  | i :: l, h => by
    rw [List.map_cons, List.any_cons]
    have hi := h i (by simp)
    have ih := firstE_two c f b l (fun j hj => h j (by simp [hj]))
    unfold firstE
    by_cases hb : b i = true
    · rw [hb] at hi ⊢
      rw [if_pos rfl] at hi
      rw [hi, Bool.true_or, if_pos rfl]
      by_cases hc : c = 0
      · rw [if_pos hc, ih]; split <;> simp [hc]
      · rw [if_neg hc]
    · rw [if_neg hb] at hi
      rw [hi, if_pos rfl, ih, show b i = false by simpa using hb, Bool.false_or]
theorem colK_two {l : List It} {k : Nat} (c : Int) (b : Nat → Bool) (h : ∀ i, i < l.length → chkK l i k = if b i = true then c else 0) : colK l k = if anyK b l.length = true then c else 0 := by
  unfold colK anyK
  exact firstE_two c _ b _ fun i hi => h i (List.mem_range.1 hi)
theorem underG_mono {l : List It} (h : ∀ x ∈ l, itR x = true) (a : Int) (n : Nat) : underG (l.take n) a ≤ underG l a := by
  have key : ∀ (u v : List It), (∀ x ∈ v, itR x = true) → underG u a ≤ underG (u ++ v) a := by
    intro u v
    induction u with
    | nil => intro hv; exact (underG_bounds a v hv).1
    | cons x u ih =>
      intro hv
      show _ + underG u a ≤ _ + underG (u ++ v) a
      have := ih hv
      omega
  have := key (l.take n) (l.drop n) (fun x hx => h x (List.mem_of_mem_drop hx))
  rwa [List.take_append_drop] at this
theorem underG_last {l : List It} (a : Int) (h : underG l a ≠ 0) : ∃ i, i < l.length ∧ (l.getD i default).par = a ∧ underG (l.take (i + 1)) a = underG l a := by
  have key : ∀ n, n ≤ l.length → underG (l.take n) a ≠ 0 → ∃ i, i < n ∧ (l.getD i default).par = a ∧ underG (l.take (i + 1)) a = underG (l.take n) a := by
    intro n
    induction n with
    | zero => intro _ h; exact absurd rfl h
    | succ n ih =>
      intro hn h
      by_cases hp : (l.getD n default).par = a
      · exact ⟨n, by omega, hp, rfl⟩
      · have e : underG (l.take (n + 1)) a = underG (l.take n) a := by rw [underG_at (by omega), if_neg hp]; omega
        rw [e] at h ⊢
        obtain ⟨i, hi, h1, h2⟩ := ih (by omega) h
        exact ⟨i, by omega, h1, h2⟩
  have e : l.take l.length = l := List.take_of_length_le (Nat.le_refl _)
  have := key l.length (Nat.le_refl _) (by rw [e]; exact h)
  rw [e] at this
  exact this
theorem over_same {l : List It} (hw : Wl l) (hv : ∀ x ∈ l, itR x = true) : anyK (fun i => decide (1048576 < underG (l.take (i + 1)) (l.getD i default).par)) l.length = anyK (overI l) (l.length + 1) := by
  rw [Bool.eq_iff_iff, anyK_true, anyK_true]
  constructor
  · rintro ⟨i, hi, h⟩
    have hb := hw i hi
    refine ⟨((l.getD i default).par + 1).toNat, by omega, ?_⟩
    have hm := underG_mono hv (l.getD i default).par (i + 1)
    have h' : 1048576 < underG (l.take (i + 1)) (l.getD i default).par := of_decide_eq_true h
    have e : ((((l.getD i default).par + 1).toNat : Nat) : Int) - 1 = (l.getD i default).par := by omega
    exact decide_eq_true (by rw [e]; omega)
  · rintro ⟨i, hi, h⟩
    have h' : 1048576 < underG l ((i : Int) - 1) := of_decide_eq_true h
    obtain ⟨j, hj, h1, h2⟩ := underG_last (l := l) ((i : Int) - 1) (by omega)
    exact ⟨j, hj, decide_eq_true (by rw [h1, h2]; exact h')⟩
theorem rv_valid (t : Tr) : rvS t = validS t := by
  unfold rvS validS
  by_cases hf : formB t.items = true
  · rw [if_neg (by rw [hf]; decide), if_pos hf]
    have c0 : colK t.items 0 = if anyK (twinS t.items) t.items.length = true then 251 else 0 := colK_two 251 _ fun i hi => rfl
    have c1 : colK t.items 1 = if anyK (badR t.items) t.items.length = true then 2 else 0 := colK_two 2 _ fun i hi => by
      show (if (itR _ && prOk _) = true then (0 : Int) else 2) = _
      unfold badR
      cases (itR (t.items.getD i default) && prOk (t.items.getD i default).pr) <;> rfl
    have c2 : colK t.items 2 = if anyK (deepI t.items) t.items.length = true then 90 else 0 := colK_two 90 _ fun i hi => by
      show (if 8 < depS t.items i then (90 : Int) else 0) = _
      unfold deepI
      by_cases h : 8 < depS t.items i <;> simp [h]
    have c3 : colK t.items 3 = if anyK (fun i => decide (63 ≤ i) || bigP t.items i) t.items.length = true then 30 else 0 := colK_two 30 _ fun i hi => by
      show (if 63 ≤ i ∨ 8 < (t.items.getD i default).pr.length then (30 : Int) else 0) = _
      unfold bigP
      by_cases h : 63 ≤ i <;> by_cases h' : 8 < (t.items.getD i default).pr.length <;> simp [h, h']
    have c4 : colK t.items 4 = if anyK (fun i => decide (1048576 < underG (t.items.take (i + 1)) (t.items.getD i default).par)) t.items.length = true then 80 else 0 := colK_two 80 _ fun i hi => by
      show (if 1048576 < underG (t.items.take (i + 1)) (t.items.getD i default).par then (80 : Int) else 0) = _
      by_cases h : 1048576 < underG (t.items.take (i + 1)) (t.items.getD i default).par <;> simp [h]
    have s0 : slK t 0 = 0 := rfl
    have s1 : slK t 1 = if prOk t.slack = true then 0 else 2 := rfl
    have s2 : slK t 2 = 0 := rfl
    have s3 : slK t 3 = if 16 < t.slack.length then 30 else 0 := by
      unfold slK
      rw [if_neg (by decide)]
      by_cases h : 16 < t.slack.length <;> simp [h]
    have s4 : slK t 4 = 0 := rfl
    have r3 : anyK (fun i => decide (63 ≤ i) || bigP t.items i) t.items.length = (decide (63 < t.items.length) || anyK (bigP t.items) t.items.length) := by
      rw [Bool.eq_iff_iff, anyK_true, Bool.or_eq_true, anyK_true]
      constructor
      · rintro ⟨i, hi, h⟩
        rw [Bool.or_eq_true] at h
        rcases h with h | h
        · left; simp at h ⊢; omega
        · exact .inr ⟨i, hi, h⟩
      · rintro (h | ⟨i, hi, h⟩)
        · simp at h
          exact ⟨63, h, by simp⟩
        · exact ⟨i, hi, by rw [h, Bool.or_true]⟩
    rw [c0, c1, c2, c3, c4, s0, s1, s2, s3, s4, r3]
    by_cases h0 : anyK (twinS t.items) t.items.length = true
    · simp [h0, firstE]
    · rw [if_neg h0, if_neg h0]
      by_cases h1 : anyK (badR t.items) t.items.length = true
      · simp [h1, firstE]
      · have h1' : anyK (badR t.items) t.items.length = false := by simpa using h1
        rw [if_neg h1, h1', Bool.or_false]
        by_cases hp : prOk t.slack = true
        · rw [if_pos hp, if_neg (by simp [hp])]
          by_cases h2 : anyK (deepI t.items) t.items.length = true
          · simp [h2, firstE]
          · rw [if_neg h2, if_neg h2]
            have hv : ∀ x ∈ t.items, itR x = true := by
              intro x hx
              obtain ⟨i, hi, rfl⟩ := List.getElem_of_mem hx
              have := anyK_false.1 h1' i hi
              unfold badR at this
              rw [List.getD, List.getElem?_eq_getElem hi] at this
              simp at this
              exact this.1
            rw [over_same (formB_wl hf) hv]
            by_cases h3 : 63 < t.items.length
            · simp [h3, firstE]
            · by_cases h4 : 16 < t.slack.length
              · simp [h3, h4, firstE]
                try (split <;> simp)
              · by_cases h5 : anyK (bigP t.items) t.items.length = true
                · simp [h5, firstE]
                · by_cases h6 : anyK (overI t.items) (t.items.length + 1) = true
                  · simp [h3, h4, h5, h6, firstE]
                  · simp [h3, h4, h5, h6, firstE]
        · rw [if_neg hp, if_pos (by simp [hp])]
          simp [firstE]
  · rw [if_pos (by simpa using hf), if_neg hf]
/-- The last node of a name under a parent. -/
def lstGo (l : List It) (a : Int) (nm : List UInt8) : Nat → Int
  | 0 => -1
  | n + 1 => if (l.getD n default).par = a ∧ (l.getD n default).nm = nm then (n : Int) else lstGo l a nm n
theorem lstGo_none {l : List It} {a : Int} {nm : List UInt8} : ∀ {n : Nat}, (∀ i, i < n → ¬ ((l.getD i default).par = a ∧ (l.getD i default).nm = nm)) → lstGo l a nm n = -1
  | 0, h => rfl
  | n + 1, h => by
    unfold lstGo
    rw [if_neg (h n (by omega))]
    exact lstGo_none fun i hi => h i (by omega)
theorem lstGo_one {l : List It} {a : Int} {nm : List UInt8} {j : Nat} (hj : (l.getD j default).par = a ∧ (l.getD j default).nm = nm) : ∀ {n : Nat}, j < n → (∀ i, j < i → i < n → ¬ ((l.getD i default).par = a ∧ (l.getD i default).nm = nm)) → lstGo l a nm n = j
  | 0, h, _ => by omega
  | n + 1, h, hn => by
    unfold lstGo
    by_cases e : n = j
    · subst e; rw [if_pos hj]
    · rw [if_neg (hn n (by omega) (by omega))]
      exact lstGo_one hj (by omega) fun i hi hi' => hn i hi (by omega)
theorem fndGo_none {a : Int} {nm : List UInt8} {l : List It} (n : Nat) : ∀ (d i : Nat), i + d = l.length → (∀ j, i ≤ j → j < l.length → ¬ ((l.getD j default).par = a ∧ (l.getD j default).nm = nm)) → fndGo a nm (l.drop i) (i : Int) = -1
  | 0, i, hd, h => by
    obtain rfl : i = l.length := by omega
    exact fndGo_end l a nm _
  | d + 1, i, hd, h => by
    rw [fndGo_at (by omega), if_neg (h i (Nat.le_refl _) (by omega))]
    exact fndGo_none n d (i + 1) (by omega) fun j hj hj' => h j (by omega) hj'
theorem fndGo_one {a : Int} {nm : List UInt8} {l : List It} {j : Nat} (hj : (l.getD j default).par = a ∧ (l.getD j default).nm = nm) (hjl : j < l.length) : ∀ (d i : Nat), i + d = j → (∀ k, k < j → ¬ ((l.getD k default).par = a ∧ (l.getD k default).nm = nm)) → fndGo a nm (l.drop i) (i : Int) = j
  | 0, i, hd, h => by
    obtain rfl : i = j := by omega
    rw [fndGo_at hjl, if_pos hj]
  | d + 1, i, hd, h => by
    rw [fndGo_at (by omega), if_neg (h i (by omega))]
    exact fndGo_one hj hjl d (i + 1) (by omega) h
/-- Where no two siblings have one name, the last is the first. -/
theorem lst_fnd {l : List It} (h : anyK (twinS l) l.length = false) (a : Int) (nm : List UInt8) : lstGo l a nm l.length = fndI l a nm := by
  have ht := anyK_false.1 h
  by_cases hx : ∃ j, j < l.length ∧ (l.getD j default).par = a ∧ (l.getD j default).nm = nm
  · obtain ⟨j, hj, hp⟩ := hx
    have only : ∀ i, i < l.length → (l.getD i default).par = a ∧ (l.getD i default).nm = nm → i = j := by
      intro i hi hq
      rcases Nat.lt_trichotomy i j with hlt | he | hlt
      · have := twin_hit (l := l) hlt (by rw [hq.2, hp.2]) (by rw [hq.1, hp.1])
        rw [ht j hj] at this; cases this
      · exact he
      · have := twin_hit (l := l) hlt (by rw [hq.2, hp.2]) (by rw [hq.1, hp.1])
        rw [ht i hi] at this; cases this
    rw [lstGo_one hp hj fun i h1 h2 hq => by have := only i h2 hq; omega]
    unfold fndI
    have := fndGo_one hp hj j 0 (by omega) fun k hk hq => by have := only k (by omega) hq; omega
    exact this.symm
  · have hn : ∀ i, i < l.length → ¬ ((l.getD i default).par = a ∧ (l.getD i default).nm = nm) := fun i hi hq => hx ⟨i, hi, hq⟩
    rw [lstGo_none hn]
    unfold fndI
    exact (fndGo_none 0 l.length 0 (by omega) fun j _ hj => hn j hj).symm
theorem valid_twins {t : Tr} (h : validS t = 0) : anyK (twinS t.items) t.items.length = false := by
  rw [← rv_valid] at h
  unfold rvS at h
  cases hx : anyK (twinS t.items) t.items.length with
  | false => rfl
  | true =>
    rw [hx, if_pos rfl] at h
    split at h <;> cases h
theorem valid_form {t : Tr} (h : validS t = 0) : formB t.items = true := by
  cases hx : formB t.items with
  | true => rfl
  | false => unfold validS at h; rw [hx, if_neg (by decide)] at h; cases h
theorem valid_ok {t : Tr} (h : validS t = 0) : (∀ x ∈ t.items, itR x = true ∧ prOk x.pr = true ∧ x.pr.length ≤ 8) ∧ t.items.length ≤ 63 ∧ t.slack.length ≤ 16 ∧ prOk t.slack = true ∧ (∀ i, i < t.items.length → depS t.items i ≤ 8) ∧ ∀ i : Nat, i ≤ t.items.length → underG t.items ((i : Int) - 1) ≤ 1048576 := by
  have hf := valid_form h
  rw [← rv_valid] at h
  unfold rvS at h
  rw [if_neg (by rw [hf]; decide)] at h
  by_cases h0 : anyK (twinS t.items) t.items.length = true
  · rw [if_pos h0] at h; cases h
  rw [if_neg h0] at h
  by_cases h1 : (!prOk t.slack || anyK (badR t.items) t.items.length) = true
  · rw [if_pos h1] at h; cases h
  rw [if_neg h1] at h
  by_cases h2 : anyK (deepI t.items) t.items.length = true
  · rw [if_pos h2] at h; cases h
  rw [if_neg h2] at h
  by_cases h3 : ((decide (63 < t.items.length) || decide (16 < t.slack.length)) || anyK (bigP t.items) t.items.length) = true
  · rw [if_pos h3] at h; cases h
  rw [if_neg h3] at h
  by_cases h4 : anyK (overI t.items) (t.items.length + 1) = true
  · rw [if_pos h4] at h; cases h
  simp only [Bool.or_eq_true, not_or, Bool.not_eq_true] at h1 h2 h3 h4
  have a1 := anyK_false.1 h1.2
  have a2 := anyK_false.1 h2
  have a3 := anyK_false.1 h3.2
  have a4 := anyK_false.1 h4
  refine ⟨fun x hx => ?_, by simpa using h3.1.1, by simpa using h3.1.2, by simpa using h1.1, fun i hi => by simpa [deepI] using a2 i hi, fun i hi => by simpa [overI] using a4 i (by omega)⟩
  obtain ⟨i, hi, rfl⟩ := List.getElem_of_mem hx
  have b1 := a1 i hi
  have b3 := a3 i hi
  unfold badR at b1
  unfold bigP at b3
  rw [List.getD, List.getElem?_eq_getElem hi] at b1 b3
  simp at b1 b3
  exact ⟨b1.1, b1.2, b3⟩
end Go.Proofs.YtophilmjfdhhaaaGreatDoor
namespace Go.Proofs.YtophilmjfdhhaaaGreatDoor
open Go Go.RowKit Go.Shelf Go.Sort
set_option linter.unusedVariables false
set_option linter.unusedSimpArgs false
set_option maxRecDepth 100000
set_option maxHeartbeats 4000000

theorem shaped_c (l : List It) (v1 : Value) (W : World) (h : RT W v1 l) (hl : l.length ≤ 1000000000000) (hn : ∀ x ∈ l, x.nm.length ≤ 140737488355328) :
    Calls Tryz.prog 51 #[v1] W fun e w' => e = .returned (.bool (formB l)) ∧ W = w' := by
  obtain ⟨p, c, rfl, hlc, hcm, hit⟩ := h.out
  have HIT := Lib.hid hit
  have NO := Lib.hid (fun i hi h => formB_no (l := l) (i := i) hi h)
  have YES := Lib.hid (fun h => formB_yes (l := l) h)
  have OKE := Lib.hid (fun i (hw : WlN l i) => okAt_of hw)
  have OP := Lib.hid (fun i h => okAt_par (l := l) (i := i) h)
  have HN : Hid (∀ i, i < l.length → (l.getD i default).nm.length ≤ 140737488355328) := Lib.hid (fun i hi => by rw [List.getD, List.getElem?_eq_getElem hi]; exact hn _ (List.getElem_mem hi))
  have hli : (l.length : Int) ≤ 1000000000000 := by omega
  generalize formB l = FB at *
  clear h hit hn
  go_enter Tryz.func51, Tryz.ntmps51
  go_wp2_with fail
  go_loopw [3] (fun iv wr => ∃ k : Nat, iv = .int .i64 k ∧ k ≤ l.length ∧ Hid (∀ j, j < k → okAt l j = true) ∧ W = wr) (fun iv _ => l.length - (intOf iv).toNat)
  case atStart => exact ⟨0, by go_num, Nat.zero_le _, Lib.hid (fun j hj => absurd hj (Nat.not_lt_zero _)), rfl⟩
  case round =>
    obtain ⟨k, rfl, hk, hpass, rfl⟩ := hrel
    have hki : (k : Int) ≤ 1000000000000 := by omega
    by_cases hlt : k < l.length
    · have hlt' : (k : Int) < (l.length : Int) := by omega
      have hk1 : k + 1 ≤ l.length := hlt
      obtain ⟨b, o, rfl, hb, hx⟩ := HIT.out (by omega)
      have x0 := (hx k hlt).c0
      have x1 := (hx k hlt).c1
      have NOk := Lib.hid (fun h => NO.out k hlt h)
      have WN : Hid (WlN l k) := Lib.hid (fun j hj => OP.out j (hpass.out j hj))
      have OKD := Lib.hid (OKE.out k WN.out)
      have NM := Lib.hid (fun w => rname_any ⟨(l.getD k default).nm.toArray⟩ w (by rw [sz]; have := HN.out k hlt; omega))
      simp only at NM
      have HX : Hid (∀ i : Nat, i < k → ItAt W b (o + i * 5) (l.getD i default)) := Lib.hid (fun i hi => hx i (by omega))
      have NXT : Hid (okAt l k = true → ∀ j, j < k + 1 → okAt l j = true) := Lib.hid (fun h j hj => by
        rcases Nat.lt_or_ge j k with h' | h'
        · exact hpass.out j h'
        · obtain rfl : j = k := by omega
          exact h)
      have RK : Hid (rokAt l k = onG l (l.getD k default).par k ((k : Int) - 1) ((l.getD k default).par == -1)) := Lib.hid rfl
      generalize rokAt l k = rk at *
      generalize (l.getD k default).nm = nm at *
      generalize (l.getD k default).par = px at *
      clear hlt hx
      generalize hnm : nameS nm = nb at *
      clear hnm
      cases nb with
      | false =>
        have HR : Hid (FB = false) := Lib.hid (NOk.out (by rw [OKD.out]; simp))
        clear NOk OKD NXT RK
        go_wp2_with (go_at_call 75; refine (NM.out _).mono ?_; rintro e w2 ⟨rfl, rfl⟩)
        go_ret
        exact ⟨by rw [HR.out]; rfl, rfl⟩
      | true =>
        by_cases hp1 : px < -1
        · have HR : Hid (FB = false) := Lib.hid (NOk.out (by rw [OKD.out, decide_eq_false (show ¬ -1 ≤ px by omega)]; rfl))
          have q1 : decide (px < -1) = true := decide_eq_true hp1
          clear NOk OKD NXT RK
          go_wp2_with (go_at_call 75; refine (NM.out _).mono ?_; rintro e w2 ⟨rfl, rfl⟩)
          go_ret
          exact ⟨by rw [HR.out]; rfl, rfl⟩
        · have hp1' : -1 ≤ px := by omega
          have q1 : decide (px < -1) = false := decide_eq_false hp1
          by_cases hp2 : (k : Int) ≤ px
          · have HR : Hid (FB = false) := Lib.hid (NOk.out (by rw [OKD.out, decide_eq_false (show ¬ px < (k : Int) by omega)]; simp))
            have q2 : decide ((k : Int) ≤ px) = true := decide_eq_true hp2
            clear NOk OKD NXT RK
            go_wp2_with (go_at_call 75; refine (NM.out _).mono ?_; rintro e w2 ⟨rfl, rfl⟩)
            go_ret
            exact ⟨by rw [HR.out]; rfl, rfl⟩
          · have hp2' : px < (k : Int) := by omega
            have q2 : decide ((k : Int) ≤ px) = false := decide_eq_false hp2
            have OKD2 : Hid (okAt l k = rk) := Lib.hid (by rw [OKD.out, decide_eq_true hp1', decide_eq_true hp2']; rfl)
            obtain ⟨on0, hon⟩ : ∃ b, b = (px == -1) := ⟨_, rfl⟩
            rw [← hon] at RK
            have hon' : (px == -1) = on0 := hon.symm
            clear OKD hon
            go_wp2_with (go_at_call 75; refine (NM.out _).mono ?_; rintro e w2 ⟨rfl, rfl⟩)
            go_loopw [5, 6] (fun ov kv wr => ∃ (f : Nat) (i : Int) (bb : Bool), ov = .bool bb ∧ kv = .int .i64 i ∧ -1 ≤ i ∧ i < (f : Int) ∧ f ≤ k ∧ Hid (rk = onG l px f i bb) ∧ W = wr) (fun _ kv _ => (intOf kv + 1).toNat)
            case atStart => exact ⟨k, (k : Int) - 1, on0, rfl, by go_num, by omega, by omega, Nat.le_refl _, RK, rfl⟩
            case round =>
              obtain ⟨f, i, bb, rfl, rfl, hi0, hi1, hfk, hrk, rfl⟩ := hrel
              have hii : i ≤ 1000000000000 := by omega
              by_cases hneg : i < 0
              · have hi : ¬ 0 ≤ i := by omega
                have RE : Hid (rk = bb) := Lib.hid (by
                  rw [hrk.out]
                  cases f with
                  | zero => rfl
                  | succ f => exact if_pos hneg)
                clear hneg
                cases bb with
                | true =>
                  have NX := Lib.hid (NXT.out (by rw [OKD2.out, RE.out]))
                  go_wp2_with fail
                  go_roundw
                  case rel => exact ⟨k + 1, by go_num, hk1, NX, trivial⟩
                  case measure => show l.length - ((k : Int) + 1).toNat < l.length - ((k : Int)).toNat; omega
                | false =>
                  have HR := Lib.hid (NOk.out (by rw [OKD2.out, RE.out]))
                  go_wp2_with fail
                  go_ret
                  exact ⟨by rw [HR.out]; rfl, rfl⟩
              · have hi : 0 ≤ i := by omega
                obtain ⟨f, rfl⟩ : ∃ m, f = m + 1 := ⟨f - 1, by omega⟩
                have g := (HX.out i.toNat (by omega)).c1
                have pr := WN.out i.toNat (by omega)
                have RE : Hid (rk = onG l px f (l.getD i.toNat default).par (bb || i == px)) := Lib.hid (by rw [hrk.out]; exact if_neg hneg)
                have hil : i < (l.length : Int) := by omega
                generalize (l.getD i.toNat default).par = pi at *
                have NE : Hid (((i == px) = true → rk = onG l px f pi true) ∧ ((i == px) = false → rk = onG l px f pi bb)) := Lib.hid ⟨fun h => by rw [RE.out, h, Bool.or_true], fun h => by rw [RE.out, h, Bool.or_false]⟩
                have NT : Hid (bb = true → rk = onG l px f pi true) := Lib.hid (fun h => by rw [RE.out, h, Bool.true_or])
                clear hneg RE
                cases bb with
                | true =>
                  have NX := Lib.hid (NT.out rfl)
                  clear NT NE
                  go_wp2_with fail
                  go_roundw
                  case rel => exact ⟨f, pi, true, rfl, rfl, pr.1, by omega, by omega, NX, trivial⟩
                  case measure => show (pi + 1).toNat < (i + 1).toNat; omega
                | false =>
                  by_cases he : i = px
                  · have q3 : (i == px) = true := by simpa using he
                    have NX := Lib.hid (NE.out.1 q3)
                    clear NT NE he
                    go_wp2_with fail
                    go_roundw
                    case rel => exact ⟨f, pi, true, rfl, rfl, pr.1, by omega, by omega, NX, trivial⟩
                    case measure => show (pi + 1).toNat < (i + 1).toNat; omega
                  · have q3 : (i == px) = false := by simpa using he
                    have NX := Lib.hid (NE.out.2 q3)
                    clear NT NE he
                    go_wp2_with fail
                    go_roundw
                    case rel => exact ⟨f, pi, false, rfl, rfl, pr.1, by omega, by omega, NX, trivial⟩
                    case measure => show (pi + 1).toNat < (i + 1).toNat; omega
    · obtain rfl : k = l.length := by omega
      have hlt' : ¬ (l.length : Int) < (l.length : Int) := by omega
      have HR := Lib.hid (YES.out hpass.out)
      clear hlt
      go_wp2_with fail
      go_ret
      exact ⟨by rw [HR.out]; rfl, rfl⟩
end Go.Proofs.YtophilmjfdhhaaaGreatDoor
namespace Go.Proofs.YtophilmjfdhhaaaGreatDoor
open Go Go.RowKit Go.Shelf Go.Sort
set_option linter.unusedVariables false
set_option linter.unusedSimpArgs false
set_option maxRecDepth 100000
set_option maxHeartbeats 8000000

abbrev rtrObj (v1 v2 : Value) : Obj := .cells #[v1, v2] 32
theorem rvalid25_l (l : List It) (sl : List Int) (v1 v2 : Value) (W : World) (h1 : RT W v1 l) (h2 : RI W v2 sl) (hl : l.length ≤ 1000000000000) (hs : sl.length ≤ 140737488355328) (hn : ∀ x ∈ l, x.nm.length ≤ 140737488355328) (hp : ∀ x ∈ l, x.pr.length ≤ 140737488355328) :
    Calls Tryz.prog 22 #[.agg #[v1, v2]] W fun e w' => e = .returned (.int .i64 (validS ⟨l, sl⟩)) ∧ Below W.heap.size W w' := by
  obtain ⟨p1, c1, rfl, _, _, hit⟩ := h1.out
  obtain ⟨p2, c2, rfl⟩ := RI_form h2
  obtain ⟨w0, hw0⟩ : ∃ w0, w0 = W.alloc (rtrObj (.slice p1 l.length c1) (.slice p2 sl.length c2)) := ⟨_, rfl⟩
  have b0 : Below W.heap.size W w0 := by rw [hw0]; exact (Below.refl _ _).alloc (Nat.le_refl _) _
  have CC : w0.heap[W.heap.size]? = some (rtrObj (.slice p1 l.length c1) (.slice p2 sl.length c2)) := by rw [hw0]; exact new_blk _
  have HIT := Lib.hid hit
  have SH := Lib.hid (shaped_c l _ w0 (h1.below b0) hl hn)
  have HW := Lib.hid hw0
  have B0 := Lib.hid b0
  have HC := Lib.hid CC
  have V4 : Hid (formB l = false → validS ⟨l, sl⟩ = 4) := Lib.hid (fun h => by unfold validS; rw [if_neg (by rw [h]; decide)])
  have VV : Hid (formB l = true → validS ⟨l, sl⟩ = if anyK (twinS l) l.length = true then 251 else if (!prOk sl || anyK (badR l) l.length) = true then 2 else if anyK (deepI l) l.length = true then 90 else if ((decide (63 < l.length) || decide (16 < sl.length)) || anyK (bigP l) l.length) = true then 30 else if anyK (overI l) (l.length + 1) = true then 80 else 0) := Lib.hid (fun h => by
    rw [← rv_valid]; unfold rvS; rw [if_neg (by rw [h]; decide)])
  have WLF : Hid (formB l = true → Wl l) := Lib.hid (fun h => formB_wl h)
  have TWc := Lib.hid (fun w (hb : Below W.heap.size W w) i (hi : i < l.length) => rtwin_c l _ i w (h1.below hb) hi (by omega))
  have DPc := Lib.hid (fun (hw : Wl l) w (hb : Below W.heap.size W w) (i : Nat) (hi : i < l.length) => rdepth_c l _ i w (h1.below hb) hw (by omega) (by omega) (by omega))
  have UNc := Lib.hid (fun (hl : l.length ≤ 63) (hv : ∀ x ∈ l, itR x = true) w (hb : Below W.heap.size W w) (par : Int) => runder_c l _ par w (h1.below hb) (by omega) hv)
  have PSc := Lib.hid (fun w (hb : Below W.heap.size W w) => rprios_c sl _ w (h2.below hb) hs)
  have HP : Hid (∀ i, i < l.length → (l.getD i default).pr.length ≤ 140737488355328) := Lib.hid (fun i hi => by rw [List.getD, List.getElem?_eq_getElem hi]; exact hp _ (List.getElem_mem hi))
  have hli : (l.length : Int) ≤ 1000000000000 := by omega
  have hsi : (sl.length : Int) ≤ 140737488355328 := by omega
  have c0 := blk_cell (j := 0) (v := .slice p1 l.length c1) HC.out rfl
  have c1' := blk_cell (j := 1) (v := .slice p2 sl.length c2) HC.out rfl
  have hT0 : W.heap.size < w0.heap.size := blk_lt CC
  generalize validS ⟨l, sl⟩ = R at *
  generalize formB l = FB at *
  clear h1 h2 hw0 b0 CC hs hn hp hit hl
  go_enter Tryz.func22, Tryz.ntmps22
  go_wp2_with fail
  rw [← HW.out]
  refine SH.out.mono ?_
  rintro e w1 ⟨rfl, rfl⟩
  cases FB with
  | false =>
    have HR := Lib.hid (V4.out rfl)
    go_wp2_with fail
    go_ret
    exact ⟨by rw [HR.out]; rfl, B0.out⟩
  | true =>
    have HV := Lib.hid (VV.out rfl)
    have HWL := Lib.hid (WLF.out rfl)
    have DPc' := Lib.hid (DPc.out HWL.out)
    clear V4 VV WLF SH DPc
    have PSq := Lib.hid (fun n => (PSc.out (w0.drewN n) (B0.out.trans (Qt.below ⟨n, rfl⟩))).mono fun e w' h => (⟨h.1, h.2.symm⟩ : _ ∧ w' = w0.drewN n))
    go_upto_region 4 with fail
    go_cut [4, 5, 6, 7, 8] (fun s4 s5 s6 s7 s8 w => ∃ wx : World, wx = w ∧ s4 = .bool false ∧ s5 = .bool (!prOk sl) ∧ s6 = .bool false ∧ s7 = .bool (decide (63 < l.length) || decide (16 < sl.length)) ∧ s8 = .bool false ∧ Hid (Below w0.heap.size w0 w))
    case first =>
      generalize prOk sl = pb at *
      by_cases h63 : 63 < l.length
      · have q1 : (63 : Int) < (l.length : Int) := by omega
        have q2 : decide ((63 : Int) < (l.length : Int)) = true := decide_eq_true q1
        have q3 : Hid (decide (63 < l.length) = true) := Lib.hid (decide_eq_true h63)
        clear h63
        go_quiet ((go_at_call 52; exact Calls.quiet_of_same (PSq.out _)))
        go_wp2_with fail
        go_meet
        exact ⟨_, rfl, rfl, rfl, rfl, by rw [q3.out]; rfl, rfl, Lib.hid (Qt.below ⟨_, rfl⟩)⟩
      · have q1 : ¬ (63 : Int) < (l.length : Int) := by omega
        have q2 : decide ((63 : Int) < (l.length : Int)) = false := decide_eq_false q1
        have q3 : Hid (decide (63 < l.length) = false) := Lib.hid (decide_eq_false h63)
        have q4 : Hid (decide ((16 : Int) < (sl.length : Int)) = decide (16 < sl.length)) := Lib.hid (by by_cases h : 16 < sl.length <;> simp [h] <;> omega)
        clear h63
        go_quiet ((go_at_call 52; exact Calls.quiet_of_same (PSq.out _)))
        go_wp2_with fail
        go_meet
        exact ⟨_, rfl, rfl, rfl, rfl, by rw [q3.out, ← q4.out]; rfl, rfl, Lib.hid (Qt.below ⟨_, rfl⟩)⟩
    case rest =>
      obtain ⟨w4, rfl, rfl, rfl, rfl, rfl, rfl, hb4⟩ := hcut
      have OV0 := Lib.hid (anyK_zero (overI l))
      go_wp2_with fail
      go_loopw [4, 5, 6, 7, 9] (fun s4 s5 s6 s7 iv wr => ∃ (k : Nat) (b4 b5 b6 b7 : Bool), s4 = .bool b4 ∧ s5 = .bool b5 ∧ s6 = .bool b6 ∧ s7 = .bool b7 ∧ iv = .int .i64 k ∧ k ≤ l.length ∧ Hid (b4 = anyK (twinS l) k ∧ b5 = (!prOk sl || anyK (badR l) k) ∧ b6 = anyK (deepI l) k ∧ b7 = ((decide (63 < l.length) || decide (16 < sl.length)) || anyK (bigP l) k)) ∧ Hid (Below w0.heap.size w0 wr)) (fun _ _ _ _ iv _ => l.length - (intOf iv).toNat)
      case atStart => exact ⟨0, false, !prOk sl, false, decide (63 < l.length) || decide (16 < sl.length), rfl, rfl, rfl, rfl, by go_num, Nat.zero_le _, Lib.hid ⟨rfl, by simp [anyK_zero], rfl, by simp [anyK_zero]⟩, hb4⟩
      case round =>
        obtain ⟨k, b4, b5, b6, b7, rfl, rfl, rfl, rfl, rfl, hk, hbs, hbe⟩ := hrel
        have hki : (k : Int) ≤ 1000000000000 := by omega
        have BW := Lib.hid (B0.out.trans (hbe.out.mono B0.out.size))
        by_cases hlt : k < l.length
        · have hlt' : (k : Int) < (l.length : Int) := by omega
          have hk1 : k + 1 ≤ l.length := hlt
          obtain ⟨b, o, rfl, hb, hx⟩ := HIT.out (by omega)
          have XF := Lib.hid (fun w (h : Below W.heap.size W w) => (hx k hlt).below hb h)
          have TWk := Lib.hid (fun w (h : Below W.heap.size W w) => TWc.out w h k hlt)
          have DPk := Lib.hid (fun w (h : Below W.heap.size W w) => DPc'.out w h k hlt)
          have HPk := Lib.hid (HP.out k hlt)
          have E4 : Hid ((b4 || twinS l k) = anyK (twinS l) (k + 1)) := Lib.hid (by rw [anyK_succ, ← hbs.out.1])
          have E5 : Hid ((b5 || badR l k) = (!prOk sl || anyK (badR l) (k + 1))) := Lib.hid (by rw [anyK_succ, ← Bool.or_assoc, ← hbs.out.2.1])
          have E6 : Hid ((b6 || deepI l k) = anyK (deepI l) (k + 1)) := Lib.hid (by rw [anyK_succ, ← hbs.out.2.2.1])
          have E7 : Hid ((b7 || bigP l k) = ((decide (63 < l.length) || decide (16 < sl.length)) || anyK (bigP l) (k + 1))) := Lib.hid (by rw [anyK_succ, ← Bool.or_assoc, ← hbs.out.2.2.2])
          have D5 : Hid (badR l k = !(itR (l.getD k default) && prOk (l.getD k default).pr)) := Lib.hid rfl
          have D6 : Hid (deepI l k = decide ((8 : Int) < (depS l k : Nat))) := Lib.hid (by unfold deepI; by_cases h : 8 < depS l k <;> simp [h] <;> omega)
          have D7 : Hid (bigP l k = decide ((8 : Int) < ((l.getD k default).pr.length : Nat))) := Lib.hid (by unfold bigP; by_cases h : 8 < (l.getD k default).pr.length <;> simp [h] <;> omega)
          generalize twinS l k = tw at *
          generalize badR l k = bd at *
          generalize deepI l k = dp at *
          generalize bigP l k = bg at *
          generalize depS l k = D at *
          generalize l.getD k default = x at *
          clear hlt hx hbs
          go_upto_region 8 with fail
          go_cut [4] (fun s w => ∃ wx : World, wx = w ∧ s = .bool (b4 || tw) ∧ Hid (Below wr.heap.size wr w))
          case first =>
            cases b4 with
            | true =>
              go_wp2_with fail
              go_meet
              exact ⟨_, rfl, rfl, Lib.hid (Below.refl _ _)⟩
            | false =>
              go_wp2_with (go_at_call 53; refine (TWk.out _ BW.out).mono ?_; rintro e w2 ⟨rfl, hb2⟩)
              go_meet
              exact ⟨_, rfl, rfl, Lib.hid hb2⟩
          case rest =>
            obtain ⟨w8, rfl, rfl, hb8⟩ := hcut
            have B8 := Lib.hid (BW.out.trans (hb8.out.mono BW.out.size))
            obtain ⟨_, _, x2, x3, z, x4, hz⟩ := XF.out w8 B8.out
            obtain ⟨az, cz, rfl⟩ := RI_form hz
            have RZ := Lib.hid hz
            have VC := Lib.hid (fun w => rvalid_c x.q x.p w)
            have PC := Lib.hid (fun w (h : Below w8.heap.size w8 w) => rprios_c x.pr _ w (RZ.out.below h) HPk.out)
            clear hz
            go_upto_region 9 with fail
            go_cut [5] (fun s w => ∃ wx : World, wx = w ∧ s = .bool (b5 || bd) ∧ Hid (Below w8.heap.size w8 w))
            case first =>
              cases b5 with
              | true =>
                go_wp2_with fail
                go_meet
                exact ⟨_, rfl, rfl, Lib.hid (Below.refl _ _)⟩
              | false =>
                by_cases hr : itR x = true
                · have HB : Hid (bd = !prOk x.pr) := Lib.hid (by rw [D5.out, hr, Bool.true_and])
                  have VC0 : Hid (∀ w, Calls Tryz.prog 54 #[.agg #[.int .i64 x.q, .int .i64 x.p]] w fun e w' => e = .returned (.int .i64 0) ∧ Below w.heap.size w w') := Lib.hid (fun w => by have := VC.out w; rw [if_pos (show okR x.q x.p = true from hr)] at this; exact this)
                  have x4b : Hid (∀ w, Below w8.heap.size w8 w → ∃ u, w.cell? ⟨b, o + k * 5 + 4, none⟩ = some u ∧ RI w u x.pr) := Lib.hid (fun w h => (XF.out w (B8.out.trans (h.mono B8.out.size))).c4)
                  have hbw : b < w8.heap.size := Nat.lt_of_lt_of_le hb B8.out.size
                  have X4 := Lib.hid (fun w (h : Below w8.heap.size w8 w) => (h.cell (p := ⟨b, o + k * 5 + 4, none⟩) hbw).trans x4)
                  clear hr VC D5
                  go_wp2_with (first | (go_at_call 54; refine (VC0.out _).mono ?_; rintro e w2 ⟨rfl, hb2⟩; have x4' := X4.out _ hb2) | (go_at_call 52; refine (PC.out _ hb2).mono ?_; rintro e w3 ⟨rfl, rfl⟩))
                  go_meet
                  exact ⟨_, rfl, by rw [HB.out]; rfl, Lib.hid hb2⟩
                · have hr' : itR x = false := by simpa using hr
                  have HB : Hid (bd = true) := Lib.hid (by rw [D5.out, hr']; rfl)
                  have VC0 : Hid (∀ w, Calls Tryz.prog 54 #[.agg #[.int .i64 x.q, .int .i64 x.p]] w fun e w' => e = .returned (.int .i64 2) ∧ Below w.heap.size w w') := Lib.hid (fun w => by have := VC.out w; rw [if_neg (show ¬ okR x.q x.p = true from hr)] at this; exact this)
                  clear hr hr' VC D5
                  go_wp2_with (go_at_call 54; refine (VC0.out _).mono ?_; rintro e w2 ⟨rfl, hb2⟩)
                  go_meet
                  exact ⟨_, rfl, by rw [HB.out]; rfl, Lib.hid hb2⟩
            case rest =>
              obtain ⟨w9, rfl, rfl, hb9⟩ := hcut
              have B9 := Lib.hid (B8.out.trans (hb9.out.mono B8.out.size))
              have x4n : w9.cell? ⟨b, o + k * 5 + 4, none⟩ = some (.slice az x.pr.length cz) := (hb9.out.cell (p := ⟨b, o + k * 5 + 4, none⟩) (Nat.lt_of_lt_of_le hb B8.out.size)).trans x4
              clear x2 x3 x4
              go_upto_region 10 with fail
              go_cut [7] (fun s w => ∃ wx : World, wx = w ∧ s = .bool (b7 || bg) ∧ w9 = w)
              case first =>
                cases b7 with
                | true =>
                  go_wp2_with fail
                  go_meet
                  exact ⟨_, rfl, rfl, rfl⟩
                | false =>
                  go_wp2_with fail
                  go_meet
                  exact ⟨_, rfl, by rw [D7.out]; rfl, rfl⟩
              case rest =>
                obtain ⟨w10, rfl, rfl, rfl⟩ := hcut
                cases b6 with
                | true =>
                  go_wp2_with fail
                  go_roundw
                  case rel => exact ⟨k + 1, _, _, _, _, rfl, rfl, rfl, rfl, by go_num, hk1, Lib.hid ⟨E4.out, E5.out, E6.out, E7.out⟩, Lib.hid (hbe.out.trans ((hb8.out.trans (hb9.out.mono hb8.out.size)).mono hbe.out.size))⟩
                  case measure => show l.length - ((k : Int) + 1).toNat < l.length - ((k : Int)).toNat; omega
                | false =>
                  go_wp2_with (go_at_call 42; refine (DPk.out _ B9.out).mono ?_; rintro e w2 ⟨rfl, rfl⟩)
                  go_roundw
                  case rel => exact ⟨k + 1, _, _, dp, _, rfl, rfl, by rw [D6.out], rfl, by go_num, hk1, Lib.hid ⟨E4.out, E5.out, E6.out, E7.out⟩, Lib.hid (hbe.out.trans ((hb8.out.trans (hb9.out.mono hb8.out.size)).mono hbe.out.size))⟩
                  case measure => show l.length - ((k : Int) + 1).toNat < l.length - ((k : Int)).toNat; omega
        · obtain rfl : k = l.length := by omega
          have hlt' : ¬ (l.length : Int) < (l.length : Int) := by omega
          have HVb : Hid (R = if b4 = true then 251 else if b5 = true then 2 else if b6 = true then 90 else if b7 = true then 30 else if anyK (overI l) (l.length + 1) = true then 80 else 0) := Lib.hid (by rw [HV.out, ← hbs.out.1, ← hbs.out.2.1, ← hbs.out.2.2.1, ← hbs.out.2.2.2])
          have OKv : Hid (b5 = false → b7 = false → l.length ≤ 63 ∧ ∀ x ∈ l, itR x = true) := Lib.hid (fun h5 h7 => by
            have g5 := hbs.out.2.1.symm.trans h5
            have g7 := hbs.out.2.2.2.symm.trans h7
            simp only [Bool.or_eq_false_iff] at g5 g7
            refine ⟨by simpa using g7.1.1, fun x hx => ?_⟩
            obtain ⟨i, hi, rfl⟩ := List.getElem_of_mem hx
            have := anyK_false.1 g5.2 i hi
            unfold badR at this
            rw [List.getD, List.getElem?_eq_getElem hi] at this
            simp at this
            exact this.1)
          clear hlt hbs HV
          cases b4 with
          | true =>
            have HR := Lib.hid (HVb.out.trans (if_pos rfl))
            clear HVb OKv
            go_wp2_with fail
            go_ret
            exact ⟨by rw [HR.out]; rfl, BW.out⟩
          | false =>
            cases b5 with
            | true =>
              have HR := Lib.hid (HVb.out.trans ((if_neg (by decide)).trans (if_pos rfl)))
              clear HVb OKv
              go_wp2_with fail
              go_ret
              exact ⟨by rw [HR.out]; rfl, BW.out⟩
            | false =>
              cases b6 with
              | true =>
                have HR := Lib.hid (HVb.out.trans ((if_neg (by decide)).trans ((if_neg (by decide)).trans (if_pos rfl))))
                clear HVb OKv
                go_wp2_with fail
                go_ret
                exact ⟨by rw [HR.out]; rfl, BW.out⟩
              | false =>
                cases b7 with
                | true =>
                  have HR := Lib.hid (HVb.out.trans ((if_neg (by decide)).trans ((if_neg (by decide)).trans ((if_neg (by decide)).trans (if_pos rfl)))))
                  clear HVb OKv
                  go_wp2_with fail
                  go_ret
                  exact ⟨by rw [HR.out]; rfl, BW.out⟩
                | false =>
                  have HR := Lib.hid (HVb.out.trans ((if_neg (by decide)).trans ((if_neg (by decide)).trans ((if_neg (by decide)).trans (if_neg (by decide))))))
                  have UN := Lib.hid (UNc.out (OKv.out rfl rfl).1 (OKv.out rfl rfl).2)
                  have h63 := (OKv.out rfl rfl).1
                  clear HVb OKv
                  go_wp2_with fail
                  go_loopw [8, 10] (fun s8 iv wr => ∃ (m : Nat) (b8 : Bool), s8 = .bool b8 ∧ iv = .int .i64 ((m : Int) - 1) ∧ m ≤ l.length + 1 ∧ Hid (b8 = anyK (overI l) m) ∧ Hid (Below W.heap.size W wr)) (fun _ iv _ => (l.length - intOf iv).toNat)
                  case atStart => exact ⟨0, false, rfl, by go_num, Nat.zero_le _, Lib.hid OV0.out.symm, BW⟩
                  case round =>
                    obtain ⟨m, b8, rfl, rfl, hm, hb8, hbv⟩ := hrel
                    have hmi : (m : Int) ≤ 1000 := by omega
                    by_cases hml : m < l.length + 1
                    · have hml' : (m : Int) - 1 < (l.length : Int) := by omega
                      have hml2 : (m : Int) < (l.length : Int) + 1 := by omega
                      have hm1 : m + 1 ≤ l.length + 1 := hml
                      have E8 : Hid ((b8 || overI l m) = anyK (overI l) (m + 1)) := Lib.hid (by rw [anyK_succ, ← hb8.out])
                      have D8 : Hid (overI l m = decide (1048576 < underG l ((m : Int) - 1))) := Lib.hid rfl
                      have UNm := Lib.hid (UN.out wr hbv.out ((m : Int) - 1))
                      generalize underG l ((m : Int) - 1) = U at *
                      generalize overI l m = om at *
                      clear hml hb8
                      cases b8 with
                      | true =>
                        go_wp2_with fail
                        go_roundw
                        case rel => exact ⟨m + 1, true, rfl, by go_num, hm1, E8, hbv⟩
                        case measure => show ((l.length : Int) - (m : Int)).toNat < ((l.length : Int) - ((m : Int) - 1)).toNat; omega
                      | false =>
                        go_wp2_with (go_at_call 31; refine UNm.out.mono ?_; rintro e w2 ⟨rfl, hb2⟩)
                        go_roundw
                        case rel => exact ⟨m + 1, om, by rw [D8.out], by go_num, hm1, E8, Lib.hid (hbv.out.trans (hb2.mono hbv.out.size))⟩
                        case measure => show ((l.length : Int) - (m : Int)).toNat < ((l.length : Int) - ((m : Int) - 1)).toNat; omega
                    · obtain rfl : m = l.length + 1 := by omega
                      have hml' : ¬ ((l.length + 1 : Nat) : Int) - 1 < (l.length : Int) := by omega
                      have HR2 : Hid (R = if b8 = true then 80 else 0) := Lib.hid (by rw [HR.out, hb8.out])
                      clear hml hb8 HR
                      cases b8 with
                      | true =>
                        go_wp2_with fail
                        go_ret
                        exact ⟨by rw [HR2.out]; rfl, hbv.out⟩
                      | false =>
                        go_wp2_with fail
                        go_ret
                        exact ⟨by rw [HR2.out]; rfl, hbv.out⟩
theorem rvalid25_c (t : Tr) (v1 v2 : Value) (W : World) (h1 : RT W v1 t.items) (h2 : RI W v2 t.slack) (hl : t.items.length ≤ 1000000000000) (hs : t.slack.length ≤ 140737488355328) (hn : ∀ x ∈ t.items, x.nm.length ≤ 140737488355328) (hp : ∀ x ∈ t.items, x.pr.length ≤ 140737488355328) :
    Calls Tryz.prog 22 #[.agg #[v1, v2]] W fun e w' => e = .returned (.int .i64 (validS t)) ∧ Below W.heap.size W w' := rvalid25_l t.items t.slack v1 v2 W h1 h2 hl hs hn hp
end Go.Proofs.YtophilmjfdhhaaaGreatDoor
