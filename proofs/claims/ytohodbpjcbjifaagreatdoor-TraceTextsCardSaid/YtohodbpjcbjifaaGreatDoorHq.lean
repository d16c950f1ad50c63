/- Plain laws on handles' texts: both readers read just what is told. No program in sight. -/
import Derived.Test.YtohodbpjcbjifaaGreatDoorHp
namespace Go.Proofs.YtohodbpjcbjifaaGreatDoor
open Go Go.RowKit Go.Shelf Go.Sort
set_option linter.unusedVariables false

theorem decDigits_dgt (n : Nat) : ∀ c ∈ Lib.decDigits n, dgt c = true := by
  induction n using Nat.strongRecOn with
  | ind n ih =>
    intro c hc
    have key : ∀ r : Fin 10, dgt (UInt8.ofNat (48 + r.val)) = true := by decide
    by_cases h : n < 10
    · rw [Lib.decDigits_one h, List.mem_singleton] at hc
      subst hc
      exact key ⟨n, h⟩
    · rw [decDigits_step n h, List.mem_append, List.mem_singleton] at hc
      rcases hc with hc | rfl
      · exact ih (n / 10) (by omega) c hc
      · exact key ⟨n % 10, Nat.mod_lt _ (by decide)⟩
theorem ofNat_val (r : Nat) (h : r < 10) : ((UInt8.ofNat (48 + r)).toNat : Int) - 48 = r := by
  have key : ∀ r : Fin 10, ((UInt8.ofNat (48 + r.val)).toNat : Int) - 48 = (r.val : Int) := by decide
  exact key ⟨r, h⟩
theorem decV_decDigits (n : Nat) : decV (Lib.decDigits n) = n := by
  induction n using Nat.strongRecOn with
  | ind n ih =>
    by_cases h : n < 10
    · rw [Lib.decDigits_one h]
      simp only [decV, List.foldl_cons, List.foldl_nil]
      have := ofNat_val n h
      omega
    · rw [decDigits_step n h, decV_snoc, ih (n / 10) (by omega), ofNat_val _ (Nat.mod_lt _ (by decide))]
      omega
theorem decDigits_ne (n : Nat) : Lib.decDigits n ≠ [] := by
  intro h
  have h1 := Lib.decDigits_length n
  have h2 := Lib.nDigits_pos n
  rw [h] at h1
  simp at h1
  omega
theorem decDigits_len6 (n : Nat) (h : n < 1000000) : (Lib.decDigits n).length ≤ 6 := by
  rw [Lib.decDigits_length]
  rcases Nat.lt_or_ge n 10 with h1 | h1
  · rw [Lib.nDigits_small h1]; omega
  · rcases Nat.lt_or_ge n 100 with h2 | h2
    · rw [Lib.nDigits_unique 1 n (by omega) (by omega)]; omega
    · rcases Nat.lt_or_ge n 1000 with h3 | h3
      · rw [Lib.nDigits_unique 2 n (by omega) (by omega)]; omega
      · rcases Nat.lt_or_ge n 10000 with h4 | h4
        · rw [Lib.nDigits_unique 3 n (by omega) (by omega)]; omega
        · rcases Nat.lt_or_ge n 100000 with h5 | h5
          · rw [Lib.nDigits_unique 4 n (by omega) (by omega)]; omega
          · rw [Lib.nDigits_unique 5 n (by omega) (by omega)]; omega
/-- No needless nought in front. -/
def noNought (d : List UInt8) : Prop := d ≠ [] ∧ ((d.headD 0).toNat ≠ 48 ∨ d.length = 1)
theorem headD_append (a b : List UInt8) (h : a ≠ []) : (a ++ b).headD 0 = a.headD 0 := by cases a with | nil => exact absurd rfl h | cons c r => rfl
theorem decDigits_head (n : Nat) (h : 0 < n) : ((Lib.decDigits n).headD 0).toNat ≠ 48 := by
  induction n using Nat.strongRecOn with
  | ind n ih =>
    by_cases h1 : n < 10
    · rw [Lib.decDigits_one h1]
      have := ofNat_val n h1
      simp only [List.headD_cons]
      omega
    · rw [decDigits_step n h1, headD_append _ _ (decDigits_ne _)]
      exact ih (n / 10) (by omega) (by omega)
theorem decDigits_noNought (n : Nat) : noNought (Lib.decDigits n) := by
  refine ⟨decDigits_ne n, ?_⟩
  rcases Nat.eq_zero_or_pos n with rfl | h
  · right; rw [Lib.decDigits_one (by decide)]; rfl
  · exact .inl (decDigits_head n h)
/-- Digits without a needless nought are what their number is told as. -/
theorem decDigits_of (d : List UInt8) : (∀ c ∈ d, dgt c = true) → noNought d → Lib.decDigits (decV d).toNat = d := by
  intro hd hn
  obtain ⟨k, hk⟩ : ∃ k, d.length = k := ⟨_, rfl⟩
  induction k generalizing d with
  | zero => exact absurd (List.eq_nil_of_length_eq_zero hk) hn.1
  | succ k ih =>
    obtain ⟨e, c, rfl⟩ : ∃ e c, d = e ++ [c] := ⟨d.dropLast, d.getLast hn.1, (List.dropLast_concat_getLast hn.1).symm⟩
    have hc := hd c (by simp)
    have hc' : 48 ≤ c.toNat ∧ c.toNat ≤ 57 := by unfold dgt at hc; exact of_decide_eq_true hc
    have hcb : UInt8.ofNat (48 + (c.toNat - 48)) = c := by rw [show 48 + (c.toNat - 48) = c.toNat by omega]; simp
    rw [decV_snoc]
    by_cases he : e = []
    · subst he
      have e1 : (10 * decV [] + ((c.toNat : Int) - 48)).toNat = c.toNat - 48 := by simp only [decV, List.foldl_nil]; omega
      rw [e1, Lib.decDigits_one (by omega), hcb]
      rfl
    · have hde : ∀ x ∈ e, dgt x = true := fun x hx => hd x (by simp [hx])
      have hne : noNought e := by
        refine ⟨he, ?_⟩
        rcases hn.2 with h | h
        · rw [headD_append _ _ he] at h; exact .inl h
        · simp at h; exact absurd h he
      have b := decV_bound e hde
      have ih' := ih e hde hne (by simp at hk; exact hk)
      have pos : 0 < decV e := by
        rcases Int.lt_or_eq_of_le b.1 with h | h
        · exact h
        · exfalso
          rw [← h] at ih'
          rw [show ((0 : Int)).toNat = 0 from rfl, Lib.decDigits_one (by decide)] at ih'
          rw [← ih'] at hn
          rcases hn.2 with h | h
          · exact h rfl
          · simp at h
      have e1 : (10 * decV e + ((c.toNat : Int) - 48)).toNat = 10 * (decV e).toNat + (c.toNat - 48) := by omega
      rw [e1, decDigits_step _ (by omega), show (10 * (decV e).toNat + (c.toNat - 48)) / 10 = (decV e).toNat by omega, show (10 * (decV e).toNat + (c.toNat - 48)) % 10 = c.toNat - 48 by omega, ih', hcb]

/-- Atoi of a numeral. -/
theorem parse_dec (d : List UInt8) (acc : Nat) (hd : ∀ c ∈ d, dgt c = true) (m : Nat) (ha : acc < 10 ^ m) (hm : m + d.length ≤ 18) :
    Lib.parseUint10 acc d = .ok (d.foldl (fun n c => n * 10 + (c.toNat - 48)) acc) := by
  induction d generalizing acc m with
  | nil => rfl
  | cons c r ih =>
    have hc := hd c (by simp)
    have hc' : 48 ≤ c.toNat ∧ c.toNat ≤ 57 := by unfold dgt at hc; exact of_decide_eq_true hc
    have hm' : m ≤ 17 := by simp at hm; omega
    have hp : (10 : Nat) ^ m ≤ 10 ^ 17 := Nat.pow_le_pow_right (by decide) hm'
    unfold Lib.parseUint10
    rw [if_pos hc', if_neg (by omega), if_neg (by omega), List.foldl_cons]
    exact ih (acc * 10 + (c.toNat - 48)) (fun x hx => hd x (by simp [hx])) (m + 1) (by rw [Nat.pow_succ]; omega) (by simp at hm; omega)
theorem foldl_cast (d : List UInt8) (hd : ∀ c ∈ d, dgt c = true) (acc : Nat) : ((d.foldl (fun n c => n * 10 + (c.toNat - 48)) acc : Nat) : Int) = d.foldl (fun (n : Int) c => 10 * n + ((c.toNat : Int) - 48)) (acc : Int) := by
  induction d generalizing acc with
  | nil => rfl
  | cons c r ih =>
    have hc := hd c (by simp)
    have hc' : 48 ≤ c.toNat ∧ c.toNat ≤ 57 := by unfold dgt at hc; exact of_decide_eq_true hc
    rw [List.foldl_cons, List.foldl_cons, ih (fun x hx => hd x (by simp [hx]))]
    congr 1
    omega
theorem atoiV_digits (d : List UInt8) (hd : ∀ c ∈ d, dgt c = true) (hn : d ≠ []) (hl : d.length ≤ 18) : atoiV d = decV d := by
  obtain ⟨c, r, rfl⟩ : ∃ c r, d = c :: r := by cases d with | nil => exact absurd rfl hn | cons c r => exact ⟨c, r, rfl⟩
  have hc := hd c (by simp)
  have hc' : 48 ≤ c.toNat ∧ c.toNat ≤ 57 := by unfold dgt at hc; exact of_decide_eq_true hc
  have h1 := parse_dec (c :: r) 0 hd 0 (by decide) (by omega)
  have h2 := foldl_cast (c :: r) hd 0
  have h3 := decV_bound (c :: r) hd
  have hp : (10 : Int) ^ (c :: r).length ≤ 1000000000000000000 := by
    have h4 : (10 : Nat) ^ (c :: r).length ≤ 10 ^ 18 := Nat.pow_le_pow_right (by decide) hl
    have h5 : (((10 : Nat) ^ (c :: r).length : Nat) : Int) ≤ ((10 ^ 18 : Nat) : Int) := Int.ofNat_le.2 h4
    simpa using h5
  have h6 : ((List.foldl (fun n c => n * 10 + (c.toNat - 48)) 0 (c :: r) : Nat) : Int) = decV (c :: r) := h2
  have e : Lib.atoiAll (c :: r) = .ok (decV (c :: r)) := by
    unfold Lib.atoiAll
    simp only
    rw [if_neg (by omega)]
    unfold Lib.parseMag
    rw [if_neg (by simp), h1]
    simp only
    rw [if_neg (by omega), if_neg (by omega), if_neg (by omega), h6]
  unfold atoiV
  rw [e]

theorem index_point (a b : List UInt8) (h : ∀ c ∈ a, c ≠ 46) : Lib.index (a ++ 46 :: b) [46] = a.length := by
  induction a with
  | nil => simp [Lib.index, List.isPrefixOf]
  | cons c r ih =>
    have hc := h c (by simp)
    have i := ih fun x hx => h x (by simp [hx])
    rw [List.cons_append]
    unfold Lib.index
    rw [if_neg (by simp [List.isPrefixOf]; exact fun e => hc e.symm), i, if_neg (by simp)]
    simp
theorem cut_point (a b : List UInt8) (h : ∀ c ∈ a, c ≠ 46) : Lib.cut (a ++ 46 :: b) [46] = (a, b, true) := by
  unfold Lib.cut
  rw [index_point a b h, if_pos (by omega)]
  simp
theorem dgt_ne (c : UInt8) (h : dgt c = true) : c ≠ 46 := by rintro rfl; revert h; decide

theorem takeWhile_all (f : UInt8 → Bool) (l : List UInt8) : ∀ c ∈ l.takeWhile f, f c = true := by
  induction l with
  | nil => intro c hc; simp at hc
  | cons x r ih =>
    intro c hc
    rw [List.takeWhile_cons] at hc
    split at hc
    · rename_i hx
      rcases List.mem_cons.1 hc with rfl | h
      · exact hx
      · exact ih c h
    · simp at hc

theorem letter_kf {k : Int} (h : k = 1 ∨ k = 2 ∨ k = 3) : kf (letter k).toNat 3 = k ∧ Lib.indexByte [110, 116, 115] (letter k) + 1 = k ∧ letter k ≠ 45 := by
  rcases h with rfl | rfl | rfl <;> decide

/-- What both readers see of a valid handle's text. -/
theorem text_form {h : Int} (v : HV h) : ∃ a b : List UInt8, hText h = letter (hK h) :: (a ++ 46 :: b) ∧ a = Lib.itoa (hS h) ∧ b = Lib.itoa (hG h) ∧ (∀ c ∈ a, dgt c = true) ∧ (∀ c ∈ b, dgt c = true) ∧ noNought a ∧ noNought b ∧
    a.length ≤ 6 ∧ b.length ≤ 6 ∧ decV a = hS h ∧ decV b = hG h := by
  have hs : 0 ≤ hS h ∧ hS h ≤ 65535 := ⟨v.2.2.1, v.2.2.2.1⟩
  have hg : 0 ≤ hG h ∧ hG h ≤ 1023 := by have := v.2.2.2.2; omega
  have ea := itoa_nat (hS h) hs.1
  have eb := itoa_nat (hG h) hg.1
  refine ⟨_, _, by unfold hText; rw [if_neg (HV_ne v), if_pos v], rfl, rfl, ?_, ?_, ?_, ?_, ?_, ?_, ?_, ?_⟩ <;> (try rw [ea]) <;> (try rw [eb])
  · exact decDigits_dgt _
  · exact decDigits_dgt _
  · exact decDigits_noNought _
  · exact decDigits_noNought _
  · exact decDigits_len6 _ (by omega)
  · exact decDigits_len6 _ (by omega)
  · rw [decV_decDigits]; omega
  · rw [decV_decDigits]; omega

theorem genR_of_text {h : Int} (v : HV h) : genR (rdK (hText h)) (rdA (hText h)) (rdB (hText h)) (hText h) = (h, 0) := by
  obtain ⟨a, b, ht, _, _, da, db, na, nb, la, lb, va, vb⟩ := text_form v
  have k3 : hK h = 1 ∨ hK h = 2 ∨ hK h = 3 := by have := v.1; have := v.2.1; omega
  have ek : rdK (hText h) = hK h := by unfold rdK; rw [ht]; exact (letter_kf k3).2.1
  have ec : Lib.cut ((hText h).drop 1) [46] = (a, b, true) := by rw [ht]; exact cut_point a b fun c hc => dgt_ne c (da c hc)
  have ea : rdA (hText h) = hS h := by unfold rdA; rw [ec]; exact (atoiV_digits a da na.1 (by omega)).trans va
  have eb : rdB (hText h) = hG h := by unfold rdB; rw [ec]; exact (atoiV_digits b db nb.1 (by omega)).trans vb
  have em : hMk (hK h) (hS h) (hG h) = h := (HV_eq v).symm
  unfold genR
  rw [ek, ea, eb, em, if_pos ⟨v, rfl⟩]

theorem genR_only {k a b : Int} {l : List UInt8} : (∃ h, HV h ∧ hText h = l ∧ genR k a b l = (h, 0)) ∨ genR k a b l = (0, 4) := by
  unfold genR
  split
  · rename_i c
    exact .inl ⟨_, (HV_make c.1).1, c.2, rfl⟩
  · exact .inr rfl

theorem numR_digits (pre d rest : List UInt8) (hd : ∀ c ∈ d, dgt c = true) (hn : noNought d) (hl : d.length ≤ 6) (hr : ∀ c r, rest = c :: r → dgt c = false) :
    numR (pre ++ d ++ rest) pre.length = (decV d, (pre.length : Int) + d.length, true) := by
  have hdl : 0 < d.length := List.length_pos_iff.2 hn.1
  have e1 : ((pre ++ d ++ rest).drop pre.length).take d.length = d := by rw [List.append_assoc, List.drop_left, List.take_left]
  have e2 : (pre ++ d ++ rest).getD pre.length 0 = d.headD 0 := by
    obtain ⟨c, r, rfl⟩ : ∃ c r, d = c :: r := by cases d with | nil => exact absurd rfl hn.1 | cons c r => exact ⟨c, r, rfl⟩
    simp [List.getD]
  have h := numR_eq (l := pre ++ d ++ rest) (p := pre.length) (k := d.length) hl (by simp) (by rw [e1]; exact hd) (by
    cases rest with
    | nil => exact .inr (.inl (by simp))
    | cons c r => exact .inr (.inr ⟨by simp, by
        have : (pre ++ d ++ c :: r)[pre.length + d.length]'(by simp) = c := by
          rw [List.getElem_append_right (by simp)]; simp
        rw [this]; exact hr c r rfl⟩))
  rw [h, e1, e2]
  congr 2
  apply decide_eq_true
  exact ⟨hdl, hn.2⟩

theorem rGen_of_text {h : Int} (v : HV h) : rGen (hText h) = (h, 0) := by
  obtain ⟨a, b, ht, _, _, da, db, na, nb, la, lb, va, vb⟩ := text_form v
  have k3 : hK h = 1 ∨ hK h = 2 ∨ hK h = 3 := by have := v.1; have := v.2.1; omega
  have n1 : numR (hText h) 1 = (decV a, (1 : Int) + a.length, true) := by
    have := numR_digits [letter (hK h)] a (46 :: b) da na la (fun c r e => by cases e; decide)
    rw [ht]; exact this
  have e1 : ((1 : Int) + a.length).toNat = a.length + 1 := by omega
  have n2 : numR (hText h) (a.length + 1 + 1) = (decV b, ((hText h).length : Int), true) := by
    have := numR_digits (letter (hK h) :: (a ++ [46])) b [] db nb lb (fun c r e => by cases e)
    have e2 : letter (hK h) :: (a ++ [46]) ++ b ++ [] = hText h := by rw [ht]; simp
    have e3 : (letter (hK h) :: (a ++ [46])).length = a.length + 1 + 1 := by simp
    rw [e2, e3] at this
    rw [this, ht]
    congr 2
    simp; omega
  have e4 : (hText h).getD 0 0 = letter (hK h) := by rw [ht]; rfl
  have e5 : ((hText h).getD (a.length + 1) 0).toNat = 46 := by rw [ht]; simp [List.getD]
  have em : hMk (hK h) (hS h) (hG h) = h := (HV_eq v).symm
  unfold rGen
  rw [n1]
  dsimp only
  rw [e1, n2, e4, (letter_kf k3).1, va, vb, em, if_pos ⟨by omega, rfl, by rw [ht]; simp; omega, e5, rfl, rfl, v⟩]

/-- What number takes is digits without a needless nought. -/
theorem numR_ok {l : List UInt8} {p : Nat} (hp : p ≤ l.length) (h : (numR l p).2.2 = true) : ∃ d : List UInt8, (∀ c ∈ d, dgt c = true) ∧ noNought d ∧ numR l p = (decV d, (p : Int) + d.length, true) ∧ (l.drop p).take d.length = d ∧ p + d.length ≤ l.length := by
  refine ⟨numD l p, takeWhile_all dgt _, ?_, ?_, ?_, ?_⟩
  · have hd := of_decide_eq_true h
    have hne : numD l p ≠ [] := List.ne_nil_of_length_pos hd.1
    refine ⟨hne, ?_⟩
    rcases hd.2 with h1 | h1
    · left
      have : l.getD p 0 = (numD l p).headD 0 := by
        unfold numD at hne ⊢
        cases e : l.drop p with
        | nil => rw [e] at hne; simp at hne
        | cons c r =>
          have e1 : l.getD p 0 = c := by
            have : l[p]? = some c := by rw [← List.head?_drop, e]; rfl
            rw [List.getD, this]; rfl
          rw [e] at hne
          rw [e1, List.take_succ_cons, List.takeWhile_cons]
          rw [List.take_succ_cons, List.takeWhile_cons] at hne
          split
          · rfl
          · rename_i hx; rw [if_neg hx] at hne; exact absurd rfl hne
      rw [← this]; exact h1
    · exact .inr h1
  · unfold numR at h ⊢
    simp only at h
    rw [h]
  · unfold numD
    have h1 : List.takeWhile dgt (List.take 6 (l.drop p)) <+: l.drop p := (List.takeWhile_prefix _).trans (List.take_prefix _ _)
    exact (List.prefix_iff_eq_take.1 h1).symm
  · have h1 : (numD l p).length ≤ ((l.drop p).take 6).length := (List.takeWhile_sublist _).length_le
    simp at h1
    omega

theorem rGen_only {l : List UInt8} (hl : 0 < l.length) : (∃ h, HV h ∧ hText h = l ∧ rGen l = (h, 0)) ∨ rGen l = (0, 4) := by
  unfold rGen
  split
  · rename_i c
    obtain ⟨c1, c2, c3, c4, c5, c6, c7⟩ := c
    obtain ⟨a, da, na, ra, ta, la⟩ := numR_ok (by omega) c2
    rw [ra] at c3 c4 c5 c6 c7 ⊢
    simp only at c3 c4 c5 c6 c7 ⊢
    have e1 : ((1 : Nat) : Int) + (a.length : Int) = ((1 + a.length : Nat) : Int) := by omega
    rw [e1] at c3 c4 c5 c6 c7 ⊢
    rw [Int.toNat_natCast] at c4 c5 c6 c7 ⊢
    obtain ⟨b, db, nb, rb, tb, lb⟩ := numR_ok (by omega) c5
    rw [rb] at c6 c7 ⊢
    simp only at c6 c7 ⊢
    have o := HV_make c7
    refine .inl ⟨_, o.1, ?_, rfl⟩
    show hText (kf (l.getD 0 0).toNat 3 * 1099511627776 + decV a * 1048576 + decV b) = l
    unfold hText
    rw [if_neg (HV_ne o.1), if_pos o.1, o.2.1, o.2.2.1, o.2.2.2]
    have ia : Lib.itoa (decV a) = a := by rw [itoa_nat _ (decV_bound a da).1, decDigits_of a da na]
    have ib : Lib.itoa (decV b) = b := by rw [itoa_nat _ (decV_bound b db).1, decDigits_of b db nb]
    rw [ia, ib]
    have hlet : ∀ c : UInt8, kf c.toNat 3 ≠ 0 → letter (kf c.toNat 3) = c := by
      intro c hc
      unfold kf at hc ⊢
      by_cases x1 : (c.toNat : Int) = 110
      · rw [if_pos ⟨x1, by omega⟩]; apply UInt8.toNat_inj.1; simp [letter]; omega
      · by_cases x2 : (c.toNat : Int) = 116
        · rw [if_neg (fun h => x1 h.1), if_pos ⟨x2, by omega⟩]; apply UInt8.toNat_inj.1; simp [letter]; omega
        · by_cases x3 : (c.toNat : Int) = 115
          · rw [if_neg (fun h => x1 h.1), if_neg (fun h => x2 h.1), if_pos ⟨x3, by omega⟩]; apply UInt8.toNat_inj.1; simp [letter]; omega
          · rw [if_neg (fun h => x1 h.1), if_neg (fun h => x2 h.1), if_neg (fun h => x3 h.1)] at hc; exact absurd rfl hc
    rw [hlet _ c1]
    obtain ⟨c, r, rfl⟩ : ∃ c r, l = c :: r := by cases l with | nil => simp at hl | cons c r => exact ⟨c, r, rfl⟩
    have ta' : r.take a.length = a := by simpa using ta
    have tb' : (r.drop (a.length + 1)).take b.length = b := by
      have : 1 + a.length + 1 = (a.length + 1) + 1 := by omega
      rw [this] at tb; simpa using tb
    have hlen : r.length = a.length + 1 + b.length := by simp at c6; omega
    have tb2 : r.drop (a.length + 1) = b := by rw [← tb', List.take_of_length_le (by simp; omega)]
    have hp : r[a.length]'(by omega) = 46 := by
      have h1 : (c :: r).getD (1 + a.length) 0 = r[a.length]'(by omega) := by
        rw [List.getD, show 1 + a.length = a.length + 1 by omega, List.getElem?_cons_succ, List.getElem?_eq_getElem (by omega)]; rfl
      rw [h1] at c4
      exact UInt8.toNat_inj.1 c4
    show c :: (a ++ 46 :: b) = c :: r
    rw [← tb2, ← hp, ← List.drop_eq_getElem_cons (by omega)]
    conv => lhs; rhs; lhs; rw [← ta']
    rw [List.take_append_drop]
  · exact .inr rfl

/-- Both readers read the same. -/
theorem read_same (l : List UInt8) : hRead l = rRead l := by
  unfold hRead rRead
  by_cases h1 : 32 < l.length
  · rw [if_pos h1, if_pos h1]
  · rw [if_neg h1, if_neg h1]
    by_cases h2 : l = [45]
    · rw [if_pos h2, if_pos h2]
    · rw [if_neg h2, if_neg h2]
      by_cases h3 : l = []
      · rw [if_pos h3, if_pos h3]
      · rw [if_neg h3, if_neg h3]
        show genR (rdK l) (rdA l) (rdB l) l = rGen l
        by_cases hx : ∃ h, HV h ∧ hText h = l
        · obtain ⟨h, v, rfl⟩ := hx
          rw [genR_of_text v, rGen_of_text v]
        · rcases genR_only (k := rdK l) (a := rdA l) (b := rdB l) (l := l) with ⟨h, v, e, _⟩ | e
          · exact absurd ⟨h, v, e⟩ hx
          · rcases rGen_only (List.length_pos_iff.2 h3) with ⟨h, v, e', _⟩ | e'
            · exact absurd ⟨h, v, e'⟩ hx
            · rw [e, e']
end Go.Proofs.YtohodbpjcbjifaaGreatDoor
