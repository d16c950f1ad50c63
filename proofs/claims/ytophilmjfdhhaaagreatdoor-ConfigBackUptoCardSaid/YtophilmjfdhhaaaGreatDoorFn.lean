/- Plain laws on numbers told in digits; Itoa and Atoi; number and numbers of layer 25, both sides. -/
import Derived.Test.YtophilmjfdhhaaaGreatDoorFa
import Derived.Test.YtophilmjfdhhaaaGreatDoorSg
import Derived.Test.YtophilmjfdhhaaaGreatDoorLq
import Derived.Lib.ItoaLen
import Derived.Lib.AtoiAllCases
import Derived.Deep.QuietTactic
namespace Go.Proofs.YtophilmjfdhhaaaGreatDoor
open Go Go.RowKit Go.Shelf Go.Sort
set_option linter.unusedVariables false
set_option linter.unusedSimpArgs false
set_option maxRecDepth 100000
set_option maxHeartbeats 1600000

def dgt (c : UInt8) : Bool := decide (48 ≤ c.toNat ∧ c.toNat ≤ 57)
def decV (d : List UInt8) : Int := d.foldl (fun n c => 10 * n + ((c.toNat : Int) - 48)) 0
theorem decV_snoc (d : List UInt8) (c : UInt8) : decV (d ++ [c]) = 10 * decV d + ((c.toNat : Int) - 48) := by simp [decV]
theorem decV_bound' (d : List UInt8) (n : Int) (m : Nat) (h : ∀ c ∈ d, dgt c = true) (h0 : 0 ≤ n) (h1 : n < 10 ^ m) :
    0 ≤ d.foldl (fun n c => 10 * n + ((c.toNat : Int) - 48)) n ∧ d.foldl (fun n c => 10 * n + ((c.toNat : Int) - 48)) n < 10 ^ (m + d.length) := by
  induction d generalizing n m with
  | nil => exact ⟨h0, h1⟩
  | cons c r ih =>
    have hc := h c (by simp)
    unfold dgt at hc
    have hc' := of_decide_eq_true hc
    have h2 := ih (10 * n + ((c.toNat : Int) - 48)) (m + 1) (fun x hx => h x (by simp [hx])) (by omega) (by rw [Int.pow_succ]; omega)
    rw [List.foldl_cons, List.length_cons, show m + (r.length + 1) = m + 1 + r.length by omega]
    exact h2
theorem decV_bound (d : List UInt8) (h : ∀ c ∈ d, dgt c = true) : 0 ≤ decV d ∧ decV d < 10 ^ d.length := by
  have := decV_bound' d 0 0 h (by omega) (by decide)
  rwa [Nat.zero_add] at this

theorem byte_at (s : ByteArray) (i : Nat) (h : i < s.size) : s[i] = s.data.toList.getD i 0 := by
  obtain ⟨⟨l⟩⟩ := s
  have h' : i < l.length := h
  rw [List.getD, List.getElem?_eq_getElem h']
  rfl
theorem size_list (s : ByteArray) : s.data.toList.length = s.size := by rw [← Lib.size_eq]

theorem dig_piece (r : Nat) (h : r < 10) : (⟨#[48, 49, 50, 51, 52, 53, 54, 55, 56, 57]⟩ : ByteArray).extract r (r + 1) = ⟨#[UInt8.ofNat (48 + r)]⟩ := by
  have : ∀ i : Fin 10, (⟨#[48, 49, 50, 51, 52, 53, 54, 55, 56, 57]⟩ : ByteArray).extract i.val (i.val + 1) = ⟨#[UInt8.ofNat (48 + i.val)]⟩ := by decide
  exact this ⟨r, h⟩
theorem decDigits_len (n : Nat) (h : n < 9223372036854775808) : (Lib.decDigits n).length ≤ 20 := by rw [Lib.decDigits_length]; exact Lib.nDigits_le20 n (by omega)
theorem decDigits_step (n : Nat) (h : ¬ n < 10) : Lib.decDigits n = Lib.decDigits (n / 10) ++ [UInt8.ofNat (48 + n % 10)] := by
  rw [Lib.decDigits, dif_neg h]

theorem itoa_nat (n : Int) (h : 0 ≤ n) : Lib.itoa n = Lib.decDigits n.toNat := by unfold Lib.itoa; rw [if_neg (by omega)]

theorem decDigits_dgt (n : Nat) : ∀ c ∈ Lib.decDigits n, dgt c = true := by
  induction n using Nat.strongRecOn with
  | ind n ih =>
    intro c hc
    have key : ∀ r : Fin 10, dgt (UInt8.ofNat (48 + r.val)) = true := by decide
    by_cases h : n < 10
    · rw [Lib.decDigits_one h, List.mem_singleton] at hc
      subst hc
      exact key ⟨n, h⟩
    · rw [decDigits_step n h, List.mem_append, List.mem_singleton] at hc
      rcases hc with hc | rfl
      · exact ih (n / 10) (by omega) c hc
      · exact key ⟨n % 10, Nat.mod_lt _ (by decide)⟩
theorem ofNat_val (r : Nat) (h : r < 10) : ((UInt8.ofNat (48 + r)).toNat : Int) - 48 = r := by
  have key : ∀ r : Fin 10, ((UInt8.ofNat (48 + r.val)).toNat : Int) - 48 = (r.val : Int) := by decide
  exact key ⟨r, h⟩
theorem decV_decDigits (n : Nat) : decV (Lib.decDigits n) = n := by
  induction n using Nat.strongRecOn with
  | ind n ih =>
    by_cases h : n < 10
    · rw [Lib.decDigits_one h]
      simp only [decV, List.foldl_cons, List.foldl_nil]
      have := ofNat_val n h
      omega
    · rw [decDigits_step n h, decV_snoc, ih (n / 10) (by omega), ofNat_val _ (Nat.mod_lt _ (by decide))]
      omega
theorem decDigits_ne (n : Nat) : Lib.decDigits n ≠ [] := by
  intro h
  have h1 := Lib.decDigits_length n
  have h2 := Lib.nDigits_pos n
  rw [h] at h1
  simp at h1
  omega
def noNought (d : List UInt8) : Prop := d ≠ [] ∧ ((d.headD 0).toNat ≠ 48 ∨ d.length = 1)
theorem headD_append (a b : List UInt8) (h : a ≠ []) : (a ++ b).headD 0 = a.headD 0 := by cases a with | nil => exact absurd rfl h | cons c r => rfl
theorem decDigits_head (n : Nat) (h : 0 < n) : ((Lib.decDigits n).headD 0).toNat ≠ 48 := by
  induction n using Nat.strongRecOn with
  | ind n ih =>
    by_cases h1 : n < 10
    · rw [Lib.decDigits_one h1]
      have := ofNat_val n h1
      simp only [List.headD_cons]
      omega
    · rw [decDigits_step n h1, headD_append _ _ (decDigits_ne _)]
      exact ih (n / 10) (by omega) (by omega)
theorem decDigits_noNought (n : Nat) : noNought (Lib.decDigits n) := by
  refine ⟨decDigits_ne n, ?_⟩
  rcases Nat.eq_zero_or_pos n with rfl | h
  · right; rw [Lib.decDigits_one (by decide)]; rfl
  · exact .inl (decDigits_head n h)
theorem decDigits_of (d : List UInt8) : (∀ c ∈ d, dgt c = true) → noNought d → Lib.decDigits (decV d).toNat = d := by
  intro hd hn
  obtain ⟨k, hk⟩ : ∃ k, d.length = k := ⟨_, rfl⟩
  induction k generalizing d with
  | zero => exact absurd (List.eq_nil_of_length_eq_zero hk) hn.1
  | succ k ih =>
    obtain ⟨e, c, rfl⟩ : ∃ e c, d = e ++ [c] := ⟨d.dropLast, d.getLast hn.1, (List.dropLast_concat_getLast hn.1).symm⟩
    have hc := hd c (by simp)
    have hc' : 48 ≤ c.toNat ∧ c.toNat ≤ 57 := by unfold dgt at hc; exact of_decide_eq_true hc
    have hcb : UInt8.ofNat (48 + (c.toNat - 48)) = c := by rw [show 48 + (c.toNat - 48) = c.toNat by omega]; simp
    rw [decV_snoc]
    by_cases he : e = []
    · subst he
      have e1 : (10 * decV [] + ((c.toNat : Int) - 48)).toNat = c.toNat - 48 := by simp only [decV, List.foldl_nil]; omega
      rw [e1, Lib.decDigits_one (by omega), hcb]
      rfl
    · have hde : ∀ x ∈ e, dgt x = true := fun x hx => hd x (by simp [hx])
      have hne : noNought e := by
        refine ⟨he, ?_⟩
        rcases hn.2 with h | h
        · rw [headD_append _ _ he] at h; exact .inl h
        · simp at h; exact absurd h he
      have b := decV_bound e hde
      have ih' := ih e hde hne (by simp at hk; exact hk)
      have pos : 0 < decV e := by
        rcases Int.lt_or_eq_of_le b.1 with h | h
        · exact h
        · exfalso
          rw [← h] at ih'
          rw [show ((0 : Int)).toNat = 0 from rfl, Lib.decDigits_one (by decide)] at ih'
          rw [← ih'] at hn
          rcases hn.2 with h | h
          · exact h rfl
          · simp at h
      have e1 : (10 * decV e + ((c.toNat : Int) - 48)).toNat = 10 * (decV e).toNat + (c.toNat - 48) := by omega
      rw [e1, decDigits_step _ (by omega), show (10 * (decV e).toNat + (c.toNat - 48)) / 10 = (decV e).toNat by omega, show (10 * (decV e).toNat + (c.toNat - 48)) % 10 = c.toNat - 48 by omega, ih', hcb]

theorem itoa_c (n : Int) (h0 : -9223372036854775808 ≤ n) (h1 : n ≤ 9223372036854775807) (W : World) (E : Env W) :
    Calls Tryz.prog 36 #[.int .i64 n] W fun e w' => e = .returned (.string ⟨(Lib.itoa n).toArray⟩) ∧ Below W.heap.size W w' := by
  refine (Tryz.strconv_Itoa n h0 h1 W E.tab).mono ?_
  rintro e w' ⟨he, k, os, rfl⟩
  exact ⟨he, Lib.below_grow _ _ (Nat.le_refl _) k os⟩


/-- The number that digits spell, behind what was read. -/
def dN (a : Nat) (l : List UInt8) : Nat := l.foldl (fun n c => n * 10 + (c.toNat - 48)) a
theorem dN_ge : ∀ (l : List UInt8) (a : Nat), a ≤ dN a l
  | [], a => Nat.le_refl _
  | c :: r, a => by
    have := dN_ge r (a * 10 + (c.toNat - 48))
    show a ≤ dN (a * 10 + (c.toNat - 48)) r
    omega
theorem parse_dN : ∀ (l : List UInt8) (a : Nat), (∀ c ∈ l, dgt c = true) → dN a l < 18446744073709551616 → Lib.parseUint10 a l = .ok (dN a l)
  | [], a, _, _ => rfl
  | c :: r, a, h, hb => by
    have hc : 48 ≤ c.toNat ∧ c.toNat ≤ 57 := by have := h c (by simp); unfold dgt at this; exact of_decide_eq_true this
    have e : dN a (c :: r) = dN (a * 10 + (c.toNat - 48)) r := rfl
    have hg := dN_ge r (a * 10 + (c.toNat - 48))
    rw [e] at hb ⊢
    rw [Lib.parseUint10, if_pos hc, if_neg (by omega), if_neg (by omega)]
    exact parse_dN r _ (fun x hx => h x (by simp [hx])) hb
theorem decV_dN' : ∀ (l : List UInt8) (a : Nat), (∀ c ∈ l, dgt c = true) → l.foldl (fun n c => 10 * n + ((c.toNat : Int) - 48)) (a : Int) = (dN a l : Nat)
  | [], a, _ => rfl
  | c :: r, a, h => by
    have hc : 48 ≤ c.toNat ∧ c.toNat ≤ 57 := by have := h c (by simp); unfold dgt at this; exact of_decide_eq_true this
    show r.foldl (fun n c => 10 * n + ((c.toNat : Int) - 48)) (10 * (a : Int) + ((c.toNat : Int) - 48)) = (dN (a * 10 + (c.toNat - 48)) r : Nat)
    rw [← decV_dN' r _ (fun x hx => h x (by simp [hx]))]
    congr 1
    omega
theorem decV_dN (l : List UInt8) (h : ∀ c ∈ l, dgt c = true) : decV l = (dN 0 l : Nat) := decV_dN' l 0 h
theorem atoi_digits {l : List UInt8} (h : ∀ c ∈ l, dgt c = true) (hn : l ≠ []) (hb : decV l ≤ 9223372036854775807) : Lib.atoiAll l = .ok (decV l) := by
  rw [decV_dN l h] at hb ⊢
  cases l with
  | nil => exact absurd rfl hn
  | cons c r =>
    have hc : 48 ≤ c.toNat ∧ c.toNat ≤ 57 := by have := h c (by simp); unfold dgt at this; exact of_decide_eq_true this
    rw [Lib.atoiAll_plain c r (by omega) (by omega)]
    unfold Lib.parseMag
    rw [if_neg (by simp), parse_dN (c :: r) 0 h (by omega)]
    show (if 9223372036854775808 ≤ dN 0 (c :: r) then Lib.NumEnd.range else Lib.NumEnd.ok ((dN 0 (c :: r) : Nat) : Int)) = _
    rw [if_neg (by omega)]
/-- A number without needless noughts, as the program reads it; as the reference does. -/
def numP (l : List UInt8) : Option Int := match Lib.atoiAll l with | .ok v => if 0 ≤ v ∧ Lib.itoa v = l then some v else none | _ => none
def numR (l : List UInt8) : Option Int := if l = [] ∨ (1 < l.length ∧ (l.getD 0 0).toNat = 48) ∨ l.all dgt = false ∨ 9223372036854775807 < decV l then none else some (decV l)
theorem numR_bounds {l : List UInt8} {v : Int} (h : numR l = some v) : 0 ≤ v ∧ v ≤ 9223372036854775807 := by
  unfold numR at h
  split at h
  · cases h
  · rename_i hc
    injection h with h
    subst h
    have ha : l.all dgt = true := by cases e : l.all dgt with | true => rfl | false => exact absurd (.inr (.inr (.inl e))) hc
    have := (decV_bound l (List.all_eq_true.1 ha)).1
    have h2 : ¬ 9223372036854775807 < decV l := fun h => hc (.inr (.inr (.inr h)))
    omega
theorem noNought_head {d : List UInt8} (h : noNought d) : ¬ (1 < d.length ∧ (d.getD 0 0).toNat = 48) := by
  rintro ⟨h1, h2⟩
  have e : d.getD 0 0 = d.headD 0 := by cases d <;> rfl
  rcases h.2 with h | h
  · rw [e] at h2; exact h h2
  · omega
theorem num_same (l : List UInt8) : numP l = numR l := by
  cases hr : numR l with
  | some v =>
    have hb := numR_bounds hr
    unfold numR at hr
    split at hr
    · cases hr
    · rename_i hc
      injection hr with hr
      have hn : l ≠ [] := fun e => hc (.inl e)
      have ha : l.all dgt = true := by cases e : l.all dgt with | true => rfl | false => exact absurd (.inr (.inr (.inl e))) hc
      have hd := List.all_eq_true.1 ha
      have hno : noNought l := by
        refine ⟨hn, ?_⟩
        have e : l.getD 0 0 = l.headD 0 := by cases l <;> rfl
        by_cases h1 : 1 < l.length
        · refine .inl fun h => hc (.inr (.inl ⟨h1, by rw [e]; exact h⟩))
        · have := List.length_pos_iff.2 hn
          exact .inr (by omega)
      unfold numP
      rw [atoi_digits hd hn (by omega)]
      show (if 0 ≤ decV l ∧ Lib.itoa (decV l) = l then some (decV l) else none) = some v
      rw [if_pos ⟨by omega, by rw [itoa_nat _ (by omega)]; exact decDigits_of l hd hno⟩, hr]
  | none =>
    unfold numP
    split
    · rename_i v ha
      refine if_neg ?_
      rintro ⟨h0, hi⟩
      rw [itoa_nat _ h0] at hi
      have hvb := (Lib.atoiAll_bounds ha).2
      have hdv : decV l = v := by rw [← hi, decV_decDigits]; omega
      unfold numR at hr
      rw [if_neg] at hr
      · cases hr
      · rintro (h | h | h | h)
        · rw [h] at hi; exact decDigits_ne _ hi
        · refine noNought_head (d := l) ?_ h
          rw [← hi]; exact decDigits_noNought _
        · have : l.all dgt = true := by rw [← hi]; exact List.all_eq_true.2 (decDigits_dgt _)
          rw [this] at h; cases h
        · omega
    · rfl
theorem numP_some {l : List UInt8} {v : Int} (h : numP l = some v) : Lib.atoiAll l = .ok v ∧ 0 ≤ v ∧ Lib.itoa v = l := by
  unfold numP at h
  split at h
  · rename_i u hu
    split at h
    · rename_i hc; injection h with h; subst h; exact ⟨hu, hc⟩
    · cases h
  · cases h
theorem number_c (s : ByteArray) (W : World) (E : Env W) (hs : s.size ≤ 281474976710656) :
    Calls Tryz.prog 83 #[.string s] W fun e w' => (∃ v : Int, e = .returned (.tuple #[.int .i64 v, .bool (numP s.data.toList).isSome]) ∧ ∀ x, numP s.data.toList = some x → v = x) ∧ Below W.heap.size W w' := by
  obtain ⟨R, hR⟩ : ∃ R, R = numP s.data.toList := ⟨_, rfl⟩
  rw [← hR]
  rcases h : Lib.atoiAll s.data.toList with v | _ | _
  · have hb := Lib.atoiAll_bounds h
    have AT : Hid (Calls Tryz.prog 105 #[.string s] W fun e w' => e = .returned (.tuple #[.int .i64 v, .nilIface]) ∧ Below W.heap.size W w') := Lib.hid ((Tryz.strconv_Atoi_ok s (by omega) v h W).mono (by
      rintro e w' ⟨he, hw⟩
      refine ⟨he, ?_⟩
      rcases hw with rfl | ⟨t, rfl⟩
      · exact Below.refl _ _
      · exact Joins.below_bytesWorld _ _ _ _ (Nat.le_refl _)))
    by_cases h0 : 0 ≤ v
    · have IT : Hid (∀ W', Env W' → Calls Tryz.prog 36 #[.int .i64 v] W' fun e w'' => e = .returned (str (Lib.itoa v)) ∧ Below W'.heap.size W' w'') :=
        Lib.hid fun W' E' => itoa_c v (by omega) (by omega) W' E'
      have EE := Lib.hid E
      obtain ⟨T, hT⟩ : ∃ T, T = (⟨(Lib.itoa v).toArray⟩ : ByteArray) := ⟨_, rfl⟩
      have IT2 : Hid (∀ W', Env W' → Calls Tryz.prog 36 #[.int .i64 v] W' fun e w'' => e = .returned (.string T) ∧ Below W'.heap.size W' w'') := Lib.hid (by rw [hT]; exact IT.out)
      clear IT
      have hc : (R = some v ∧ (T.toList == s.toList) = true) ∨ (R = none ∧ (T.toList == s.toList) = false) := by
        by_cases hi : Lib.itoa v = s.data.toList
        · refine .inl ⟨?_, ?_⟩
          · rw [hR]; unfold numP; rw [h]; exact if_pos ⟨h0, hi⟩
          · rw [hT, Lib.toList_data, Lib.toList_data, hi]; exact beq_self_eq_true _
        · refine .inr ⟨?_, ?_⟩
          · rw [hR]; unfold numP; rw [h]; exact if_neg (fun x => hi x.2)
          · rw [hT, Lib.toList_data, Lib.toList_data, beq_eq_false_iff_ne]
            exact hi
      clear hT hR h
      rcases hc with ⟨rfl, hq⟩ | ⟨rfl, hq⟩
      all_goals
        go_enter Tryz.func83, Tryz.ntmps83
        go_wp2_with (first | (go_at_call 105; refine AT.out.mono ?_; rintro e w1 ⟨rfl, hb1⟩; have EB := Lib.hid (EE.out.below hb1)) | (go_at_call 36; refine (IT2.out _ EB.out).mono ?_; rintro e w2 ⟨rfl, hb2⟩))
        go_ret2
        first
          | exact ⟨⟨v, rfl, fun x hx => by first | (injection hx) | cases hx⟩, hb1.trans (hb2.mono hb1.size)⟩
          | exact ⟨⟨v, rfl⟩, hb1.trans (hb2.mono hb1.size)⟩
    · have hn : R = none := by
        rw [hR]; unfold numP; rw [h]; exact if_neg (fun x => h0 x.1)
      subst hn
      clear hR h hb
      go_enter Tryz.func83, Tryz.ntmps83
      go_wp2_with (go_at_call 105; refine AT.out.mono ?_; rintro e w1 ⟨rfl, hb1⟩)
      go_ret2
      first | exact ⟨⟨v, rfl⟩, hb1⟩ | exact ⟨⟨v, rfl, fun x hx => by cases hx⟩, hb1⟩
  all_goals
    have hn : R = none := by rw [hR]; unfold numP; rw [h]
    subst hn
    have AT : Hid (Calls Tryz.prog 105 #[.string s] W fun e w' => (∃ (v : Int) (t : TypeId) (x : Value), e = .returned (.tuple #[.int .i64 v, .iface t x])) ∧ Below W.heap.size W w') := Lib.hid (by
      first
        | (obtain ⟨ev, hv, hev⟩ := E.syn
           refine (Tryz.strconv_Atoi_syntax s hs h ev W hv hev).mono ?_
           rintro e w' ⟨N, he, _, _, hb⟩
           exact ⟨⟨_, _, _, he⟩, hb⟩)
        | (obtain ⟨ev, hv, hev⟩ := E.rng
           refine (Tryz.strconv_Atoi_range s hs h ev W hv hev).mono ?_
           rintro e w' ⟨N, he, _, _, hb⟩
           exact ⟨⟨_, _, _, he⟩, hb⟩))
    clear hR h
    go_enter Tryz.func83, Tryz.ntmps83
    go_wp2_with (go_at_call 105; refine AT.out.mono ?_; rintro e w1 ⟨⟨v, t, x, rfl⟩, hb1⟩)
    go_ret2
    first | exact ⟨⟨v, rfl⟩, hb1⟩ | exact ⟨⟨v, rfl, fun x hx => by cases hx⟩, hb1⟩
end Go.Proofs.YtophilmjfdhhaaaGreatDoor
