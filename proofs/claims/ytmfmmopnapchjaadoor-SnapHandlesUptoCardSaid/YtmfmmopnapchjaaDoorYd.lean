/- snap.writer: line; account, flag. -/
import Derived.Test.YtmfmmopnapchjaaDoorYc
import Derived.Test.YtmfmmopnapchjaaDoorHc
import Derived.Test.YtmfmmopnapchjaaDoorVj
import Derived.Outline
namespace Go.Proofs.YtmfmmopnapchjaaDoor
open Go Go.RowKit Go.Shelf Go.Sort
set_option linter.unusedVariables false
set_option linter.unusedSimpArgs false
set_option maxRecDepth 100000
set_option maxHeartbeats 1600000

/-- A region that draws its order, with such a tail; the calls of its head make memory. -/
theorem region_grown_tail {P : Program} {id : Nat} {Q : Exit → Act → World → Prop} {a : Act} {w : World} {l : List Oper} (n : Nat) (hm : P.follows .mixedOrders = true) (hB : Region.lexTailB .any l.toArray n = true)
    (h : wpQuiet P l.toArray (fun w' => ∃ p : Regrown, w' = grow (redrawn w p.d) p.os) (fun a' => ∀ w', (∃ p : Regrown, w' = grow (redrawn w p.d) p.os) → wpList P l.toArray Q (l.drop n) a' w') (l.take n) a) : (Code.region id l.toArray true).wp P Q a w :=
  region_quiet_tail (C := fun w' => ∃ p : Regrown, w' = grow (redrawn w p.d) p.os) n hm hB ⟨⟨w.drawn + 1, #[]⟩, by rw [grow_empty]; rfl⟩ h
/-- Numbers, a blank ahead of each. -/
def numsT (ns : List Int) : List UInt8 := ns.flatMap fun n => 32 :: Lib.itoa n
theorem numsT_snoc (ns : List Int) (n : Int) : numsT (ns ++ [n]) = numsT ns ++ 32 :: Lib.itoa n := by simp [numsT]
/-- A line. -/
def lineT (word : List UInt8) (ns : List Int) : List UInt8 := word ++ numsT ns ++ [10]
def I64 (n : Int) : Prop := -9223372036854775808 ≤ n ∧ n ≤ 9223372036854775807
theorem numsT_len (ns : List Int) (h : ∀ n ∈ ns, I64 n) : (numsT ns).length ≤ 22 * ns.length := by
  induction ns with
  | nil => simp [numsT]
  | cons n ns ih =>
    have h1 := ih (fun m hm => h m (by simp [hm]))
    have h2 := Lib.itoa_length_le n (h n (by simp)).1 (h n (by simp)).2
    simp only [numsT, List.flatMap_cons, List.length_append, List.length_cons] at h1 ⊢
    omega
theorem Kp.of_below {w w' : World} (h : Below w.heap.size w w') : Kp w w' := fun k cs T fr hk _ _ => kb_below hk h
theorem own_kp {w w' : World} {B : Nat} {e : TypeId} {s : Nat} {v : Value} {n : Nat} {l : List Value} (h : w.ownsRow B e s v n l) (c : Kp w w') (h1 : e ≠ 74) (h2 : e ≠ 5) : w'.ownsRow B e s v n l := by
  obtain ⟨e1, e2⟩ := h
  refine ⟨e1, ?_⟩
  rcases e2 with h | ⟨k, cap, cur, rfl, hb, hh, r⟩
  · exact .inl h
  · exact .inr ⟨k, cap, cur, rfl, hb, c k cur e _ hh h1 h2, r⟩
theorem own_cell {w : World} {B : Nat} {e : TypeId} {v : Value} {n : Nat} {l : List Value} (h : w.ownsRow B e 1 v n l) : ∃ p c, v = .slice p n c ∧ ∀ j x, l[j]? = some x → ∃ b, p = some ⟨b, 0, none⟩ ∧ w.cell? ⟨b, j, none⟩ = some x := by
  rcases h.2 with ⟨rfl, rfl⟩ | ⟨g, cap, cur, rfl, hg, hh, hn, hc, hs, ht⟩
  · refine ⟨_, _, rfl, fun j x hx => ?_⟩
    have : l = [] := List.eq_nil_of_length_eq_zero (by have := h.1; omega)
    subst this; simp at hx
  · refine ⟨_, _, rfl, fun j x hx => ⟨g, rfl, ?_⟩⟩
    have hl := h.1
    have hjl : j < l.length := (List.getElem?_eq_some_iff.1 hx).1
    have e1 : cur.toList[j]? = l[j]? := by rw [← ht, List.getElem?_take, if_pos (by omega)]
    simp only [World.cell?, hh]
    rw [hx] at e1
    simpa using e1
theorem take_succ'' {α : Type} (l : List α) (j : Nat) (h : j < l.length) : l.take (j + 1) = l.take j ++ [l[j]] := by
  rw [List.take_add_one, List.getElem?_eq_getElem h]; rfl
theorem blank_cons (l : List UInt8) : (⟨#[32]⟩ : ByteArray) ++ ⟨l.toArray⟩ = ⟨(32 :: l).toArray⟩ := by
  apply ByteArray.ext; simp [ByteArray.data_append]
theorem line_c (B b : Nat) (l word : List UInt8) (v : Value) (B' : Nat) (ns : List Int) (w : World) (h : Bd B b l w) (ho : w.ownsRow B' 3 1 v ns.length (ns.map (Value.int .i64))) (hr : ∀ n ∈ ns, I64 n) (hn : ns.length ≤ 100000) (hlen : l.length + word.length ≤ 100000000) (hB : B ≤ w.heap.size) (E : Env w) (hBE : ∀ w', Below B w w' → Env w') :
    Calls Tryd.prog 22 #[.pointer (some ⟨b, 0, none⟩), str word, v] w fun e w' => e = .returned (.tuple #[]) ∧ Bd B b (l ++ lineT word ns) w' ∧ Below B w w' ∧ Kp w w' := by
  have W1 := Lib.hid (bwrite_c B b l word w h (by omega) hB)
  have OW := Lib.hid ho
  have HE := Lib.hid hBE
  obtain ⟨p, c, rfl, _⟩ := own_cell ho
  have hnl := numsT_len ns hr
  have HR := Lib.hid hr
  clear h ho hr hBE
  go_enter Tryd.func22, Tryd.ntmps22
  go_wp2_with fail
  refine W1.out.mono ?_
  rintro e w1 ⟨rfl, h1, b1, k1⟩
  have H1 := Lib.hid h1
  have B1 := Lib.hid b1
  have K1 := Lib.hid k1
  clear h1 b1 k1
  go_wp2_with fail
  go_loopw [15] (fun i wr => ∃ j : Nat, j ≤ ns.length ∧ i = .int .i64 j ∧ Bd B b (l ++ word ++ numsT (ns.take j)) wr ∧ Below B w wr ∧ Kp w wr) (fun i _ => ns.length - (intOf i).toNat)
  case atStart => exact ⟨0, Nat.zero_le _, rfl, by simpa [numsT] using H1.out, B1.out, K1.out⟩
  case round =>
    obtain ⟨j, hj, rfl, hb, hbe, hkp⟩ := hrel
    have hsz : B ≤ wr.heap.size := Nat.le_trans hB hbe.size
    by_cases hlt : j < ns.length
    · obtain ⟨x, hx⟩ : ∃ x, x = ns[j] := ⟨_, rfl⟩
      have hxr := HR.out x (by rw [hx]; exact List.getElem_mem hlt)
      obtain ⟨p', c', hv, hcell⟩ := own_cell (own_kp OW.out hkp (by decide) (by decide))
      injection hv with hv1 _ hv3
      subst hv1 hv3
      obtain ⟨g, rfl, hg⟩ := hcell j (.int .i64 x) (by simp [hx, hlt])
      have ET : Hid (numsT (ns.take (j + 1)) = numsT (ns.take j) ++ 32 :: Lib.itoa x) := Lib.hid (by rw [take_succ'' ns j hlt, ← hx, numsT_snoc])
      have hl2 : (numsT (ns.take j)).length ≤ 22 * ns.length := by
        have := numsT_len (ns.take j) (fun m hm => HR.out m (List.mem_of_mem_take hm))
        have h2 := List.length_take_le j ns
        omega
      have hxl := Lib.itoa_length_le x hxr.1 hxr.2
      have n1 : ¬ 9223372036854775807 < 1 + (Lib.itoa x).length := by omega
      have E1 := HE.out wr hbe
      have D := Lib.hid (fun d os => Calls.regrown_of (itoa_c x hxr.1 hxr.2 _ (E1.below (below_regrown wr d os))))
      have BW := Lib.hid (fun w' (hq : Below wr.heap.size wr w') => bwrite_c B b (l ++ word ++ numsT (ns.take j)) (32 :: Lib.itoa x) w' (Bd.below hb hq) (by simp only [List.length_append, List.length_cons]; omega) (Nat.le_trans hsz hq.size))
      have HBE := Lib.hid hbe
      have HKP := Lib.hid hkp
      have HSZ := Lib.hid hsz
      clear hb hbe hkp hcell E1 hxr hx
      go_wp2_with fail
      refine region_grown_tail 6 (by kernel_rfl) (by kernel_rfl) ?_
      repeat (quiet_step (with_reducible exact D.out _ _))
      refine wpQuiet_nil ?_
      intro _ hw'
      obtain ⟨⟨dq, osq⟩, rfl⟩ := hw'
      have B2 := Lib.hid (below_regrown wr dq osq)
      generalize grow (redrawn wr dq) osq = w2 at *
      simp only [List.drop_succ_cons, List.drop_zero]
      go_wp2_with fail
      rw [blank_cons]
      refine (BW.out w2 B2.out).mono ?_
      rintro e w3 ⟨rfl, h3, b3, k3⟩
      have H3 := Lib.hid h3
      have B3 := Lib.hid (HBE.out.trans ((B2.out.mono HSZ.out).trans b3))
      have K3 := Lib.hid (HKP.out.trans ((Kp.of_below B2.out).trans k3))
      clear h3 b3 k3
      go_wp2_with fail
      go_roundw
      case rel => exact ⟨j + 1, by omega, by go_num, by rw [ET.out, ← List.append_assoc]; exact H3.out, B3.out, K3.out⟩
      case measure => simp [intOf]; omega
    · obtain rfl : j = ns.length := by omega
      rw [List.take_length] at hb
      have BW := Lib.hid (bwrite_c B b (l ++ word ++ numsT ns) [10] wr hb (by simp only [List.length_append, List.length_cons, List.length_nil]; omega) hsz)
      have HBE := Lib.hid hbe
      have HKP := Lib.hid hkp
      clear hb hbe hkp
      go_wp2_with fail
      refine BW.out.mono ?_
      rintro e w3 ⟨rfl, h3, b3, k3⟩
      have H3 := Lib.hid h3
      have B3 := Lib.hid (HBE.out.trans b3)
      have K3 := Lib.hid (HKP.out.trans k3)
      clear h3 b3 k3
      go_wp2_with fail
      go_end0
      exact ⟨rfl, by rw [lineT, ← List.append_assoc, ← List.append_assoc]; exact H3.out, B3.out, K3.out⟩
end Go.Proofs.YtmfmmopnapchjaaDoor
