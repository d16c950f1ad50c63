/- Package trace: Add of marks of no node and no task. -/
import Derived.Test.YtohodbpjcbjifaaGreatDoorTb
namespace Go.Proofs.YtohodbpjcbjifaaGreatDoor
open Go Go.RowKit Go.ChangeShapes Go.WideShapes
set_option linter.unusedVariables false
set_option maxRecDepth 100000
set_option maxHeartbeats 800000

/-- One mark laid in. -/
def addOne (keep : Nat) (s : Int × List Mk) (m : Mk) : Int × List Mk := if s.2.length = keep then (s.1 + 1, s.2.drop 1 ++ [m]) else (s.1, s.2 ++ [m])
def addAll (keep : Nat) (s : Int × List Mk) (l : List Mk) : Int × List Mk := l.foldl (addOne keep) s
theorem addAll_snoc (keep : Nat) (s : Int × List Mk) (l : List Mk) (m : Mk) : addAll keep s (l ++ [m]) = addOne keep (addAll keep s l) m := by simp [addAll]
/-- Marks in the order of their ticks, from a tick on, all of them such as may be. -/
def okRow (last : Int) (l : List Mk) : Prop := (∀ m ∈ l, Ok0 m) ∧ ∀ i, i < l.length → (if i = 0 then last else (l.getD (i - 1) default).t) ≤ (l.getD i default).t
def lastOf (last : Int) (l : List Mk) (i : Nat) : Int := if i = 0 then last else (l.getD (i - 1) default).t

theorem TS.pushed {w w' : World} {t q : Nat} {gs1 gs2 : List Nat} {keep : Nat} {go last : Int} {cur : List Mk} {m : Mk} (h : TS w t q gs1 keep go last cur) (qs : QS w' q gs2 keep (cur ++ [m])) (hg : ∀ k ∈ gs2, k ∈ gs1 ∨ w.heap.size ≤ k) (ch : Ch (fun k => k = q ∨ k ∈ gs1) w w') (hl : cur.length < keep) : TS w' t q gs2 keep go last (cur ++ [m]) :=
  ⟨h.t3.of_block ch.size (ch.block t h.t3.lt (fun e => e.elim h.tq h.tg)), qs, h.tq, fun e => (hg t e).elim h.tg (fun e => by have := h.t3.lt; omega), by simp; omega, h.k1, h.k2⟩

theorem add_t (W : World) (t q : Nat) (gs : List Nat) (keep : Nat) (gone last : Int) (l ms : List Mk) (v : Value) (h : TS W t q gs keep gone last l) (hv : RM W v ms) (hn : ms.length ≤ 1048576) (hne : ∀ k, v.ownBlock = some k → ¬ tb t q gs k) (hok : okRow last ms) (hg : 0 ≤ gone ∧ gone ≤ 1000000000) :
    Calls Tryz.prog 26 #[.pointer (some ⟨t, 0, none⟩), v] W fun e w' => e = .returned .nilIface ∧ ∃ gs', TS w' t q gs' keep (addAll keep (gone, l) ms).1 (lastOf last ms ms.length) (addAll keep (gone, l) ms).2 ∧ (∀ k ∈ gs', k ∈ gs ∨ W.heap.size ≤ k) ∧ Ch (tb t q gs) W w' := by
  obtain ⟨p, c, rfl, hrow⟩ := hv.out
  have H := Lib.hid h
  have HV := Lib.hid hv
  have OK := Lib.hid hok
  obtain ⟨lt, c0, c1, c2, fr⟩ := h.t3
  clear h hv hok
  go_enter Tryz.func26, Tryz.ntmps26
  go_wp2_with fail
  go_loopw [5, 26] (fun a i wr => ∃ k : Nat, k ≤ ms.length ∧ i = .int .i64 k ∧ a = .int .i64 (lastOf last ms k) ∧ Below W.heap.size W wr) (fun _ i _ => ms.length - (intOf i).toNat)
  case atStart => exact ⟨0, Nat.zero_le _, by go_num, rfl, Below.refl _ _⟩
  case round =>
    obtain ⟨k, hk, rfl, rfl, hbe⟩ := hrel
    by_cases hlt : k < ms.length
    · obtain ⟨b, o, rfl, hcap, hb, hrows⟩ := hrow (by omega)
      have hx := (hrows k hlt).of_block (hbe.block b hb)
      have hm : Ok0 (ms.getD k default) := OK.out.1 _ (by rw [List.getD, List.getElem?_eq_getElem hlt]; simp)
      have ht : lastOf last ms k ≤ (ms.getD k default).t := OK.out.2 k hlt
      have hl' : lastOf last ms (k + 1) = (ms.getD k default).t := by simp [lastOf]
      have HL := Lib.hid hl'
      clear hl'
      generalize lastOf last ms k = la at *
      generalize ms.getD k default = m at *
      have VT := Lib.hid (fun w => valid0 m w hm)
      have hkn : (k : Int) < (ms.length : Int) := by omega
      clear hm
      obtain ⟨x0, x1, x2, x3, x4⟩ := hx
      go_wp2_with fail
      refine (VT.out _).mono ?_
      rintro e w3 ⟨rfl, hb3⟩
      have bx : At5 w3 wr.heap.size 0 m := (At5_box wr m).of_block (hb3.block _ (by simp))
      have be3 : Below W.heap.size W w3 := (hbe.alloc hbe.size _).trans (hb3.mono (by have := hbe.size; simp; omega))
      have htn : ¬ m.t < la := by omega
      clear x0 x1 x2 x3 x4 hb3
      obtain ⟨y0, y1, y2, y3, y4⟩ := bx
      go_wp2_with fail
      go_roundw
      case rel => exact ⟨k + 1, by omega, by go_num, by rw [HL.out], be3⟩
      case measure => simp [intOf]; omega
    · obtain rfl : k = ms.length := by omega
      have ts0 : TS wr t q gs keep gone last l := H.out.below hbe
      have HB := Lib.hid hbe
      generalize hLa : lastOf last ms ms.length = la at *
      have HLa := Lib.hid hLa
      clear hLa lt c0 c1 c2 fr
      go_wp2_with fail
      go_loopw [45] (fun i wx => ∃ k : Nat, k ≤ ms.length ∧ i = .int .i64 k ∧ ∃ gs1, TS wx t q gs1 keep (addAll keep (gone, l) (ms.take k)).1 last (addAll keep (gone, l) (ms.take k)).2 ∧ Hid (∀ x ∈ gs1, x ∈ gs ∨ W.heap.size ≤ x) ∧ Ch (tb t q gs) W wx ∧ (0 ≤ (addAll keep (gone, l) (ms.take k)).1 ∧ (addAll keep (gone, l) (ms.take k)).1 ≤ gone + k)) (fun i _ => ms.length - (intOf i).toNat)
      case atStart => exact ⟨0, Nat.zero_le _, by go_num, gs, ts0, fun x hx => .inl hx, Ch.of_below HB.out _, by simp [addAll]; omega⟩
      case round =>
        obtain ⟨k, hk, rfl, gs1, ts, hgs, hch, hgo⟩ := hrel
        by_cases hlt : k < ms.length
        · obtain ⟨b, o, rfl, hcap, hb, hrows⟩ := hrow (by omega)
          have hbk : wr.heap[b]? = W.heap[b]? := hch.block b hb (hne b rfl)
          have hx := (hrows k hlt).of_block hbk
          have SN := Lib.hid (show addAll keep (gone, l) (ms.take (k + 1)) = addOne keep (addAll keep (gone, l) (ms.take k)) (ms.getD k default) by
            rw [List.take_succ_eq_append_getElem hlt, addAll_snoc, List.getD, List.getElem?_eq_getElem hlt]; rfl)
          generalize addAll keep (gone, l) (ms.take k) = st at *
          generalize ms.getD k default = m at *
          obtain ⟨go, cur⟩ := st
          have hkn : (k : Int) < (ms.length : Int) := by omega
          have RQ := Lib.hid (fun w' (h : QS w' q gs1 keep cur) => room_q w' q gs1 keep cur h ts.le ts.k2)
          have T := Lib.hid ts
          have bx := At5_box wr m
          have ts1 : TS (wr.alloc (.cells #[.int .i64 m.t, .int .i64 m.k, .int .i64 m.h, .int .i64 m.j, .int .i64 m.n] 24)) t q gs1 keep go last cur := ts.of_block (by simp) (fun k hk => Below.heap_alloc _ _ _ (ts.lt k hk))
          have ch1 := hch.alloc (.cells #[.int .i64 m.t, .int .i64 m.k, .int .i64 m.h, .int .i64 m.j, .int .i64 m.n] 24)
          obtain ⟨w1, hw1⟩ : ∃ w1, w1 = wr.alloc (.cells #[.int .i64 m.t, .int .i64 m.k, .int .i64 m.h, .int .i64 m.j, .int .i64 m.n] 24) := ⟨_, rfl⟩
          rw [← hw1] at bx ts1 ch1
          have HW1 := Lib.hid hw1
          have T1 := Lib.hid ts1
          have s1 : w1.heap.size = wr.heap.size + 1 := by rw [hw1]; simp
          have C1 := Lib.hid ch1
          have BX := Lib.hid bx
          clear hw1 ts1 ch1 bx ts hch hbk
          obtain ⟨x0, x1, x2, x3, x4⟩ := hx
          obtain ⟨lt, c0, c1, c2, fr⟩ := T.out.t3
          have leq : cur.length ≤ keep := T.out.le
          by_cases hfull : cur.length = keep
          · have hroom : (((keep - cur.length : Nat) : Int) == (0 : Int)) = true := by simp; omega
            obtain ⟨a, cur', rfl⟩ : ∃ a cur', cur = a :: cur' := by
              cases cur with
              | nil => have := T.out.k1; simp at hfull; omega
              | cons a cur' => exact ⟨a, cur', rfl⟩
            go_wp2_with fail
            rw [← HW1.out]
            refine (RQ.out _ T1.out.qs).mono ?_
            rintro e w' ⟨rfl, rfl⟩
            clear lt c0 c1 c2 fr x0 x1 x2 x3 x4
            obtain ⟨lt, c0, c1, c2, fr⟩ := T1.out.t3
            go_wp2_with fail
            refine (pop_q w1 q gs1 keep a cur' T1.out.qs leq T.out.k2).mono ?_
            rintro e w2 ⟨⟨pv, rfl⟩, qs2, ch2⟩
            obtain ⟨lt, c0, c1, c2, fr⟩ := T1.out.t3.of_block ch2.size (ch2.block t T1.out.t3.lt (fun h => h.elim T1.out.tq T1.out.tg))
            have q2 := T1.out.t3.of_block ch2.size (ch2.block t T1.out.t3.lt (fun h => h.elim T1.out.tq T1.out.tg))
            have b2 : At5 w2 wr.heap.size 0 m := BX.out.of_block (ch2.block _ (by omega) (fun h => by have := T.out.lt wr.heap.size (.inr h); omega))
            have Q2 := Lib.hid q2
            have B2 := Lib.hid b2
            have QS2 := Lib.hid qs2
            clear lt c0 c1 c2 fr qs2 b2
            obtain ⟨lt, c0, c1, c2, fr⟩ := q2
            go_wp2_with fail
            obtain ⟨w4, hw4⟩ : ∃ w4, w4 = w2.setCell ⟨t, 1, none⟩ (.int .i64 (go + 1)) := ⟨_, rfl⟩
            rw [← hw4]
            have e4 : ∀ x, x ≠ t → w4.heap[x]? = w2.heap[x]? := fun x hx => by rw [hw4]; exact Below.heap_setCell _ ⟨t, 1, none⟩ _ x hx
            have z4 : w4.heap.size = w2.heap.size := by rw [hw4]; simp [World.setCell]
            have TX : Hid (TS w4 t q gs1 keep (go + 1) last cur') := ⟨by rw [hw4]; exact Q2.out.setGone _, QS2.out.of_block (by omega) (fun x hx => e4 x (fun e => by subst e; exact hx.elim T1.out.tq T1.out.tg)), T1.out.tq, T1.out.tg, (by simp at hfull; omega), T1.out.k1, T1.out.k2⟩
            have BXX : Hid (At5 w4 wr.heap.size 0 m) := B2.out.of_block (e4 _ (by have := T.out.t3.lt; omega))
            have SX : wr.heap.size < w4.heap.size := by have := ch2.size; omega
            have CX : Hid (Ch (tb t q gs) W w4) := by
              rw [hw4]
              exact ((C1.out.trans ch2 (fun i hi => hi.elim (fun e => .inl (.inr (.inl e))) (fun e => (hgs.out i e).elim (fun h => .inl (.inr (.inr h))) .inr))).set _ (.inl (.inl rfl)) _)
            have LE : cur'.length < keep := by simp at hfull; omega
            clear hw4 lt c0 c1 c2 fr
            have KS : Hid (∀ w', Qt w4 w' → w'.cell? ⟨t, 0, none⟩ = some (.pointer (some ⟨q, 0, none⟩)) ∧ w'.cell? ⟨wr.heap.size, 0, none⟩ = some (.int .i64 m.t) ∧ w'.cell? ⟨wr.heap.size, 1, none⟩ = some (.int .i64 m.k) ∧ w'.cell? ⟨wr.heap.size, 2, none⟩ = some (.int .i64 m.h) ∧ w'.cell? ⟨wr.heap.size, 3, none⟩ = some (.int .i64 m.j) ∧ w'.cell? ⟨wr.heap.size, 4, none⟩ = some (.int .i64 m.n)) := by
              intro w' hq
              have a5 := BXX.out.qt hq
              have a3 := TX.out.t3
              obtain ⟨n, rfl⟩ := hq
              exact ⟨a3.c0, a5.c0, a5.c1, a5.c2, a5.c3, a5.c4⟩
            have KP : Hid (∀ wa w', Qt w4 wa → Ch (fun k => k = q ∨ k ∈ gs1) wa w' → w'.cell? ⟨t, 0, none⟩ = some (.pointer (some ⟨q, 0, none⟩)) ∧ w'.cell? ⟨wr.heap.size, 0, none⟩ = some (.int .i64 m.t) ∧ w'.cell? ⟨wr.heap.size, 1, none⟩ = some (.int .i64 m.k) ∧ w'.cell? ⟨wr.heap.size, 2, none⟩ = some (.int .i64 m.h) ∧ w'.cell? ⟨wr.heap.size, 3, none⟩ = some (.int .i64 m.j) ∧ w'.cell? ⟨wr.heap.size, 4, none⟩ = some (.int .i64 m.n)) := by
              intro wa w' hq hc
              have z : wa.heap.size = w4.heap.size := by obtain ⟨n, rfl⟩ := hq; rfl
              have et : w'.heap[t]? = w4.heap[t]? := by
                have := hc.block t (by rw [z]; exact TX.out.t3.lt) (fun h => h.elim TX.out.tq TX.out.tg)
                obtain ⟨n, rfl⟩ := hq
                exact this
              have eb : w'.heap[wr.heap.size]? = w4.heap[wr.heap.size]? := by
                have := hc.block wr.heap.size (by rw [z]; exact SX) (fun h => by have := T.out.lt wr.heap.size (.inr h); omega)
                obtain ⟨n, rfl⟩ := hq
                exact this
              have a5 := BXX.out.of_block eb
              have a3 := TX.out.t3.of_block (w' := w') (by have := hc.size; omega) et
              exact ⟨a3.c0, a5.c0, a5.c1, a5.c2, a5.c3, a5.c4⟩
            have hqd : Qt w4 w4.drew := (Qt.refl w4).drew 1
            have PQ := Lib.hid (fun w' (h : QS w' q gs1 keep cur') => push_q w' q gs1 keep cur' m h LE T.out.k2)
            obtain ⟨d0, d1, d2, d3, d4, d5⟩ := KS.out _ (Qt.refl w4)
            go_wp2_with fail
            go_region_held3 (fun w' => w'.cell? ⟨t, 0, none⟩ = some (.pointer (some ⟨q, 0, none⟩)) ∧ w'.cell? ⟨wr.heap.size, 0, none⟩ = some (.int .i64 m.t) ∧ w'.cell? ⟨wr.heap.size, 1, none⟩ = some (.int .i64 m.k) ∧ w'.cell? ⟨wr.heap.size, 2, none⟩ = some (.int .i64 m.h) ∧ w'.cell? ⟨wr.heap.size, 3, none⟩ = some (.int .i64 m.j) ∧ w'.cell? ⟨wr.heap.size, 4, none⟩ = some (.int .i64 m.n)) ((first | exact KS.out _ hqd | exact KP.out _ _ hqd ch9)) ((first | (go_at_call 54; refine (PQ.out w4.drew (TX.out.qs.of_block (w' := w4.drew) (Nat.le_refl _) (fun _ _ => rfl))).mono ?_; rintro e w9 ⟨rfl, gs2, qs9, hg9, ch9⟩)))
            have ts9 : TS w9 t q gs2 keep (go + 1) last (cur' ++ [m]) := (TX.out.of_block (w' := World.drew _) (Nat.le_refl _) (fun _ _ => rfl)).pushed qs9 hg9 ch9 LE
            have cw9 : Ch (tb t q gs) W w9 := (CX.out.drew).trans ch9 (fun i hi => hi.elim (fun e => .inl (.inr (.inl e))) (fun e => (hgs.out i e).elim (fun h => .inl (.inr (.inr h))) .inr))
            have gs9 : ∀ x ∈ gs2, x ∈ gs ∨ W.heap.size ≤ x := fun x hx => (hg9 x hx).elim (fun h => hgs.out x h) (fun h => .inr (Nat.le_trans CX.out.size h))
            go_wp2_with fail
            go_roundw
            case rel =>
              refine ⟨k + 1, by omega, by go_num, gs2, ?_, Lib.hid gs9, cw9, ?_⟩
              · rw [SN.out]; unfold addOne; rw [if_pos (show (a :: cur').length = keep from hfull)]; exact ts9
              · rw [SN.out]; unfold addOne; rw [if_pos (show (a :: cur').length = keep from hfull)]; simp at hgo ⊢; omega
            case measure => simp [intOf]; omega
          · have hroom : (((keep - cur.length : Nat) : Int) == (0 : Int)) = false := by simp; omega
            go_wp2_with fail
            rw [← HW1.out]
            refine (RQ.out _ T1.out.qs).mono ?_
            rintro e w' ⟨rfl, rfl⟩
            clear lt c0 c1 c2 fr x0 x1 x2 x3 x4
            obtain ⟨lt, c0, c1, c2, fr⟩ := T1.out.t3
            go_wp2_with fail
            have TX : Hid (TS w1 t q gs1 keep go last cur) := T1
            have BXX : Hid (At5 w1 wr.heap.size 0 m) := BX
            have SX : wr.heap.size < w1.heap.size := by omega
            have LE : cur.length < keep := by omega
            have CX : Hid (Ch (tb t q gs) W w1) := C1
            have KS : Hid (∀ w', Qt w1 w' → w'.cell? ⟨t, 0, none⟩ = some (.pointer (some ⟨q, 0, none⟩)) ∧ w'.cell? ⟨wr.heap.size, 0, none⟩ = some (.int .i64 m.t) ∧ w'.cell? ⟨wr.heap.size, 1, none⟩ = some (.int .i64 m.k) ∧ w'.cell? ⟨wr.heap.size, 2, none⟩ = some (.int .i64 m.h) ∧ w'.cell? ⟨wr.heap.size, 3, none⟩ = some (.int .i64 m.j) ∧ w'.cell? ⟨wr.heap.size, 4, none⟩ = some (.int .i64 m.n)) := by
              intro w' hq
              have a5 := BXX.out.qt hq
              have a3 := TX.out.t3
              obtain ⟨n, rfl⟩ := hq
              exact ⟨a3.c0, a5.c0, a5.c1, a5.c2, a5.c3, a5.c4⟩
            have KP : Hid (∀ wa w', Qt w1 wa → Ch (fun k => k = q ∨ k ∈ gs1) wa w' → w'.cell? ⟨t, 0, none⟩ = some (.pointer (some ⟨q, 0, none⟩)) ∧ w'.cell? ⟨wr.heap.size, 0, none⟩ = some (.int .i64 m.t) ∧ w'.cell? ⟨wr.heap.size, 1, none⟩ = some (.int .i64 m.k) ∧ w'.cell? ⟨wr.heap.size, 2, none⟩ = some (.int .i64 m.h) ∧ w'.cell? ⟨wr.heap.size, 3, none⟩ = some (.int .i64 m.j) ∧ w'.cell? ⟨wr.heap.size, 4, none⟩ = some (.int .i64 m.n)) := by
              intro wa w' hq hc
              have z : wa.heap.size = w1.heap.size := by obtain ⟨n, rfl⟩ := hq; rfl
              have et : w'.heap[t]? = w1.heap[t]? := by
                have := hc.block t (by rw [z]; exact TX.out.t3.lt) (fun h => h.elim TX.out.tq TX.out.tg)
                obtain ⟨n, rfl⟩ := hq
                exact this
              have eb : w'.heap[wr.heap.size]? = w1.heap[wr.heap.size]? := by
                have := hc.block wr.heap.size (by rw [z]; exact SX) (fun h => by have := T.out.lt wr.heap.size (.inr h); omega)
                obtain ⟨n, rfl⟩ := hq
                exact this
              have a5 := BXX.out.of_block eb
              have a3 := TX.out.t3.of_block (w' := w') (by have := hc.size; omega) et
              exact ⟨a3.c0, a5.c0, a5.c1, a5.c2, a5.c3, a5.c4⟩
            have hqd : Qt w1 w1.drew := (Qt.refl w1).drew 1
            have PQ := Lib.hid (fun w' (h : QS w' q gs1 keep cur) => push_q w' q gs1 keep cur m h LE T.out.k2)
            obtain ⟨d0, d1, d2, d3, d4, d5⟩ := KS.out _ (Qt.refl w1)
            go_wp2_with fail
            go_region_held3 (fun w' => w'.cell? ⟨t, 0, none⟩ = some (.pointer (some ⟨q, 0, none⟩)) ∧ w'.cell? ⟨wr.heap.size, 0, none⟩ = some (.int .i64 m.t) ∧ w'.cell? ⟨wr.heap.size, 1, none⟩ = some (.int .i64 m.k) ∧ w'.cell? ⟨wr.heap.size, 2, none⟩ = some (.int .i64 m.h) ∧ w'.cell? ⟨wr.heap.size, 3, none⟩ = some (.int .i64 m.j) ∧ w'.cell? ⟨wr.heap.size, 4, none⟩ = some (.int .i64 m.n)) ((first | exact KS.out _ hqd | exact KP.out _ _ hqd ch9)) ((first | (go_at_call 54; refine (PQ.out w1.drew (TX.out.qs.of_block (w' := w1.drew) (Nat.le_refl _) (fun _ _ => rfl))).mono ?_; rintro e w9 ⟨rfl, gs2, qs9, hg9, ch9⟩)))
            have ts9 : TS w9 t q gs2 keep go last (cur ++ [m]) := (TX.out.of_block (w' := World.drew _) (Nat.le_refl _) (fun _ _ => rfl)).pushed qs9 hg9 ch9 LE
            have cw9 : Ch (tb t q gs) W w9 := (CX.out.drew).trans ch9 (fun i hi => hi.elim (fun e => .inl (.inr (.inl e))) (fun e => (hgs.out i e).elim (fun h => .inl (.inr (.inr h))) .inr))
            have gs9 : ∀ x ∈ gs2, x ∈ gs ∨ W.heap.size ≤ x := fun x hx => (hg9 x hx).elim (fun h => hgs.out x h) (fun h => .inr (Nat.le_trans CX.out.size h))
            go_wp2_with fail
            go_roundw
            case rel =>
              refine ⟨k + 1, by omega, by go_num, gs2, ?_, Lib.hid gs9, cw9, ?_⟩
              · rw [SN.out]; unfold addOne; rw [if_neg (show ¬ cur.length = keep from hfull)]; exact ts9
              · rw [SN.out]; unfold addOne; rw [if_neg (show ¬ cur.length = keep from hfull)]; simp at hgo ⊢; omega
            case measure => simp [intOf]; omega
        · obtain rfl : k = ms.length := by omega
          rw [List.take_length] at ts hgo
          have T := Lib.hid ts
          obtain ⟨lt, c0, c1, c2, fr⟩ := ts.t3
          clear ts
          go_wp2_with fail
          go_ret
          refine ⟨rfl, gs1, ⟨?_, T.out.qs.of_block (by simp [World.setCell]) (fun x hx => Below.heap_setCell _ ⟨t, 2, none⟩ _ x (fun e => by subst e; exact hx.elim T.out.tq T.out.tg)), T.out.tq, T.out.tg, T.out.le, T.out.k1, T.out.k2⟩, hgs.out, hch.set _ (.inl (.inl rfl)) _⟩
          rw [HLa.out]
          exact T.out.t3.setLast _
end Go.Proofs.YtohodbpjcbjifaaGreatDoor
