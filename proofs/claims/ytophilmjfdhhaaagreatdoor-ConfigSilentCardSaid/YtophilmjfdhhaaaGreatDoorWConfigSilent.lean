/- The walk of ConfigSilent. -/
import Derived.Test.YtophilmjfdhhaaaGreatDoorGn
namespace Go.Proofs.YtophilmjfdhhaaaGreatDoor
open Go Go.RowKit Go.Shelf Go.Sort
set_option linter.unusedVariables false
set_option linter.unusedSimpArgs false
set_option maxRecDepth 100000
set_option maxHeartbeats 8000000

theorem urest (a : Int) (n : Nat) (h : 0 < n) (hn : n ≤ 1000000) : ∃ r : Nat, r < n ∧ wrap64 ((IntKind.u64.wrap a).tmod n) = (r : Int) := by
  have h0 : 0 ≤ IntKind.u64.wrap a := by simp [IntKind.wrap, IntKind.signed, IntKind.bits]; omega
  have e : (IntKind.u64.wrap a).tmod n = (IntKind.u64.wrap a) % n := Int.tmod_eq_emod_of_nonneg h0
  rw [e]
  have h1 : 0 ≤ (IntKind.u64.wrap a) % (n : Int) := Int.emod_nonneg _ (by omega)
  have h2 : (IntKind.u64.wrap a) % (n : Int) < n := Int.emod_lt_of_pos _ (by omega)
  refine ⟨((IntKind.u64.wrap a) % (n : Int)).toNat, by omega, ?_⟩
  rw [Int.toNat_of_nonneg h1]
  generalize (IntKind.u64.wrap a) % (n : Int) = z at *
  unfold wrap64
  omega
theorem add_str (a b : List UInt8) (w : World) (hl : a.length + b.length ≤ 9223372036854775807) : (binOp .add 9 (str a) (str b)).run Tryz.prog w = .ok (str (a ++ b)) w := by
  have e : (⟨a.toArray⟩ : ByteArray) ++ ⟨b.toArray⟩ = ⟨(a ++ b).toArray⟩ := by
    rw [ByteArray.ext_iff]
    simp
  simp [go_sem, Tryz.underlying9, e, hl]
theorem WLn_next {s : List UInt8} {i : Nat} (hi : i < s.length) (h : s.getD i 0 = 10) : WLn (s.take (i + 1)) := by
  right
  rw [List.take_succ_eq_append_getElem hi, List.getLast?_append]
  rw [List.getD, List.getElem?_eq_getElem hi] at h
  simp at h
  simp [h]
theorem count_next {s : List UInt8} {i : Nat} (hi : i < s.length) : (s.take (i + 1)).count 10 = (s.take i).count 10 + if s.getD i 0 = 10 then 1 else 0 := by
  rw [List.take_succ_eq_append_getElem hi, List.count_append, List.getD, List.getElem?_eq_getElem hi]
  simp [List.count_cons]
/-- What a line put in does. -/
theorem silent_cases (s : List UInt8) (k : Nat) (q : List UInt8) (hw : WLn (s.take k)) (hq : ∀ c ∈ q, c ≠ 10) (hs : silS q = true) :
    (1048576 < (s.take k ++ (q ++ [10]) ++ s.drop k).length ∧ (parseS (s.take k ++ (q ++ [10]) ++ s.drop k)).2.2 = 3) ∨
    ((s.take k ++ (q ++ [10]) ++ s.drop k).length ≤ 1048576 ∧ (parseS (s.take k ++ (q ++ [10]) ++ s.drop k)).1 = (parseS s).1 ∧ (parseS (s.take k ++ (q ++ [10]) ++ s.drop k)).2.2 = (parseS s).2.2 ∧ ((parseS s).2.2 ≠ 3 → (parseS (s.take k ++ (q ++ [10]) ++ s.drop k)).2.1 = if (s.take k).count 10 < (parseS s).2.1 then (parseS s).2.1 + 1 else (parseS s).2.1)) := by
  rcases Nat.lt_or_ge 1048576 (s.take k ++ (q ++ [10]) ++ s.drop k).length with h | h
  · exact .inl ⟨h, by rw [parseS_long h]⟩
  · have := silent_law (s.take k) (s.drop k) q hw hq hs h
    rw [List.take_append_drop] at this
    exact .inr ⟨h, this⟩
theorem configSilent_walk (a : ByteArray) (ha : a.size ≤ 140737488351232) (x : Int) (hx : -9223372036854775808 ≤ x ∧ x ≤ 9223372036854775807) (y : Int) (hy : -9223372036854775808 ≤ y ∧ y ≤ 9223372036854775807) (W : World) (E : EnvT W) :
    Calls Tryz.prog 4 #[.string a, .int .i64 x, .int .i64 y] W fun e w' => e = .returned (.bool true) ∧ Below W.heap.size W w' := by
  obtain ⟨s, rfl⟩ : ∃ s : List UInt8, a = ⟨s.toArray⟩ := ⟨a.data.toList, by simp⟩
  rw [sz] at ha
  have P1 : Hid (Calls Tryz.prog 8 #[str s] W fun e w' => ∃ v1 v2, e = .returned (.tuple #[.agg #[v1, v2], .int .i64 ((parseS s).2.1 : Nat), errOf (parseS s).2.2]) ∧ RT w' v1 (parseS s).1.items ∧ RI w' v2 (parseS s).1.slack ∧ Below W.heap.size W w') := Lib.hid (parse_c s W E.E (by omega))
  have EE := Lib.hid (fun w (h : Below W.heap.size W w) => E.below h)
  have SC := Lib.hid (silent_cases s)
  have IX := Lib.hid (fun k hk w => run_indexS s k hk w)
  have HD := Lib.hid (fun k hk w => run_headS s k hk w)
  have TL := Lib.hid (fun k hk w => run_tailS s k hk w)
  have WN := Lib.hid (fun i (hi : i < s.length) h => WLn_next (s := s) hi h)
  have CN := Lib.hid (fun i (hi : i < s.length) => count_next (s := s) hi)
  have HLE := Lib.hid (parseS_le s)
  obtain ⟨hok, hsl⟩ := parseS_ok s
  have HSL : Hid ((parseS s).1.slack.length ≤ 140737488355328) := Lib.hid (by omega)
  have HIL : Hid ((parseS s).1.items.length ≤ 1000000000000) := Lib.hid (by have := hok.len; omega)
  clear hok hsl
  have hsi : (s.length : Int) ≤ 140737488351232 := by omega
  obtain ⟨r8, hr8, hrest'⟩ := urest x 8 (by omega) (by omega)
  have hrest : wrap64 ((IntKind.u64.wrap x).tmod 8) = (r8 : Int) := hrest'
  obtain ⟨r4, hr4, hrest4'⟩ := urest y 4 (by omega) (by omega)
  have hrest4 : wrap64 ((IntKind.u64.wrap y).tmod 4) = (r4 : Int) := hrest4'
  have hr8i : (r8 : Int) < 8 := by omega
  clear E hrest' hrest4'
  go_enter Tryz.func4, Tryz.ntmps4
  go_wp2_with fail
  refine P1.out.mono ?_
  rintro e w1 ⟨v1, v2, rfl, h1, h2, hb1⟩
  obtain ⟨p1, c1, rfl, _⟩ := h1.out
  obtain ⟨p2, c2, rfl⟩ := RI_form h2
  obtain ⟨w2, hw2⟩ : ∃ w2, w2 = w1.alloc (.cells #[.slice p1 (parseS s).1.items.length c1, .slice p2 (parseS s).1.slack.length c2] 25) := ⟨_, rfl⟩
  have B12 : Below w1.heap.size w1 w2 := by rw [hw2]; exact (Below.refl _ _).alloc (Nat.le_refl _) _
  have CT2 := Lib.hid (show w2.heap[w1.heap.size]? = some (.cells #[.slice p1 (parseS s).1.items.length c1, .slice p2 (parseS s).1.slack.length c2] 25) by rw [hw2]; exact new_blk _)
  have HW2 := Lib.hid hw2
  have B2 := Lib.hid (hb1.trans (B12.mono hb1.size))
  have H1 := Lib.hid (h1.below B12)
  have H2 := Lib.hid (h2.below B12)
  obtain ⟨T, hT⟩ : ∃ T, T = w1.heap.size := ⟨_, rfl⟩
  rw [← hT] at CT2
  have HTT := Lib.hid hT
  clear hw2 h1 h2 hb1 B12 P1 hT
  go_wp2_with fail
  rw [← HW2.out]
  simp only [← HTT.out]
  go_loopw [10, 11, 12] (fun ln kk ii wr => ∃ (n k i : Nat), ln = .int .i64 n ∧ kk = .int .i64 k ∧ ii = .int .i64 i ∧ n ≤ i ∧ k ≤ i ∧ i ≤ s.length ∧ Hid (WLn (s.take k)) ∧ w2 = wr) (fun _ _ ii _ => s.length - (intOf ii).toNat)
  case atStart => exact ⟨0, 0, 0, by go_num, by go_num, by go_num, Nat.le_refl _, Nat.le_refl _, Nat.zero_le _, Lib.hid (.inl rfl), rfl⟩
  case round =>
    obtain ⟨n, k, i, rfl, rfl, rfl, hni, hki, his, hwl, rfl⟩ := hrel
    have hii : (i : Int) ≤ 140737488351232 := by omega
    have hnn : (n : Int) ≤ 140737488351232 := by omega
    by_cases hlt : i < s.length
    · have hlt' : (i : Int) < (s.length : Int) := by omega
      have hi1 : i + 1 ≤ s.length := hlt
      have hix : ∀ w, (Instr.index 9 (str s) (.int .i64 (i : Int))).run Tryz.prog w = .ok (.int .u8 (s.getD i 0).toNat) w := fun w => IX.out i hlt w
      have WX := Lib.hid (WN.out i hlt)
      generalize s.getD i 0 = c at *
      clear hlt
      by_cases hc : c = 10
      · subst hc
        have WX2 := Lib.hid (WX.out rfl)
        rw [show (10 : UInt8).toNat = 10 from rfl] at hix
        by_cases hle : n + 1 ≤ r8
        · have q1 : (n : Int) + 1 ≤ (r8 : Int) := by omega
          have q2 : decide ((n : Int) + 1 ≤ (r8 : Int)) = true := decide_eq_true q1
          clear hle
          go_wp2_with fail
          go_roundw
          case rel => exact ⟨n + 1, i + 1, i + 1, by go_num, by go_num, by go_num, by omega, Nat.le_refl _, hi1, WX2, trivial⟩
          case measure => show s.length - ((i : Int) + 1).toNat < s.length - ((i : Int)).toNat; omega
        · have q1 : ¬ (n : Int) + 1 ≤ (r8 : Int) := by omega
          have q2 : decide ((n : Int) + 1 ≤ (r8 : Int)) = false := decide_eq_false q1
          clear hle
          go_wp2_with fail
          go_roundw
          case rel => exact ⟨n + 1, k, i + 1, by go_num, rfl, by go_num, by omega, by omega, hi1, hwl, trivial⟩
          case measure => show s.length - ((i : Int) + 1).toNat < s.length - ((i : Int)).toNat; omega
      · have hcn : ((c.toNat : Int) == 10) = false := by
          rw [beq_eq_false_iff_ne]
          intro e
          exact hc (UInt8.toNat_inj.1 (by have : c.toNat = 10 := by omega
                                          rw [this]; rfl))
        generalize c.toNat = cn at *
        clear hc
        go_wp2_with fail
        go_roundw
        case rel => exact ⟨n, k, i + 1, rfl, rfl, by go_num, by omega, by omega, hi1, hwl, trivial⟩
        case measure => show s.length - ((i : Int) + 1).toNat < s.length - ((i : Int)).toNat; omega
    · obtain rfl : i = s.length := by omega
      have hge : ¬ (s.length : Int) < (s.length : Int) := by omega
      have hks : k ≤ s.length := hki
      have hksi : (k : Int) ≤ (s.length : Int) := by omega
      clear hlt
      go_upto_region 11 with fail
      go_cut [13] (fun s13 w => ∃ (wx : World) (qq : List UInt8), wx = w ∧ s13 = str qq ∧ Hid (∃ q : List UInt8, qq = q ++ [10] ∧ (∀ c ∈ q, c ≠ 10) ∧ silS q = true) ∧ qq.length ≤ 7 ∧ Hid (Below w2.heap.size w2 w))
      case first =>
        rcases (by omega : r4 = 0 ∨ r4 = 1 ∨ r4 = 2 ∨ r4 = 3) with rfl | rfl | rfl | rfl
        · go_wp2_with fail
          go_meet
          exact ⟨_, [10], rfl, rfl, Lib.hid ⟨[], rfl, by decide, by decide⟩, by decide, Lib.hid ((Below.refl _ _).alloc (Nat.le_refl _) _)⟩
        · go_wp2_with fail
          go_meet
          exact ⟨_, [35, 97, 32, 49, 47, 49, 10], rfl, rfl, Lib.hid ⟨[35, 97, 32, 49, 47, 49], rfl, by decide, by decide⟩, by decide, Lib.hid ((Below.refl _ _).alloc (Nat.le_refl _) _)⟩
        · go_wp2_with fail
          go_meet
          exact ⟨_, [32, 32, 32, 35, 32, 120, 10], rfl, rfl, Lib.hid ⟨[32, 32, 32, 35, 32, 120], rfl, by decide, by decide⟩, by decide, Lib.hid ((Below.refl _ _).alloc (Nat.le_refl _) _)⟩
        · go_wp2_with fail
          go_meet
          exact ⟨_, [32, 32, 32, 32, 32, 32, 10], rfl, rfl, Lib.hid ⟨[32, 32, 32, 32, 32, 32], rfl, by decide, by decide⟩, by decide, Lib.hid ((Below.refl _ _).alloc (Nat.le_refl _) _)⟩
      case rest =>
        obtain ⟨wq, qq, rfl, rfl, hqx, hql, hbq⟩ := hcut
        have BQ := Lib.hid (B2.out.trans (hbq.out.mono B2.out.size))
        have SCC : Hid ((1048576 < (s.take k ++ qq ++ s.drop k).length ∧ (parseS (s.take k ++ qq ++ s.drop k)).2.2 = 3) ∨ ((s.take k ++ qq ++ s.drop k).length ≤ 1048576 ∧ (parseS (s.take k ++ qq ++ s.drop k)).1 = (parseS s).1 ∧ (parseS (s.take k ++ qq ++ s.drop k)).2.2 = (parseS s).2.2 ∧ ((parseS s).2.2 ≠ 3 → (parseS (s.take k ++ qq ++ s.drop k)).2.1 = if (s.take k).count 10 < (parseS s).2.1 then (parseS s).2.1 + 1 else (parseS s).2.1))) := Lib.hid (by
          obtain ⟨q, rfl, hq, hsq⟩ := hqx.out
          exact SC.out k q hwl.out hq hsq)
        have hhd : ∀ w, (Instr.slice 9 (str s) none (some (.int .i64 k)) none).run Tryz.prog w = .ok (str (s.take k)) w := fun w => HD.out k hks w
        have htl : ∀ w, (Instr.slice 9 (str s) (some (.int .i64 k)) none none).run Tryz.prog w = .ok (str (s.drop k)) w := fun w => TL.out k hks w
        have hz1 : (⟨(s.take k).toArray⟩ : ByteArray) ++ ⟨qq.toArray⟩ = ⟨(s.take k ++ qq).toArray⟩ := by rw [ByteArray.ext_iff]; simp
        have hz2 : (⟨(s.take k ++ qq).toArray⟩ : ByteArray) ++ ⟨(s.drop k).toArray⟩ = ⟨(s.take k ++ qq ++ s.drop k).toArray⟩ := by rw [ByteArray.ext_iff]; simp
        have ht1 : ¬ 9223372036854775807 < (s.take k).length + qq.length := by simp; omega
        have ht2 : ¬ 9223372036854775807 < (s.take k ++ qq).length + (s.drop k).length := by simp; omega
        have hlen : (s.take k ++ qq ++ s.drop k).length = s.length + qq.length := by simp; omega
        generalize s.take k ++ qq ++ s.drop k = bs at *
        generalize s.take k ++ qq = m at *
        obtain ⟨tk, htk⟩ : ∃ tk, tk = s.take k := ⟨_, rfl⟩
        obtain ⟨dr, hdr⟩ : ∃ dr, dr = s.drop k := ⟨_, rfl⟩
        rw [← htk] at hhd hz1 ht1
        rw [← hdr] at htl hz2 ht2
        clear htk hdr
        have PB : Hid (∀ w, Below wq.heap.size wq w → Calls Tryz.prog 8 #[str bs] w fun e w' => ∃ v1 v2, e = .returned (.tuple #[.agg #[v1, v2], .int .i64 ((parseS bs).2.1 : Nat), errOf (parseS bs).2.2]) ∧ RT w' v1 (parseS bs).1.items ∧ RI w' v2 (parseS bs).1.slack ∧ Below w.heap.size w w') := Lib.hid (fun w h => parse_c bs w (EE.out _ (BQ.out.trans (h.mono BQ.out.size))).E (by omega))
        clear SC hqx
        generalize parseS bs = R1 at *
        generalize parseS s = R0 at *
        obtain ⟨t0, n0, e0⟩ := R0
        obtain ⟨t1, n1, e1⟩ := R1
        simp only at SCC PB CT2 H1 H2 HLE HSL HIL
        go_upto_region 12 with fail
        go_cut [14, 15, 16] (fun s14 s15 s16 w => ∃ (wx : World) (X : Nat) (p3 : Option Addr) (c3 : Nat) (p4 : Option Addr) (c4 : Nat), wx = w ∧ s14 = .pointer (some ⟨X, 0, none⟩) ∧ s15 = .int .i64 (n1 : Nat) ∧ s16 = errOf e1 ∧ Hid (w.heap[X]? = some (.cells #[.slice p3 t1.items.length c3, .slice p4 t1.slack.length c4] 25)) ∧ Hid (RT w (.slice p3 t1.items.length c3) t1.items ∧ RI w (.slice p4 t1.slack.length c4) t1.slack) ∧ Hid (Below wq.heap.size wq w))
        case first =>
          have hqd := (Below.refl wq.heap.size wq).drew
          have hqa : Below wq.heap.size wq (wq.alloc (.cells #[.slice none 0 0, .slice none 0 0] 25)).drew := ((Below.refl wq.heap.size wq).alloc (Nat.le_refl _) _).drew
          have hXn : (wq.alloc (.cells #[.slice none 0 0, .slice none 0 0] 25)).drew.heap[wq.heap.size]? = some (.cells #[.slice none 0 0, .slice none 0 0] 25) := new_blk (w := wq) (.cells #[.slice none 0 0, .slice none 0 0] 25)
          have HXN := Lib.hid hXn
          clear hXn
          go_region_held3 (fun _ => True) ((trivial)) ((first | (go_at_call 8; refine (PB.out _ hqd).mono ?_; rintro e w3 ⟨u1, u2, rfl, hg1, hg2, hb3⟩; obtain ⟨p3, c3, rfl, _⟩ := hg1.out; obtain ⟨p4, c4, rfl⟩ := RI_form hg2; have hq3 := hqd.trans (hb3.mono hqd.size); have tokA : True := trivial) | (go_at_call 8; refine (PB.out _ hqa).mono ?_; rintro e w3 ⟨u1, u2, rfl, hg1, hg2, hb3⟩; obtain ⟨p3, c3, rfl, _⟩ := hg1.out; obtain ⟨p4, c4, rfl⟩ := RI_form hg2; have hq3 := hqa.trans (hb3.mono hqa.size); have HX3 := Lib.hid (blk_below HXN.out hb3); have kx0 := blk_cell (j := 0) (v := .slice none 0 0) HX3.out rfl; have kx1 := blk_cell (j := 1) (v := .slice none 0 0) HX3.out rfl; have kxf := fun i => blk_frozen HX3.out i)))
          all_goals
            go_wp2_with fail
            go_meet
            first
              | exact ⟨_, w3.heap.size, p3, c3, p4, c4, rfl, rfl, rfl, rfl, Lib.hid (new_blk _), Lib.hid ⟨hg1.below ((Below.refl _ _).alloc (Nat.le_refl _) _), hg2.below ((Below.refl _ _).alloc (Nat.le_refl _) _)⟩, Lib.hid (hq3.alloc hq3.size _)⟩
              | exact ⟨_, wq.heap.size, p3, c3, p4, c4, rfl, rfl, rfl, rfl, Lib.hid (set2_blk HX3.out _ _), Lib.hid ⟨hg1.sep HX3.out (Nat.le_of_eq (set2_size _ _ _ _).symm) (fun k hk _ => set2_other hk _ _), hg2.sep HX3.out (Nat.le_of_eq (set2_size _ _ _ _).symm) (fun k hk _ => set2_other hk _ _)⟩, Lib.hid (set2_below hq3 (Nat.le_refl _) _ _)⟩
        case rest =>
          obtain ⟨wc, X, p3, c3, p4, c4, rfl, rfl, rfl, rfl, hX, hR, hbc⟩ := hcut
          have BC := Lib.hid (BQ.out.trans (hbc.out.mono BQ.out.size))
          clear PB hhd htl hz1 hz2 ht1 ht2
          go_wp2_with fail
          go_loopw [17, 18] (fun aa jj wr => ∃ j : Nat, aa = .int .i64 ((s.take j).count 10 : Nat) ∧ jj = .int .i64 j ∧ j ≤ k ∧ wc = wr) (fun _ jj _ => k - (intOf jj).toNat)
          case atStart => exact ⟨0, by go_num, by go_num, Nat.zero_le _, rfl⟩
          case round =>
            obtain ⟨j, rfl, rfl, hj, rfl⟩ := hrel
            have hji : (j : Int) ≤ 140737488351232 := by omega
            have hcb : (s.take j).count 10 ≤ j := Nat.le_trans List.count_le_length (by simp; omega)
            have hcbi : (((s.take j).count 10 : Nat) : Int) ≤ 140737488351232 := by omega
            by_cases hlt : j < k
            · have hlt' : (j : Int) < (k : Int) := by omega
              have hjs : (j : Int) < (s.length : Int) := by omega
              have hix : ∀ w, (Instr.index 9 (str s) (.int .i64 (j : Int))).run Tryz.prog w = .ok (.int .u8 (s.getD j 0).toNat) w := fun w => IX.out j (by omega) w
              have NX := Lib.hid (CN.out j (by omega))
              have hj1 : j + 1 ≤ k := hlt
              clear hlt
              generalize s.getD j 0 = c at *
              generalize (s.take j).count 10 = cj at *
              by_cases hc : c = 10
              · subst hc
                rw [show (10 : UInt8).toNat = 10 from rfl] at hix
                have NX2 : Hid ((s.take (j + 1)).count 10 = cj + 1) := Lib.hid (by rw [NX.out]; simp)
                go_wp2_with fail
                go_roundw
                case rel => exact ⟨j + 1, by rw [NX2.out]; go_num, by go_num, hj1, trivial⟩
                case measure => show k - ((j : Int) + 1).toNat < k - ((j : Int)).toNat; omega
              · have hcn : ((c.toNat : Int) == 10) = false := by
                  rw [beq_eq_false_iff_ne]
                  intro e
                  exact hc (UInt8.toNat_inj.1 (by have : c.toNat = 10 := by omega
                                                  rw [this]; rfl))
                have NX2 : Hid ((s.take (j + 1)).count 10 = cj) := Lib.hid (by rw [NX.out]; simp [hc])
                generalize c.toNat = cn at *
                clear hc
                go_wp2_with fail
                go_roundw
                case rel => exact ⟨j + 1, by rw [NX2.out], by go_num, hj1, trivial⟩
                case measure => show k - ((j : Int) + 1).toNat < k - ((j : Int)).toNat; omega
            · have hjk : j = k := by omega
              subst hjk
              have hge2 : ¬ (j : Int) < (j : Int) := by omega
              clear hlt
              generalize (s.take j).count 10 = cnt at *
              have NE : Hid (∀ n w, Below wc.heap.size wc w → Calls Tryz.prog 11 #[errOf n] w fun e w' => e = .returned (.int .i64 n) ∧ Below wc.heap.size wc w') := Lib.hid (fun n w h => (num25_of n w (EE.out w (BC.out.trans (h.mono BC.out.size))).T).mono fun e w' hh => ⟨hh.1, h.trans (hh.2.mono h.size)⟩)
              have SU : Hid (∀ w, Below wc.heap.size wc w → Calls Tryz.prog 12 #[] w fun e w' => e = .returned (.bool true) ∧ Below wc.heap.size wc w') := Lib.hid (fun w h => (sure25_c w (EE.out w (BC.out.trans (h.mono BC.out.size))).E).mono fun e w' hh => ⟨hh.1, h.trans (hh.2.mono h.size)⟩)
              have FIN : Hid (∀ w, Below wc.heap.size wc w → Below W.heap.size W w) := Lib.hid (fun w h => BC.out.trans (h.mono BC.out.size))
              have b0 := Below.refl wc.heap.size wc
              by_cases h3 : e1 = 3
              · subst h3
                by_cases h0 : e0 = 3
                · subst h0
                  have t3 : ((3 : Int) == 3) = true := rfl
                  clear SCC
                  go_wp2_with (first | (go_at_call 11; refine (NE.out _ _ (by first | assumption | exact Below.drew (by assumption))).mono ?_; rintro e w3 ⟨rfl, b3⟩) | (go_at_call 12; refine (SU.out _ (by first | assumption | exact Below.drew (by assumption))).mono ?_; rintro e w3 ⟨rfl, b3⟩))
                  go_ret
                  exact ⟨rfl, FIN.out _ (by assumption)⟩
                · have hbig : 1048576 < s.length + qq.length := by
                    rcases SCC.out with ⟨h, _⟩ | ⟨_, _, h, _⟩
                    · omega
                    · exact absurd h.symm h0
                  have hbigi : (1048576 : Int) < (s.length : Int) + (qq.length : Int) := by omega
                  have hqi : (qq.length : Int) ≤ 7 := by omega
                  have t3 : (e0 == 3) = false := by rw [beq_eq_false_iff_ne]; exact h0
                  clear SCC hbig h0
                  go_wp2_with (first | (go_at_call 11; refine (NE.out _ _ (by first | assumption | exact Below.drew (by assumption))).mono ?_; rintro e w3 ⟨rfl, b3⟩) | (go_at_call 12; refine (SU.out _ (by first | assumption | exact Below.drew (by assumption))).mono ?_; rintro e w3 ⟨rfl, b3⟩))
                  go_ret
                  exact ⟨rfl, FIN.out _ (by assumption)⟩
              · have hall : e0 = e1 ∧ t1 = t0 ∧ n1 = if cnt < n0 then n0 + 1 else n0 := by
                  rcases SCC.out with ⟨_, h⟩ | ⟨_, h1, h, h2⟩
                  · exact absurd h h3
                  · exact ⟨h.symm, h1, h2 (by rw [← h]; exact h3)⟩
                obtain ⟨he, rfl, hn⟩ := hall
                subst he
                have HN := Lib.hid hn
                clear hn
                have t3 : (e0 == 3) = false := by rw [beq_eq_false_iff_ne]; exact h3
                have t4 : (e0 != e0) = false := by simp
                have hn0 : n0 ≤ 140737488351233 := by have := HLE.out; omega
                have hn0i : (n0 : Int) ≤ 140737488351233 := by omega
                have CLA : Hid (∀ w, Below wc.heap.size wc w → w.heap[T]? = some (.cells #[.slice p1 t1.items.length c1, .slice p2 t1.slack.length c2] 25)) := Lib.hid (fun w h => blk_below (blk_below (blk_below CT2.out hbq.out) hbc.out) h)
                have CLX : Hid (∀ w, Below wc.heap.size wc w → w.heap[X]? = some (.cells #[.slice p3 t1.items.length c3, .slice p4 t1.slack.length c4] 25)) := Lib.hid (fun w h => blk_below hX.out h)
                have NU : Hid (∀ w, Below wc.heap.size wc w → Calls Tryz.prog 13 #[.slice p2 t1.slack.length c2, .slice p4 t1.slack.length c4] w fun e w' => e = .returned (.bool true) ∧ Below wc.heap.size wc w') := Lib.hid (fun w h => (numbers_t t1.slack _ _ w (((H2.out.below hbq.out).below hbc.out).below h) (hR.out.2.below h) HSL.out).mono fun e w' hh => ⟨hh.1, h.trans (hh.2.mono h.size)⟩)
                obtain ⟨_, _, hv1, _, _, hi1⟩ := ((H1.out.below hbq.out).below hbc.out).out
                injection hv1 with hv1 _ _
                rw [← hv1] at hi1
                obtain ⟨_, _, hv3, _, _, hi3⟩ := hR.out.1.out
                injection hv3 with hv3 _ _
                rw [← hv3] at hi3
                have HI1 := Lib.hid hi1
                have HI3 := Lib.hid hi3
                have hli : (t1.items.length : Int) ≤ 1000000000000 := by have := HIL.out; omega
                have hne1 : ((t1.items.length : Int) != (t1.items.length : Int)) = false := by simp
                have hne2 : (t1.items.length != t1.items.length) = false := by simp
                have hm1 : ((n1 : Int) != (n1 : Int)) = false := by simp
                have hm2 : (n1 != n1) = false := by simp
                clear hi1 hi3 hv1 hv3 H1 H2 hR hbq hbc hX CT2 SCC
                go_upto_if 106 with (go_at_call 11; refine (NE.out _ _ (by first | assumption | exact Below.drew (by assumption))).mono ?_; rintro e w3 ⟨rfl, b3⟩)
                have B3 := Lib.hid b3
                go_cut [19] (fun s19 w => ∃ wx : World, wx = w ∧ s19 = .int .i64 (n1 : Nat) ∧ Hid (Below wc.heap.size wc w))
                case first =>
                  by_cases hcn : cnt < n0
                  · have q1 : (cnt : Int) < (n0 : Int) := by omega
                    have q2 : decide ((cnt : Int) < (n0 : Int)) = true := decide_eq_true q1
                    have HN1 : Hid (n1 = n0 + 1) := Lib.hid (by have := HN.out; rw [if_pos hcn] at this; exact this)
                    clear hcn
                    go_wp2_with fail
                    go_meet
                    exact ⟨_, rfl, by rw [HN1.out]; go_num, B3⟩
                  · have q1 : ¬ (cnt : Int) < (n0 : Int) := by omega
                    have q2 : decide ((cnt : Int) < (n0 : Int)) = false := decide_eq_false q1
                    have HN1 : Hid (n1 = n0) := Lib.hid (by have := HN.out; rw [if_neg hcn] at this; exact this)
                    clear hcn
                    go_wp2_with fail
                    go_meet
                    exact ⟨_, rfl, by rw [HN1.out], B3⟩
                case rest =>
                  obtain ⟨wd, rfl, rfl, hbd⟩ := hcut
                  clear B3
                  have b4 := hbd.out
                  go_wp2_with (first | (go_at_call 11; refine (NE.out _ _ (by first | assumption | exact Below.drew (by assumption))).mono ?_; rintro e w4 ⟨rfl, b5⟩; have CA := Lib.hid (CLA.out _ b5); have CX := Lib.hid (CLX.out _ b5); have a0 := blk_cell (j := 0) (v := .slice p1 t1.items.length c1) CA.out rfl; have a1 := blk_cell (j := 1) (v := .slice p2 t1.slack.length c2) CA.out rfl; have x0 := blk_cell (j := 0) (v := .slice p3 t1.items.length c3) CX.out rfl; have x1 := blk_cell (j := 1) (v := .slice p4 t1.slack.length c4) CX.out rfl) | (go_at_call 13; refine (NU.out _ (by first | assumption | exact Below.drew (by assumption))).mono ?_; rintro e w4 ⟨rfl, b5⟩))
                  have B5 := Lib.hid b5
                  clear a0 a1 x0 x1 CA CX
                  go_loopw [20] (fun jv wr => ∃ mm : Nat, jv = .int .i64 mm ∧ mm ≤ t1.items.length ∧ Hid (Below wc.heap.size wc wr)) (fun jv _ => t1.items.length - (intOf jv).toNat)
                  case atStart => exact ⟨0, by go_num, Nat.zero_le _, B5⟩
                  case round =>
                    obtain ⟨mm, rfl, hm, hbm⟩ := hrel
                    have hmi : (mm : Int) ≤ 1000000000000 := by omega
                    have CA2 := Lib.hid (CLA.out _ hbm.out)
                    have CX2 := Lib.hid (CLX.out _ hbm.out)
                    have a0 := blk_cell (j := 0) (v := .slice p1 t1.items.length c1) CA2.out rfl
                    have x0 := blk_cell (j := 0) (v := .slice p3 t1.items.length c3) CX2.out rfl
                    by_cases hml : mm < t1.items.length
                    · have hml' : (mm : Int) < (t1.items.length : Int) := by omega
                      have hm0 : (0 : Int) ≤ (mm : Int) := by omega
                      have hm1 : mm + 1 ≤ t1.items.length := hml
                      obtain ⟨b, o, rfl, hb, hx⟩ := HI1.out (by omega)
                      obtain ⟨b', o', rfl, hb', hy⟩ := HI3.out (by omega)
                      have hx := (hx mm hml).below hb hbm.out
                      have hy := (hy mm hml).below hb' hbm.out
                      generalize t1.items.getD mm default = xx at *
                      obtain ⟨y0, y1, y2, y3, _, _, _⟩ := hx
                      obtain ⟨z0, z1, z2, z3, _, _, _⟩ := hy
                      have e1 : (xx.nm != xx.nm) = false := by simp
                      have e2 : (xx.par != xx.par) = false := by simp
                      have e3 := fun w => rsv_neq xx.q xx.p w
                      clear hml
                      go_wp2_with fail
                      go_quiet (fail)
                      go_wp2_with fail
                      go_roundw
                      case rel => exact ⟨mm + 1, by go_num, hm1, Lib.hid (hbm.out.trans (Qt.below ⟨_, rfl⟩))⟩
                      case measure => show t1.items.length - ((mm : Int) + 1).toNat < t1.items.length - ((mm : Int)).toNat; omega
                    · obtain rfl : mm = t1.items.length := by omega
                      have hge3 : ¬ (t1.items.length : Int) < (t1.items.length : Int) := by omega
                      clear hml
                      go_wp2_with (go_at_call 12; refine (SU.out _ hbm.out).mono ?_; rintro e w3 ⟨rfl, b3⟩)
                      go_ret
                      exact ⟨rfl, FIN.out _ b3⟩
end Go.Proofs.YtophilmjfdhhaaaGreatDoor
