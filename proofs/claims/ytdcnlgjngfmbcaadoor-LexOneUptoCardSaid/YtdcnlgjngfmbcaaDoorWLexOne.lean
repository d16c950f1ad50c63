/- The walk of LexOne, where the text is short. (Printed by mkone.py.) -/
import Derived.Test.YtdcnlgjngfmbcaaDoorNw
import Derived.Test.YtdcnlgjngfmbcaaDoorNx
import Derived.Test.YtdcnlgjngfmbcaaDoorNy
import Derived.Test.YtdcnlgjngfmbcaaDoorNz
import Derived.Test.YtdcnlgjngfmbcaaDoorNu
namespace Go.Proofs.YtdcnlgjngfmbcaaDoor
open Go Go.RowKit Go.Shelf
set_option linter.unusedVariables false
set_option linter.unusedSimpArgs false
set_option maxRecDepth 100000
set_option maxHeartbeats 1600000

theorem dig_piece (r : Nat) (h : r < 10) : (⟨#[48, 49, 50, 51, 52, 53, 54, 55, 56, 57]⟩ : ByteArray).extract r (r + 1) = ⟨#[UInt8.ofNat (48 + r)]⟩ := by
  have : ∀ i : Fin 10, (⟨#[48, 49, 50, 51, 52, 53, 54, 55, 56, 57]⟩ : ByteArray).extract i.val (i.val + 1) = ⟨#[UInt8.ofNat (48 + i.val)]⟩ := by decide
  exact this ⟨r, h⟩
/-- What the first loop holds. -/
def DInv (l : List UInt8) (n M : Nat) (T : List UInt8) : Prop := (T = [] ∧ M = n) ∨ (T ≠ [] ∧ ((M = 0 ∧ T = l) ∨ (0 < M ∧ Lib.decDigits M ++ T = l)))
theorem DInv.step {l : List UInt8} {n M : Nat} {T : List UInt8} (hn : Lib.decDigits n = l) (h : DInv l n M T) (hg : T = [] ∨ 0 < M) : DInv l n (M / 10) (UInt8.ofNat (48 + M % 10) :: T) := by
  have hl : Lib.decDigits M ++ T = l := by
    rcases h with ⟨rfl, rfl⟩ | ⟨h1, ⟨h2, h3⟩ | ⟨_, h3⟩⟩
    · simpa using hn
    · rcases hg with h | h
      · exact absurd h h1
      · omega
    · exact h3
  refine .inr ⟨by simp, ?_⟩
  by_cases h10 : M < 10
  · refine .inl ⟨by omega, ?_⟩
    rw [Lib.decDigits_one h10] at hl
    rw [show M % 10 = M by omega, ← hl]; rfl
  · refine .inr ⟨by omega, ?_⟩
    have : Lib.decDigits M = Lib.decDigits (M / 10) ++ [UInt8.ofNat (48 + M % 10)] := by
      conv => lhs; rw [Lib.decDigits, dif_neg h10]
    rw [this] at hl
    rw [← hl]; simp
theorem DInv.done {l : List UInt8} {n M : Nat} {T : List UInt8} (h : DInv l n M T) (h1 : T ≠ []) (h2 : M = 0) : T = l := by
  rcases h with ⟨h, _⟩ | ⟨_, ⟨_, h⟩ | ⟨h, _⟩⟩
  · exact absurd h h1
  · exact h
  · omega
theorem DInv.len {l : List UInt8} {n M : Nat} {T : List UInt8} (h : DInv l n M T) : T.length ≤ l.length := by
  rcases h with ⟨rfl, _⟩ | ⟨_, ⟨_, rfl⟩ | ⟨_, h⟩⟩
  · simp
  · exact Nat.le_refl _
  · rw [← h]; simp
theorem cons_str (c : UInt8) (T : List UInt8) : (⟨#[c]⟩ : ByteArray) ++ ⟨T.toArray⟩ = ⟨(c :: T).toArray⟩ := by
  apply ByteArray.ext
  simp [ByteArray.data_append]
theorem app_str (a b : List UInt8) : (⟨a.toArray⟩ : ByteArray) ++ ⟨b.toArray⟩ = ⟨(a ++ b).toArray⟩ := by
  apply ByteArray.ext
  simp [ByteArray.data_append]
theorem pair_num {l : List UInt8} (h : (pairS l).2 = 0) : okP (pairS l).1.1 (pairS l).1.2 ∧ (numS l).2 = 4 := by
  unfold pairS at h ⊢
  cases hc : (cutAt 47 l).2 with
  | none => rw [hc] at h; simp at h
  | some r =>
    rw [hc] at h
    rw [if_neg (by simp)] at h ⊢
    refine ⟨?_, by rw [numS_slash (cut_some hc)]⟩
    unfold pairGo at h ⊢
    split at h
    · simp at h
    · split at h
      · simp at h
      · rename_i h1 h2
        rw [if_neg h1, if_neg h2]
        exact Decidable.byContradiction fun e => h2 (.inr (.inr e))
theorem path_ok {l : List UInt8} (h : (pathS l).2 = 0) : (pathS l).1 = splitC 47 [] l ∧ (splitC 47 [] l).length ≤ 8 ∧ ∀ k, k < (splitC 47 [] l).length → nmS ((splitC 47 [] l).getD k []) = true := by
  unfold pathS at h ⊢
  split at h
  · simp at h
  · split at h
    · simp at h
    · split at h
      · rename_i h1 h2 h3
        rw [if_neg h1, if_neg h2, if_pos h3]
        refine ⟨rfl, by omega, fun k hk => ?_⟩
        rw [List.all_eq_true] at h3
        exact h3 _ (by rw [List.getD, List.getElem?_eq_getElem hk]; exact List.getElem_mem hk)
      · simp at h
theorem eqX (n : Int) (w : World) : (binOp BinOp.eql 24 (errN n) .nilIface).run Tryd.prog w = .ok (.bool false) w := by kernel_rfl
theorem neX (n : Int) (w : World) : (binOp BinOp.neq 24 (errN n) .nilIface).run Tryd.prog w = .ok (.bool true) w := by kernel_rfl
theorem errOfX {n : Int} (h : n ≠ 0) : errOf n = errN n := if_neg h
theorem lexOne_walk (s : ByteArray) (hs : s.size ≤ 1048576) (W : World) (E : Env W) :
    Calls Tryd.prog 8 #[.string s] W fun e w' => e = .returned (.bool true) ∧ Below W.heap.size W w' := by
  obtain ⟨l, rfl⟩ : ∃ l : List UInt8, s = ⟨l.toArray⟩ := ⟨_, of_str s⟩
  rw [sz] at hs
  have EE := Lib.hid E
  have C1 := Lib.hid (num_l l W (by omega))
  have C2 := Lib.hid (fun w (h : Env w) => path_any l w h (by omega))
  have C3 := Lib.hid (fun w (h : Env w) => pair_any l w h (by omega))
  have NC := Lib.hid (fun (x : List UInt8) w (h : x.length ≤ 140737488355328) => (show Calls Tryd.prog 26 #[str x] w (fun e w' => e = .returned (.bool (nmS x)) ∧ Below w.heap.size w w') from name_any ⟨x.toArray⟩ w (by rw [sz]; exact h)))
  have PN := Lib.hid (pair_num (l := l))
  have PO := Lib.hid (path_ok (l := l))
  have ND := Lib.hid (fun n (h : numS l = (n, 0)) => numS_digits h)
  have JS := Lib.hid (show Lib.join (splitC 47 [] l) [47] = l by rw [join_split]; rfl)
  have JT := Lib.hid (join_takeC 47 (splitC 47 [] l))
  have SS := Lib.hid (split_sz l)
  have SN := Lib.hid (show 1 ≤ (splitC 47 [] l).length from split_ne 47 l [])
  have WC := Lib.hid works_c
  have HL := Lib.hid hs
  have xe := eqX
  have xn := neX
  have q0 := eqN
  have n0 := ne0
  clear E hs
  generalize numS l = N at *
  generalize pathS l = PA at *
  generalize pairS l = PR at *
  generalize splitC 47 [] l = P at *
  obtain ⟨nn, ne⟩ := N
  simp only at *
  go_enter Tryd.func8, Tryd.ntmps8
  go_wp2_with fail
  refine C1.out.mono ?_
  rintro e w1 ⟨rfl, b1⟩
  have B1 := Lib.hid b1
  clear b1 C1
  by_cases hne : ne = 0
  · subst hne
    obtain ⟨m0, rfl, hm0, hdg⟩ := ND.out nn rfl
    have HD : Hid (DInv l m0 m0 []) := Lib.hid (.inl ⟨rfl, rfl⟩)
    have HDG := Lib.hid hdg
    have hm0i : (m0 : Int) ≤ 2147483647 := by omega
    rw [errOf0]
    clear ND hdg
    go_wp2_with fail
    go_loopw [5, 6] (fun t m wr => ∃ (T : List UInt8) (M : Nat), t = str T ∧ m = .int .i64 M ∧ M ≤ 2147483647 ∧ wr = w1 ∧ Hid (DInv l m0 M T)) (fun t m _ => (intOf m).toNat * 2 + (if strLen t = 0 then 1 else 0))
    case atStart => exact ⟨[], m0, rfl, rfl, hm0, rfl, HD⟩
    case round =>
      obtain ⟨T, M, rfl, rfl, hM, rfl, hd⟩ := hrel
      have hT : T.length ≤ 1048576 := by have := hd.out.len; have := HL.out; omega
      have hMi : (M : Int) ≤ 2147483647 := by omega
      by_cases hgo : T = [] ∨ 0 < M
      · have NX := Lib.hid (hd.out.step HDG.out hgo)
        have PC := dig_piece (M % 10) (Nat.mod_lt _ (by decide))
        have n1 : ¬ 9223372036854775807 < 1 + T.length := by omega
        have hm10 : (M : Int) % 10 < 10 := by omega
        have hm0 : 0 ≤ (M : Int) % 10 := by omega
        have ms : M / 10 * 2 < M * 2 + (if T = [] then 1 else 0) := by
          by_cases hT : T = []
          · rw [if_pos hT]; omega
          · rw [if_neg hT]
            rcases hgo with h | h
            · exact absurd h hT
            · omega
        have MS := Lib.hid ms
        clear ms
        generalize hc : UInt8.ofNat (48 + M % 10) = c at *
        clear hc
        by_cases hTn : T = []
        · subst hTn
          clear hgo
          go_wp2_with fail
          go_roundw
          case rel => exact ⟨c :: [], M / 10, congrArg Value.string (cons_str c []), by go_num, by omega, trivial, NX⟩
          case measure =>
            have h1 := MS.out
            have h2 : strLen (Value.string ((⟨#[c]⟩ : ByteArray) ++ ⟨([] : List UInt8).toArray⟩)) = 0 + 1 := by rw [cons_str]; exact sz _
            rw [h2, if_neg (by omega)]
            show ((M : Int) / 10).toNat * 2 + 0 < ((M : Int)).toNat * 2 + _
            rw [if_pos rfl] at h1
            rw [if_pos (by rfl)]; omega
        · have hMp : (0 : Int) < (M : Int) := by rcases hgo with h | h; exact absurd h hTn; omega
          have hMd : decide ((0 : Int) < (M : Int)) = true := decide_eq_true hMp
          obtain ⟨b0, r0, hbr⟩ : ∃ b r, T = b :: r := by cases T with | nil => exact absurd rfl hTn | cons b r => exact ⟨b, r, rfl⟩
          have he : (⟨T.toArray⟩ : ByteArray).toList.isEmpty = false := by rw [ByteArray.toList_eq, hbr]; rfl
          have HT := Lib.hid hTn
          clear hgo hTn hbr
          go_wp2_with fail
          go_roundw
          case rel => exact ⟨c :: T, M / 10, congrArg Value.string (cons_str c T), by go_num, by omega, trivial, NX⟩
          case measure =>
            have h1 := MS.out
            have h2 : strLen (Value.string ((⟨#[c]⟩ : ByteArray) ++ ⟨T.toArray⟩)) = T.length + 1 := by rw [cons_str]; exact sz _
            rw [h2, if_neg (by omega)]
            show ((M : Int) / 10).toNat * 2 + 0 < ((M : Int)).toNat * 2 + _
            by_cases hT : T = []
            · rw [if_pos hT] at h1; subst hT; rw [if_pos (by rfl)]; omega
            · rw [if_neg hT] at h1; omega
      · have hTn : T ≠ [] := fun h => hgo (.inl h)
        have hM0 : M = 0 := by omega
        have hTl := hd.out.done hTn hM0
        have hMp : ¬ (0 : Int) < (M : Int) := by omega
        have hMd : decide ((0 : Int) < (M : Int)) = false := decide_eq_false hMp
        obtain ⟨b0, r0, rfl⟩ : ∃ b r, T = b :: r := by cases T with | nil => exact absurd rfl hTn | cons b r => exact ⟨b, r, rfl⟩
        have he : (⟨(b0 :: r0).toArray⟩ : ByteArray).toList.isEmpty = false := by rw [ByteArray.toList_eq]; rfl
        have hnn : ¬ (m0 : Int) < 0 := by omega
        have hll0 : ((b0 :: r0) != l) = false := by rw [hTl]; simp
        clear hgo hTn hd hM0 hM hMi hll0
        subst hTl
        go_wp2_with fail
        refine (C2.out _ (EE.out.below B1.out)).mono ?_
        rintro e w2 ⟨v, rfl, r2, b2⟩
        have B2 := Lib.hid (B1.out.trans (b2.mono B1.out.size))
        clear b2
        by_cases hp : PA.2 = 0
        · obtain ⟨p1, p2, p3⟩ := PO.out hp
          rw [p1] at r2
          have P3 := Lib.hid p3
          have hP8 : (P.length : Int) ≤ 8 := by omega
          have hP1 : ¬ (P.length : Int) < 1 := by have := SN.out; omega
          have hP8d : decide ((8 : Int) < (P.length : Int)) = false := decide_eq_false (by omega)
          obtain ⟨pp, pc, rfl, hr⟩ := RS.out r2
          have HR := Lib.hid hr
          rw [hp, errOf0]
          clear hp p1 p2 p3 r2 hr PO
          go_wp2_with fail
          go_loopw [9, 10] (fun t i wr => ∃ k : Nat, t = str (Lib.join (P.take k) [47]) ∧ i = .int .i64 k ∧ k ≤ P.length ∧ (Lib.join (P.take k) [47]).length ≤ k * 1048577 ∧ Below w2.heap.size w2 wr) (fun _ i _ => P.length - (intOf i).toNat)
          case atStart => exact ⟨0, rfl, by go_num, Nat.zero_le _, by simp [Lib.join_nil], Below.refl _ _⟩
          case round =>
            obtain ⟨k, rfl, rfl, hk, hjl, hbe⟩ := hrel
            have hkb : (k : Int) ≤ 8 := by omega
            by_cases hlt : k < P.length
            rotate_left
            · obtain rfl : k = P.length := by omega
              have hk' : ¬ (P.length : Int) < (P.length : Int) := by omega
              have hJ : Lib.join (P.take P.length) [47] = _ := (congrArg (fun x => Lib.join x [47]) (List.take_length (l := P))).trans JS.out
              have BX := Lib.hid (B2.out.trans (hbe.mono B2.out.size))
              rw [hJ]
              clear hlt hjl hbe hJ
              go_wp2_with fail
              refine (C3.out _ (EE.out.below BX.out)).mono ?_
              rintro e w5 ⟨rfl, b5⟩
              have BA : Hid (Below W.heap.size W (w5.alloc (.cells #[.int .i64 PR.1.1, .int .i64 PR.1.2] 56))) := Lib.hid ((BX.out.trans (b5.mono BX.out.size)).alloc (BX.out.trans (b5.mono BX.out.size)).size _)
              clear b5
              by_cases hg : PR.2 = 0
              · exfalso
                have := (PN.out hg).2
                omega
              · rw [errOfX hg]
                go_wp2_with fail
                refine (WC.out _ (EE.out.below BA.out)).mono ?_
                rintro e w8 ⟨rfl, b8⟩
                have B8 := Lib.hid (BA.out.trans (b8.mono BA.out.size))
                clear b8
                go_wp2_with fail
                go_ret
                exact ⟨rfl, B8.out⟩
            · have hk' : (k : Int) < (P.length : Int) := by omega
              obtain ⟨b, o, rfl, hb, g0⟩ := HR.out k hlt
              have g := (hbe.cell (p := ⟨b, o + k, none⟩) hb).trans g0
              have JK := Lib.hid (JT.out k hlt)
              have xl : (P.getD k []).length ≤ 1048576 := by have := SS.out k hlt; have := HL.out; omega
              have nm := P3.out k hlt
              have NK := Lib.hid (fun w => NC.out (P.getD k []) w (by omega))
              rw [nm] at NK
              have HBE := Lib.hid hbe
              generalize P.getD k [] = x at *
              have JL2 : Hid ((Lib.join (P.take (k + 1)) [47]).length ≤ (k + 1) * 1048577) := Lib.hid (by rw [JK.out]; by_cases hz : k = 0; (rw [if_pos hz]; omega); (rw [if_neg hz, List.length_append, List.length_append]; show _ + 1 + _ ≤ _; omega))
              have hkk : k * 1048577 ≤ 8 * 1048577 := Nat.mul_le_mul_right _ (by omega)
              have J00 : Hid (k = 0 → Lib.join (P.take k) [47] = []) := Lib.hid (fun h => by subst h; rfl)
              generalize hJ0 : Lib.join (P.take k) [47] = J0 at *
              have n1 : ¬ 9223372036854775807 < J0.length + 1 := by omega
              have n2 : ¬ 9223372036854775807 < J0.length + 1 + x.length := by omega
              have n3 : ¬ 9223372036854775807 < J0.length + x.length := by omega
              clear nm hlt hbe g0 hJ0 hjl hkk xl
              by_cases hz : k = 0
              · have hz' : ¬ (0 : Int) < (k : Int) := by omega
                have HZ := Lib.hid hz
                clear hz
                go_wp2_with fail
                refine (NK.out _).mono ?_
                rintro e w3 ⟨rfl, b3⟩
                have B33 := Lib.hid (HBE.out.trans (b3.mono HBE.out.size))
                clear b3
                go_wp2_with fail
                go_roundw
                case rel => exact ⟨k + 1, by rw [JK.out, if_pos HZ.out]; exact congrArg Value.string (by rw [J00.out HZ.out, app_str]; rfl), by go_num, by omega, JL2.out, B33.out⟩
                case measure => show P.length - ((k : Int) + 1).toNat < P.length - ((k : Int)).toNat; omega
              · have hz' : (0 : Int) < (k : Int) := by omega
                have HZ := Lib.hid hz
                clear hz
                go_wp2_with fail
                refine (NK.out _).mono ?_
                rintro e w3 ⟨rfl, b3⟩
                have B33 := Lib.hid (HBE.out.trans (b3.mono HBE.out.size))
                clear b3
                go_wp2_with fail
                go_roundw
                case rel => exact ⟨k + 1, by rw [JK.out, if_neg HZ.out]; exact congrArg Value.string (by rw [show (⟨#[47]⟩ : ByteArray) = ⟨[47].toArray⟩ from rfl, app_str, app_str]), by go_num, by omega, JL2.out, B33.out⟩
                case measure => show P.length - ((k : Int) + 1).toNat < P.length - ((k : Int)).toNat; omega
        · have BX := B2
          rw [errOfX hp]
          clear r2 B2
          go_wp2_with fail
          refine (C3.out _ (EE.out.below BX.out)).mono ?_
          rintro e w5 ⟨rfl, b5⟩
          have BA : Hid (Below W.heap.size W (w5.alloc (.cells #[.int .i64 PR.1.1, .int .i64 PR.1.2] 56))) := Lib.hid ((BX.out.trans (b5.mono BX.out.size)).alloc (BX.out.trans (b5.mono BX.out.size)).size _)
          clear b5
          by_cases hg : PR.2 = 0
          · exfalso
            have := (PN.out hg).2
            omega
          · rw [errOfX hg]
            go_wp2_with fail
            refine (WC.out _ (EE.out.below BA.out)).mono ?_
            rintro e w8 ⟨rfl, b8⟩
            have B8 := Lib.hid (BA.out.trans (b8.mono BA.out.size))
            clear b8
            go_wp2_with fail
            go_ret
            exact ⟨rfl, B8.out⟩
  · rw [errOfX hne]
    clear ND
    go_wp2_with fail
    refine (C2.out _ (EE.out.below B1.out)).mono ?_
    rintro e w2 ⟨v, rfl, r2, b2⟩
    have B2 := Lib.hid (B1.out.trans (b2.mono B1.out.size))
    clear b2
    by_cases hp : PA.2 = 0
    · obtain ⟨p1, p2, p3⟩ := PO.out hp
      rw [p1] at r2
      have P3 := Lib.hid p3
      have hP8 : (P.length : Int) ≤ 8 := by omega
      have hP1 : ¬ (P.length : Int) < 1 := by have := SN.out; omega
      have hP8d : decide ((8 : Int) < (P.length : Int)) = false := decide_eq_false (by omega)
      obtain ⟨pp, pc, rfl, hr⟩ := RS.out r2
      have HR := Lib.hid hr
      rw [hp, errOf0]
      clear hp p1 p2 p3 r2 hr PO
      go_wp2_with fail
      go_loopw [9, 10] (fun t i wr => ∃ k : Nat, t = str (Lib.join (P.take k) [47]) ∧ i = .int .i64 k ∧ k ≤ P.length ∧ (Lib.join (P.take k) [47]).length ≤ k * 1048577 ∧ Below w2.heap.size w2 wr) (fun _ i _ => P.length - (intOf i).toNat)
      case atStart => exact ⟨0, rfl, by go_num, Nat.zero_le _, by simp [Lib.join_nil], Below.refl _ _⟩
      case round =>
        obtain ⟨k, rfl, rfl, hk, hjl, hbe⟩ := hrel
        have hkb : (k : Int) ≤ 8 := by omega
        by_cases hlt : k < P.length
        rotate_left
        · obtain rfl : k = P.length := by omega
          have hk' : ¬ (P.length : Int) < (P.length : Int) := by omega
          have hJ : Lib.join (P.take P.length) [47] = _ := (congrArg (fun x => Lib.join x [47]) (List.take_length (l := P))).trans JS.out
          have BX := Lib.hid (B2.out.trans (hbe.mono B2.out.size))
          rw [hJ]
          clear hlt hjl hbe hJ
          go_wp2_with fail
          refine (C3.out _ (EE.out.below BX.out)).mono ?_
          rintro e w5 ⟨rfl, b5⟩
          have BA : Hid (Below W.heap.size W (w5.alloc (.cells #[.int .i64 PR.1.1, .int .i64 PR.1.2] 56))) := Lib.hid ((BX.out.trans (b5.mono BX.out.size)).alloc (BX.out.trans (b5.mono BX.out.size)).size _)
          clear b5
          by_cases hg : PR.2 = 0
          · obtain ⟨⟨o1, o2, o3⟩, _⟩ := PN.out hg
            have d1 : (1 : Int) ≤ PR.1.1 := o1
            have d1' : decide ((1 : Int) ≤ PR.1.1) = true := decide_eq_true o1
            have d2' : decide (PR.1.1 ≤ PR.1.2) = true := decide_eq_true o2
            have d3' : decide (PR.1.2 ≤ 1048576) = true := decide_eq_true o3
            rw [hg, errOf0]
            go_wp2_with fail
            refine (WC.out _ (EE.out.below BA.out)).mono ?_
            rintro e w8 ⟨rfl, b8⟩
            have B8 := Lib.hid (BA.out.trans (b8.mono BA.out.size))
            clear b8
            go_wp2_with fail
            go_ret
            exact ⟨rfl, B8.out⟩
          · rw [errOfX hg]
            go_wp2_with fail
            refine (WC.out _ (EE.out.below BA.out)).mono ?_
            rintro e w8 ⟨rfl, b8⟩
            have B8 := Lib.hid (BA.out.trans (b8.mono BA.out.size))
            clear b8
            go_wp2_with fail
            go_ret
            exact ⟨rfl, B8.out⟩
        · have hk' : (k : Int) < (P.length : Int) := by omega
          obtain ⟨b, o, rfl, hb, g0⟩ := HR.out k hlt
          have g := (hbe.cell (p := ⟨b, o + k, none⟩) hb).trans g0
          have JK := Lib.hid (JT.out k hlt)
          have xl : (P.getD k []).length ≤ 1048576 := by have := SS.out k hlt; have := HL.out; omega
          have nm := P3.out k hlt
          have NK := Lib.hid (fun w => NC.out (P.getD k []) w (by omega))
          rw [nm] at NK
          have HBE := Lib.hid hbe
          generalize P.getD k [] = x at *
          have JL2 : Hid ((Lib.join (P.take (k + 1)) [47]).length ≤ (k + 1) * 1048577) := Lib.hid (by rw [JK.out]; by_cases hz : k = 0; (rw [if_pos hz]; omega); (rw [if_neg hz, List.length_append, List.length_append]; show _ + 1 + _ ≤ _; omega))
          have hkk : k * 1048577 ≤ 8 * 1048577 := Nat.mul_le_mul_right _ (by omega)
          have J00 : Hid (k = 0 → Lib.join (P.take k) [47] = []) := Lib.hid (fun h => by subst h; rfl)
          generalize hJ0 : Lib.join (P.take k) [47] = J0 at *
          have n1 : ¬ 9223372036854775807 < J0.length + 1 := by omega
          have n2 : ¬ 9223372036854775807 < J0.length + 1 + x.length := by omega
          have n3 : ¬ 9223372036854775807 < J0.length + x.length := by omega
          clear nm hlt hbe g0 hJ0 hjl hkk xl
          by_cases hz : k = 0
          · have hz' : ¬ (0 : Int) < (k : Int) := by omega
            have HZ := Lib.hid hz
            clear hz
            go_wp2_with fail
            refine (NK.out _).mono ?_
            rintro e w3 ⟨rfl, b3⟩
            have B33 := Lib.hid (HBE.out.trans (b3.mono HBE.out.size))
            clear b3
            go_wp2_with fail
            go_roundw
            case rel => exact ⟨k + 1, by rw [JK.out, if_pos HZ.out]; exact congrArg Value.string (by rw [J00.out HZ.out, app_str]; rfl), by go_num, by omega, JL2.out, B33.out⟩
            case measure => show P.length - ((k : Int) + 1).toNat < P.length - ((k : Int)).toNat; omega
          · have hz' : (0 : Int) < (k : Int) := by omega
            have HZ := Lib.hid hz
            clear hz
            go_wp2_with fail
            refine (NK.out _).mono ?_
            rintro e w3 ⟨rfl, b3⟩
            have B33 := Lib.hid (HBE.out.trans (b3.mono HBE.out.size))
            clear b3
            go_wp2_with fail
            go_roundw
            case rel => exact ⟨k + 1, by rw [JK.out, if_neg HZ.out]; exact congrArg Value.string (by rw [show (⟨#[47]⟩ : ByteArray) = ⟨[47].toArray⟩ from rfl, app_str, app_str]), by go_num, by omega, JL2.out, B33.out⟩
            case measure => show P.length - ((k : Int) + 1).toNat < P.length - ((k : Int)).toNat; omega
    · have BX := B2
      rw [errOfX hp]
      clear r2 B2
      go_wp2_with fail
      refine (C3.out _ (EE.out.below BX.out)).mono ?_
      rintro e w5 ⟨rfl, b5⟩
      have BA : Hid (Below W.heap.size W (w5.alloc (.cells #[.int .i64 PR.1.1, .int .i64 PR.1.2] 56))) := Lib.hid ((BX.out.trans (b5.mono BX.out.size)).alloc (BX.out.trans (b5.mono BX.out.size)).size _)
      clear b5
      by_cases hg : PR.2 = 0
      · obtain ⟨⟨o1, o2, o3⟩, _⟩ := PN.out hg
        have d1 : (1 : Int) ≤ PR.1.1 := o1
        have d1' : decide ((1 : Int) ≤ PR.1.1) = true := decide_eq_true o1
        have d2' : decide (PR.1.1 ≤ PR.1.2) = true := decide_eq_true o2
        have d3' : decide (PR.1.2 ≤ 1048576) = true := decide_eq_true o3
        rw [hg, errOf0]
        go_wp2_with fail
        refine (WC.out _ (EE.out.below BA.out)).mono ?_
        rintro e w8 ⟨rfl, b8⟩
        have B8 := Lib.hid (BA.out.trans (b8.mono BA.out.size))
        clear b8
        go_wp2_with fail
        go_ret
        exact ⟨rfl, B8.out⟩
      · rw [errOfX hg]
        go_wp2_with fail
        refine (WC.out _ (EE.out.below BA.out)).mono ?_
        rintro e w8 ⟨rfl, b8⟩
        have B8 := Lib.hid (BA.out.trans (b8.mono BA.out.size))
        clear b8
        go_wp2_with fail
        go_ret
        exact ⟨rfl, B8.out⟩
end Go.Proofs.YtdcnlgjngfmbcaaDoor
