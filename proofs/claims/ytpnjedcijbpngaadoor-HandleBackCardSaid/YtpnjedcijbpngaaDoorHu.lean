/- Unpack of package handle and of its reference: the handles of bytes. -/
import Derived.Test.YtpnjedcijbpngaaDoorHt
import Derived.Test.YtpnjedcijbpngaaDoorHn
import Derived.Lib.ConvBytes
namespace Go.Proofs.YtpnjedcijbpngaaDoor
open Go Go.RowKit Go.Shelf Go.Sort
set_option maxHeartbeats 800000
set_option maxRecDepth 100000
set_option linter.unusedVariables false

/-- The number of bytes, the first the greatest. -/
def numB (d : List UInt8) : Int := d.foldl (fun h c => h * 256 + (c.toNat : Int)) 0
theorem numB_snoc (d : List UInt8) (c : UInt8) : numB (d ++ [c]) = numB d * 256 + (c.toNat : Int) := by simp [numB]
theorem numB_bound' (d : List UInt8) (n : Int) (m : Nat) (h0 : 0 ≤ n) (h1 : n < 256 ^ m) :
    0 ≤ d.foldl (fun h c => h * 256 + (c.toNat : Int)) n ∧ d.foldl (fun h c => h * 256 + (c.toNat : Int)) n < 256 ^ (m + d.length) := by
  induction d generalizing n m with
  | nil => exact ⟨h0, h1⟩
  | cons c r ih =>
    have hc : c.toNat < 256 := c.toNat_lt
    have h2 := ih (n * 256 + (c.toNat : Int)) (m + 1) (by omega) (by rw [Int.pow_succ]; omega)
    rw [List.foldl_cons, List.length_cons, show m + (r.length + 1) = m + 1 + r.length by omega]
    exact h2
theorem numB_bound (d : List UInt8) (m : Nat) (h : d.length ≤ m) : 0 ≤ numB d ∧ numB d < 256 ^ m := by
  have h1 := numB_bound' d 0 0 (by omega) (by decide)
  rw [Nat.zero_add] at h1
  have h2 : (256 : Nat) ^ d.length ≤ 256 ^ m := Nat.pow_le_pow_right (by decide) h
  have h3 : (((256 : Nat) ^ d.length : Nat) : Int) ≤ ((256 ^ m : Nat) : Int) := Int.ofNat_le.2 h2
  have h4 : (256 : Int) ^ d.length ≤ 256 ^ m := by simpa using h3
  exact ⟨h1.1, Int.lt_of_lt_of_le h1.2 h4⟩
/-- The k-th handle of a text. -/
def hAt (l : List UInt8) (k : Nat) : Int := numB ((l.drop (6 * k)).take 6)
def unI (l : List UInt8) (n : Nat) : List Int := (List.range n).map (hAt l)
theorem unI_snoc (l : List UInt8) (k : Nat) : unI l (k + 1) = unI l k ++ [hAt l k] := by simp [unI, List.range_succ]
theorem unI_mem (l : List UInt8) {k n : Nat} (h : k < n) : hAt l k ∈ unI l n := by unfold unI; exact List.mem_map.2 ⟨k, List.mem_range.2 h, rfl⟩
def unR (l : List UInt8) (n : Nat) : List Int × Int := if ∀ h ∈ unI l n, pOk h then (unI l n, 0) else ([], 20)
theorem Tryd.infoH : (Tryd.prog.info? 22).map (fun i => (i.zero, i.size, i.bytes)) = some (some (.int .i64 0), 1, 8) := by kernel_rfl
theorem own_nextH {w : World} {B m n : Nat} {v : Value} {ys zs : List Int} {y : Int} (h : w.ownsRow B 22 1 v m (ys.map (Value.int .i64) ++ [.int .i64 y])) (e : zs = ys ++ [y]) (hn : n = m) : w.ownsRow B 22 1 v n (zs.map (Value.int .i64)) := by
  subst e hn; simpa using h
/-- A slice and the number of an error, in a world. -/
def UnPost (l : List UInt8) (n : Nat) (W : World) (err : Int → Value) (e : Ending) (w' : World) : Prop :=
  ∃ v, e = .returned (.tuple #[v, err (unR l n).2]) ∧ RI w' v (unR l n).1 ∧ Below W.heap.size W w'

theorem own_below {w w' : World} {B : Nat} {e : TypeId} {size : Nat} {v : Value} {n : Nat} {xs : List Value} (h : w.ownsRow B e size v n xs) (hb : Below w.heap.size w w') : w'.ownsRow B e size v n xs := by
  obtain ⟨h1, h2⟩ := h
  refine ⟨h1, ?_⟩
  rcases h2 with h2 | ⟨g, cap, cur, hv, hg, hh, r⟩
  · exact .inl h2
  · have hlt : g < w.heap.size := by
      rcases Nat.lt_or_ge g w.heap.size with h | h
      · exact h
      · rw [Array.getElem?_eq_none h] at hh; cases hh
    exact .inr ⟨g, cap, cur, hv, hg, by rw [hb.block g hlt]; exact hh, r⟩

theorem unpack_s (s : ByteArray) (n : Nat) (W : World) (hs : s.size = 6 * n) (hn : n ≤ 4096) :
    Calls Tryd.prog 29 #[.string s] W (UnPost s.data.toList n W errOf) := by
  obtain ⟨i0, hi, hz0, hz1, hz2⟩ := info_parts Tryd.infoH
  have h1 : s.size ≤ 24576 := by omega
  have h2 : ((s.size : Int) % 6 != 0) = false := by rw [hs]; simp
  have HS := Lib.hid hs; clear hs
  have hcv := fun (w : World) (s : ByteArray) => Lib.run_convert_string_bytes (P := Tryd.prog) w 9 67 5 s Tryd.underlying9 Tryd.underlying67 Tryd.underlying5
  go_enter Tryd.func29, Tryd.ntmps29
  go_wp2_with fail
  go_loopw [4, 5] (fun v i wr => ∃ k : Nat, k ≤ n ∧ i = .int .i64 (6 * k) ∧ Hid (∀ h ∈ unI s.data.toList k, pOk h) ∧ wr.ownsRow W.heap.size 22 1 v k ((unI s.data.toList k).map (Value.int .i64)) ∧ Below W.heap.size W wr) (fun _ i _ => s.size - (intOf i).toNat)
  case atStart => exact ⟨0, Nat.zero_le _, rfl, by intro h hh; simp [unI] at hh, World.ownsRow_nil _ _ _ _, Below.refl _ _⟩
  case round =>
    obtain ⟨k, hk, rfl, hall, hown, hbe⟩ := hrel
    by_cases hlt : k < n
    · have h3 : 6 * k + 6 ≤ s.size := by rw [HS.out]; omega
      have hkb : k < 4096 := by omega
      have hbl : ((s.data.toList.drop (6 * k)).take 6).length = 6 := by have := size_list s; simp; omega
      have HA : Hid (hAt s.data.toList k = numB ((s.data.toList.drop (6 * k)).take 6)) := rfl
      have hx : (s.extract (6 * k) (6 * k + 6)).data.toList = (s.data.toList.drop (6 * k)).take 6 := by rw [Lib.extract_data, show 6 * k + 6 - 6 * k = 6 by omega]
      have hxs : (s.extract (6 * k) (6 * k + 6)).size = 6 := by rw [Lib.size_eq, hx, hbl]
      have hcells : ∀ j, j < 6 → (Lib.bytesWorld wr 5 (s.extract (6 * k) (6 * k + 6))).cell? ⟨wr.heap.size, j, none⟩ = some (.int .u8 (((s.data.toList.drop (6 * k)).take 6).getD j 0).toNat) := by
        intro j hj
        have := Lib.bytesWorld_cell wr 5 (s.extract (6 * k) (6 * k + 6)) j (by omega)
        rwa [hx] at this
      have HC := Lib.hid hcells; clear hcells hx hxs
      have hown2 : (Lib.bytesWorld wr 5 (s.extract (6 * k) (6 * k + 6))).ownsRow W.heap.size 22 1 _ k ((unI s.data.toList k).map (Value.int .i64)) := own_below hown (Joins.below_bytesWorld wr.heap.size wr _ _ (Nat.le_refl _))
      have hbe2 := hbe.trans ((Joins.below_bytesWorld wr.heap.size wr 5 (s.extract (6 * k) (6 * k + 6)) (Nat.le_refl _)).mono hbe.size)
      clear hown hbe
      generalize (s.data.toList.drop (6 * k)).take 6 = bs at *
      go_wp2_with fail
      generalize Lib.bytesWorld wr 5 (s.extract (6 * k) (6 * k + 6)) = X at *
      go_loop [6, 33] (fun h i => ∃ j : Nat, j ≤ 6 ∧ i = .int .i64 j ∧ h = .int .i64 (numB (bs.take j))) (fun _ i => 6 - (intOf i).toNat)
      case atStart => exact ⟨0, by omega, rfl, rfl⟩
      case round =>
        obtain ⟨j, hj, rfl, rfl⟩ := hrel
        by_cases hj6 : j < 6
        · have hcx := HC.out j hj6
          have hb := numB_bound (bs.take j) 5 (by simp; omega)
          have SN : Hid (numB (bs.take (j + 1)) = numB (bs.take j) * 256 + ((bs.getD j 0).toNat : Int)) := by
            show _ = _
            rw [List.take_succ_eq_append_getElem (by omega), numB_snoc, List.getD, List.getElem?_eq_getElem (by omega)]
            rfl
          have hc0 : (bs.getD j 0).toNat < 256 := (bs.getD j 0).toNat_lt
          generalize numB (bs.take j) = h at *
          generalize (bs.getD j 0).toNat = c at *
          have b0 := hb.1
          have b1 : h < 1099511627776 := hb.2
          have OR := Lib.hid (or_at 8 (h * 256) c (by decide) (by omega) (by omega) (by omega) (by omega) (by omega))
          clear hb
          go_wp2_with fail
          go_round
          case rel => exact ⟨j + 1, by omega, by go_num, by rw [SN.out, OR.out]⟩
          case measure => simp [intOf]; omega
        · have ej : bs.take j = bs := List.take_of_length_le (by omega)
          rw [ej]
          clear ej
          generalize numB bs = h at *
          by_cases hp : pOk h
          case neg =>
            have hz : (h != 0) = true := by simp; exact fun z => hp (.inl z)
            have VV := Lib.hid (fun v : HV h => hp (.inr v))
            have R : unR s.data.toList n = ([], 20) := if_neg (fun a => hp (by have := a _ (unI_mem s.data.toList hlt); rwa [HA.out] at this))
            have RR := Lib.hid R
            clear R hp
            go_wp2_with (go_at_call 19; refine (valid_f _ VV.out).mono ?_; rintro e w' ⟨rfl, rfl⟩)
            go_ret2
            refine ⟨.slice none 0 0, by rw [RR.out]; rfl, by rw [RR.out]; exact RI_nil _, hbe2⟩
          have hall' : Hid (∀ h ∈ unI s.data.toList (k + 1), pOk h) := by
            intro x hx
            rw [unI_snoc, List.mem_append, List.mem_singleton] at hx
            rcases hx with hx | rfl
            · exact hall x hx
            · rw [HA.out]; exact hp
          have hz : ((h != 0) = false) ∨ ((h != 0) = true ∧ HV h) := by
            by_cases z : h = 0
            · exact .inl (by simp [z])
            · exact .inr ⟨by simp [z], hp.resolve_left z⟩
          clear hp
          have hB := hbe2.size
          rcases hz with hz | ⟨hz, vv⟩
          all_goals
            try have VV := Lib.hid vv; clear vv
            go_wp2_with (first | (go_at_call 19; refine (valid_t _ VV.out).mono ?_; rintro e w' ⟨rfl, rfl⟩) | (at_builtin; refine append1 rfl _ _ 42 rfl W.heap.size 22 i0 (.int .i64 0) 8 Tryd.underlying42 hi hz0 hz1 hz2 rfl _ _ _ rfl hown2 _ _ rfl rfl (by unfold maxLen; omega) (by omega) (by omega) hbe2 ?_; intro v' w3 hown3 hbe3))
            go_roundw
            case rel => exact ⟨k + 1, by omega, by go_num, hall', own_nextH hown3 (by rw [unI_snoc, HA.out]) rfl, hbe3⟩
            case measure => simp [intOf]; omega
    · have h3 : ¬ 6 * k < s.size := by rw [HS.out]; omega
      have ek : k = n := by omega
      subst ek
      have R : unR s.data.toList k = (unI s.data.toList k, 0) := if_pos hall
      have RR := Lib.hid R
      have ho := Lib.hid (RI_own hown)
      clear R hown
      go_wp2_with fail
      go_ret2
      exact ⟨_, by rw [RR.out]; rfl, by rw [RR.out]; exact ho.out, hbe⟩

theorem unpack_s_long (s : ByteArray) (W : World) (h : 24576 < s.size) :
    Calls Tryd.prog 29 #[.string s] W fun e w' => e = .returned (.tuple #[.slice none 0 0, errOf 3]) ∧ Below W.heap.size W w' := by
  go_enter Tryd.func29, Tryd.ntmps29
  go_wp2_with fail
  go_ret2
  exact ⟨rfl, Below.refl _ _⟩
theorem unpack_s_form (s : ByteArray) (W : World) (h : s.size ≤ 24576) (h6 : s.size % 6 ≠ 0) :
    Calls Tryd.prog 29 #[.string s] W fun e w' => e = .returned (.tuple #[.slice none 0 0, errOf 4]) ∧ Below W.heap.size W w' := by
  have h2 : ((s.size : Int) % 6 != 0) = true := by simp; omega
  clear h6
  go_enter Tryd.func29, Tryd.ntmps29
  go_wp2_with fail
  go_ret2
  exact ⟨rfl, Below.refl _ _⟩

theorem runpack_s (s : ByteArray) (n : Nat) (W : World) (hs : s.size = 6 * n) (hn : n ≤ 4096) :
    Calls Tryd.prog 30 #[.string s] W (UnPost s.data.toList n W (Value.int .i64)) := by
  obtain ⟨i0, hi, hz0, hz1, hz2⟩ := info_parts Tryd.infoH
  have h1 : s.size ≤ 24576 := by omega
  have h2 : ((s.size : Int) % 6 != 0) = false := by rw [hs]; simp
  have HS := Lib.hid hs; clear hs
  go_enter Tryd.func30, Tryd.ntmps30
  go_wp2_with fail
  go_loopw [4, 5] (fun v i wr => ∃ k : Nat, k ≤ n ∧ i = .int .i64 (6 * k) ∧ Hid (∀ h ∈ unI s.data.toList k, pOk h) ∧ wr.ownsRow W.heap.size 22 1 v k ((unI s.data.toList k).map (Value.int .i64)) ∧ Below W.heap.size W wr) (fun _ i _ => s.size - (intOf i).toNat)
  case atStart => exact ⟨0, Nat.zero_le _, rfl, by intro h hh; simp [unI] at hh, World.ownsRow_nil _ _ _ _, Below.refl _ _⟩
  case round =>
    obtain ⟨k, hk, rfl, hall, hown, hbe⟩ := hrel
    by_cases hlt : k < n
    · have h3 : 6 * k + 6 ≤ s.size := by rw [HS.out]; omega
      have hkb : k < 4096 := by omega
      have hbl : ((s.data.toList.drop (6 * k)).take 6).length = 6 := by have := size_list s; simp; omega
      have HA : Hid (hAt s.data.toList k = numB ((s.data.toList.drop (6 * k)).take 6)) := rfl
      have hown2 := hown
      have hbe2 := hbe
      have hdec : decide (6 * (k : Int) < s.size) = true := by simp; omega
      clear hown hbe
      go_wp2_with fail
      go_loop [6, 7] (fun h i => ∃ j : Nat, j ≤ 6 ∧ i = .int .i64 j ∧ h = .int .i64 (numB (((s.data.toList.drop (6 * k)).take 6).take j))) (fun _ i => 6 - (intOf i).toNat)
      case atStart => exact ⟨0, by omega, rfl, rfl⟩
      case round =>
        obtain ⟨j, hj, rfl, rfl⟩ := hrel
        by_cases hj6 : j < 6
        · have hin : 6 * k + j < s.size := by omega
          have hb := numB_bound (((s.data.toList.drop (6 * k)).take 6).take j) 5 (by simp; omega)
          have SN : Hid (numB (((s.data.toList.drop (6 * k)).take 6).take (j + 1)) = numB (((s.data.toList.drop (6 * k)).take 6).take j) * 256 + ((s[6 * k + j].toNat : Nat) : Int)) := by
            show _ = _
            rw [List.take_succ_eq_append_getElem (by omega), numB_snoc]
            congr 2
            rw [byte_at s _ hin, List.getElem_take, List.getElem_drop, List.getD, List.getElem?_eq_getElem (by have := size_list s; omega)]
            rfl
          have hc0 : s[6 * k + j].toNat < 256 := (s[6 * k + j]).toNat_lt
          generalize numB (((s.data.toList.drop (6 * k)).take 6).take j) = h at *
          have b0 := hb.1
          have b1 : h < 1099511627776 := hb.2
          clear hb
          go_wp2_with fail
          go_round
          case rel => exact ⟨j + 1, by omega, by go_num, by rw [SN.out]⟩
          case measure => simp [intOf]; omega
        · have ej : ((s.data.toList.drop (6 * k)).take 6).take j = (s.data.toList.drop (6 * k)).take 6 := List.take_of_length_le (by omega)
          rw [ej]
          clear ej
          generalize numB ((s.data.toList.drop (6 * k)).take 6) = h at *
          by_cases hp : pOk h
          case neg =>
            have hz : (h != 0) = true := by simp; exact fun z => hp (.inl z)
            have VV := Lib.hid (fun v : HV h => hp (.inr v))
            have R : unR s.data.toList n = ([], 20) := if_neg (fun a => hp (by have := a _ (unI_mem s.data.toList hlt); rwa [HA.out] at this))
            have RR := Lib.hid R
            clear R hp
            go_wp2_with (go_at_call 20; refine (rvalid_f _ VV.out).mono ?_; rintro e w' ⟨rfl, rfl⟩)
            go_ret2
            refine ⟨.slice none 0 0, by rw [RR.out]; rfl, by rw [RR.out]; exact RI_nil _, hbe2⟩
          have hall' : Hid (∀ h ∈ unI s.data.toList (k + 1), pOk h) := by
            intro x hx
            rw [unI_snoc, List.mem_append, List.mem_singleton] at hx
            rcases hx with hx | rfl
            · exact hall x hx
            · rw [HA.out]; exact hp
          have hz : ((h != 0) = false) ∨ ((h != 0) = true ∧ HV h) := by
            by_cases z : h = 0
            · exact .inl (by simp [z])
            · exact .inr ⟨by simp [z], hp.resolve_left z⟩
          clear hp
          have hB := hbe2.size
          rcases hz with hz | ⟨hz, vv⟩
          all_goals
            try have VV := Lib.hid vv; clear vv
            go_wp2_with (first | (go_at_call 20; refine (rvalid_t _ VV.out).mono ?_; rintro e w' ⟨rfl, rfl⟩) | (at_builtin; refine append1 rfl _ _ 42 rfl W.heap.size 22 i0 (.int .i64 0) 8 Tryd.underlying42 hi hz0 hz1 hz2 rfl _ _ _ rfl hown2 _ _ rfl rfl (by unfold maxLen; omega) (by omega) (by omega) hbe2 ?_; intro v' w3 hown3 hbe3))
            go_roundw
            case rel => exact ⟨k + 1, by omega, by go_num, hall', own_nextH hown3 (by rw [unI_snoc, HA.out]) rfl, hbe3⟩
            case measure => simp [intOf]; omega
    · have h3 : ¬ 6 * k < s.size := by rw [HS.out]; omega
      have ek : k = n := by omega
      subst ek
      have R : unR s.data.toList k = (unI s.data.toList k, 0) := if_pos hall
      have RR := Lib.hid R
      have ho := Lib.hid (RI_own hown)
      clear R hown
      go_wp2_with fail
      go_ret2
      exact ⟨_, by rw [RR.out]; rfl, by rw [RR.out]; exact ho.out, hbe⟩

theorem runpack_s_long (s : ByteArray) (W : World) (h : 24576 < s.size) :
    Calls Tryd.prog 30 #[.string s] W fun e w' => e = .returned (.tuple #[.slice none 0 0, (Value.int .i64) 3]) ∧ Below W.heap.size W w' := by
  go_enter Tryd.func30, Tryd.ntmps30
  go_wp2_with fail
  go_ret2
  exact ⟨rfl, Below.refl _ _⟩
theorem runpack_s_form (s : ByteArray) (W : World) (h : s.size ≤ 24576) (h6 : s.size % 6 ≠ 0) :
    Calls Tryd.prog 30 #[.string s] W fun e w' => e = .returned (.tuple #[.slice none 0 0, (Value.int .i64) 4]) ∧ Below W.heap.size W w' := by
  have h2 : ((s.size : Int) % 6 != 0) = true := by simp; omega
  clear h6
  go_enter Tryd.func30, Tryd.ntmps30
  go_wp2_with fail
  go_ret2
  exact ⟨rfl, Below.refl _ _⟩
end Go.Proofs.YtpnjedcijbpngaaDoor
