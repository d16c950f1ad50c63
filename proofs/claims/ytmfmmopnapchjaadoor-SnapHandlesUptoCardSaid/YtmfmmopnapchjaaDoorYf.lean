/- strconv.FormatUint of base 16; snap.hex. -/
import Derived.Test.YtmfmmopnapchjaaDoorHc
import Derived.Test.YtmfmmopnapchjaaDoorVg
import Derived.Test.YtmfmmopnapchjaaDoorSa
import Derived.Test.YtmfmmopnapchjaaDoorBits
namespace Go.Proofs.YtmfmmopnapchjaaDoor
open Go Go.RowKit Go.Shelf Go.Sort
set_option linter.unusedVariables false
set_option linter.unusedSimpArgs false
set_option maxRecDepth 100000
set_option maxHeartbeats 1600000

/-- Besides Env: one number of the table by which trailing noughts are counted. -/
structure EnvZ (w : World) : Prop where
  env : Env w
  tz : w.cell? ⟨3, 15, none⟩ = some (.int .u8 4)
theorem EnvZ.below {w w' : World} (h : EnvZ w) (hb : Below w.heap.size w w') : EnvZ w' := by
  refine ⟨h.env.below hb, ?_⟩
  have hlt : 3 < w.heap.size := by
    rcases Nat.lt_or_ge 3 w.heap.size with h' | h'
    · exact h'
    · have := h.tz
      simp [World.cell?, Array.getElem?_eq_none h'] at this
  exact (hb.cell (p := ⟨3, 15, none⟩) hlt).trans h.tz
theorem pow2_c (w : World) : Calls Tryd.prog 86 #[.int .i64 16] w fun e w' => e = .returned (.bool true) ∧ w = w' := by
  have h : bits .and .i64 16 15 = 0 := by decide
  go_enter Tryd.func86, Tryd.ntmps86
  go_wp2
  go_ret
  exact ⟨rfl, rfl⟩
theorem tz64_c (w : World) (E : EnvZ w) : Calls Tryd.prog 89 #[.int .u64 16] w fun e w' => e = .returned (.int .i64 4) ∧ w = w' := by
  have h := E.tz
  have h1 : IntKind.u64.wrap (-16) = 18446744073709551600 := by decide
  have h2 : bits .and .u64 16 18446744073709551600 = 16 := by decide
  clear E
  go_enter Tryd.func89, Tryd.ntmps89
  go_wp2
  go_ret
  exact ⟨rfl, rfl⟩
theorem tz_c (w : World) (E : EnvZ w) : Calls Tryd.prog 87 #[.int .u64 16] w fun e w' => e = .returned (.int .i64 4) ∧ w = w' := by
  have T := Lib.hid (tz64_c w E)
  clear E
  go_enter Tryd.func87, Tryd.ntmps87
  go_wp2_with fail
  refine T.out.mono ?_
  rintro e w' ⟨rfl, rfl⟩
  go_wp2
  go_ret
  exact ⟨rfl, rfl⟩
def dgX (d : Nat) : UInt8 := (⟨#[48, 49, 50, 51, 52, 53, 54, 55, 56, 57, 97, 98, 99, 100, 101, 102]⟩ : ByteArray).data.toList.getD d 0
/-- How many digits a number has behind its first one. -/
def hexN : Nat → Nat → Nat
  | 0, _ => 0
  | f + 1, n => if n < 16 then 0 else hexN f (n / 16) + 1
theorem hexN_eq (j : Nat) : ∀ (f n : Nat), (∀ k, k < j → 16 ≤ n / 16 ^ k) → n / 16 ^ j < 16 → j < f → hexN f n = j := by
  induction j with
  | zero =>
    intro f n _ h hf
    obtain ⟨f, rfl⟩ : ∃ g, f = g + 1 := ⟨f - 1, by omega⟩
    rw [hexN, if_pos (by simpa using h)]
  | succ j ih =>
    intro f n hk h hf
    obtain ⟨f, rfl⟩ : ∃ g, f = g + 1 := ⟨f - 1, by omega⟩
    have h0 := hk 0 (by omega)
    rw [hexN, if_neg (by simp at h0; omega), ih f (n / 16) (fun k hkj => by
      have := hk (k + 1) (by omega)
      rwa [Nat.div_div_eq_div_mul, ← Nat.pow_succ']) (by rwa [Nat.div_div_eq_div_mul, ← Nat.pow_succ']) (by omega)]
theorem and15 (x : Nat) (h : x < 18446744073709551616) : bits .and .u64 (x : Int) 15 = ((x % 16 : Nat) : Int) := by
  have e : bits .and .u64 (x : Int) 15 = IntKind.u64.wrap ((BitVec.ofInt 64 x &&& BitVec.ofInt 64 15).toNat : Int) := rfl
  rw [e, BitVec.toNat_and, toNat_ofInt64, toNat_ofInt64, show ((15 : Int) % 18446744073709551616).toNat = 2 ^ 4 - 1 from by decide, Nat.and_two_pow_sub_one_eq_mod, IntKind.wrap_u64]
  have : ((x : Int) % 18446744073709551616).toNat = x := by omega
  rw [this]
  omega
/-- The digits. -/
def hexJ (n j : Nat) : List UInt8 := (List.range (j + 1)).reverse.map fun k => dgX (n / 16 ^ k % 16)
def hexD (n : Nat) : List UInt8 := hexJ n (hexN 16 n)
abbrev dig36 : ByteArray := ⟨#[48, 49, 50, 51, 52, 53, 54, 55, 56, 57, 97, 98, 99, 100, 101, 102, 103, 104, 105, 106, 107, 108, 109, 110, 111, 112, 113, 114, 115, 116, 117, 118, 119, 120, 121, 122]⟩
theorem dig36_at (d : Nat) (h : d < 16) (h' : d < dig36.size) : dig36[d]'h' = dgX d := by
  have : d = 0 ∨ d = 1 ∨ d = 2 ∨ d = 3 ∨ d = 4 ∨ d = 5 ∨ d = 6 ∨ d = 7 ∨ d = 8 ∨ d = 9 ∨ d = 10 ∨ d = 11 ∨ d = 12 ∨ d = 13 ∨ d = 14 ∨ d = 15 := by omega
  rcases this with rfl | rfl | rfl | rfl | rfl | rfl | rfl | rfl | rfl | rfl | rfl | rfl | rfl | rfl | rfl | rfl <;> rfl
theorem nums_b (l : List UInt8) : (strOfNums (l.map (fun b => (b.toNat : Int)))) = ⟨l.toArray⟩ := by
  unfold strOfNums
  congr 1
  rw [List.map_map]
  congr 1
  conv => rhs; rw [← List.map_id l]
  refine List.map_congr_left fun b _ => ?_
  simp
theorem conv_cells {w : World} (l : List UInt8) (g off cap : Nat) (h : ∀ i, i < l.length → w.cell? ⟨g, off + i, none⟩ = some (.int .u8 ((l.getD i 0).toNat : Int))) :
    (convert 37 9 (.slice (some ⟨g, off, none⟩) l.length cap)).run Tryd.prog w = .ok (str l) w := by
  rw [show str l = Value.string (strOfNums (l.map (fun b => (b.toNat : Int)))) by rw [nums_b]]
  refine run_convert_bytes_arg w _ 5 Tryd.underlying37 Tryd.underlying5 g off l.length cap _ (by simp) (fun i hi => ?_) _ Tryd.underlying9
  have hi' : i < l.length := by simpa using hi
  rw [h i hi']
  simp [List.getD, hi']
theorem hexJ_len (n j : Nat) : (hexJ n j).length = j + 1 := by simp [hexJ]
theorem hexJ_get (n j i : Nat) (h : i ≤ j) : (hexJ n j).getD i 0 = dgX (n / 16 ^ (j - i) % 16) := by
  unfold hexJ
  simp only [List.getD, List.getElem?_map, List.getElem?_reverse (show i < (List.range (j + 1)).length by simp; omega)]
  simp [show j - i < j + 1 by omega]
theorem slice65 (w' : World) (A o : Nat) (ho : o < 65) : (Instr.sliceAt 175 (.pointer (some ⟨A, 0, none⟩)) (some (.int .i64 (o : Int))) none none).run Tryd.prog w' = .ok (.slice (some ⟨A, o, none⟩) (65 - o) (65 - o)) w' := by
  have al : Tryd.prog.arrayLen 175 = 65 := by kernel_rfl
  have ae : Tryd.prog.elem 175 = 5 := by kernel_rfl
  have ht : Tryd.prog.underlying 175 = some (.array (Tryd.prog.arrayLen 175) (Tryd.prog.elem 175)) := by rw [al, ae]; kernel_rfl
  rw [run_sliceAt_array_l w' _ _ ht .i64 o (by omega) (by rw [al]; omega), al, ae]
  have hp : (⟨A, 0, none⟩ : Addr).add o = ⟨A, o, none⟩ := by unfold Addr.add; split <;> simp_all
  simp [go_sem, slicedAt, show ¬ (65 = o) by omega, hp]
theorem fmtBits_c (n : Nat) (hn : n < 4294967296) (w : World) (E : EnvZ w) : Calls Tryd.prog 77 #[.slice none 0 0, .int .u64 n, .int .i64 16, .bool false, .bool false] w fun e w' => e = .returned (.tuple #[.slice none 0 0, str (hexD n)]) ∧ Below w.heap.size w w' := by
  have TZ := Lib.hid (fun w' (b : Below w.heap.size w w') => tz_c w' (E.below b))
  have P2 := Lib.hid (fun w' => pow2_c w')
  clear E
  go_enter Tryd.func77, Tryd.ntmps77
  go_wp2_with fail
  generalize hw1 : World.alloc w _ = w1
  have b1 : Below w.heap.size w w1 := hw1 ▸ (Below.refl _ w).alloc (Nat.le_refl _) _
  have n1 : w1.heap[w.heap.size]? = some (.cells Tryd.zeroCells175 175) := hw1 ▸ kb_new w _
  have z1 : Tryd.zeroCells175.size = 65 := by kernel_rfl
  have N1 := Lib.hid n1
  have B1 := Lib.hid b1
  have Z1 := Lib.hid z1
  clear hw1 b1 n1 z1
  refine (P2.out _).mono ?_
  rintro e w' ⟨rfl, rfl⟩
  go_wp2_with fail
  refine (TZ.out _ B1.out).mono ?_
  rintro e w' ⟨rfl, rfl⟩
  go_wp2_with fail
  go_loopw [1, 13] (fun u i wr => ∃ (j o : Nat) (arr : Array Value), j + o = 64 ∧ j ≤ 7 ∧ u = .int .u64 ((n / 16 ^ j : Nat) : Int) ∧ i = .int .i64 ((o : Int) + 1) ∧ wr.heap[w.heap.size]? = some (.cells arr 175) ∧ arr.size = 65 ∧ (∀ k, k < j → arr[64 - k]? = some (.int .u8 ((dgX (n / 16 ^ k % 16)).toNat : Int))) ∧ (∀ k, k < j → 16 ≤ n / 16 ^ k) ∧ Below w.heap.size w wr) (fun u _ _ => (intOf u).toNat)
  case atStart => exact ⟨0, 64, _, rfl, by decide, by simp, rfl, N1.out, Z1.out, fun k hk => absurd hk (Nat.not_lt_zero k), fun k hk => absurd hk (Nat.not_lt_zero k), B1.out⟩
  case round =>
    obtain ⟨j, o, arr, hjo, hj, rfl, rfl, hblk, harr, hcell, hge, hbe⟩ := hrel
    obtain ⟨x, hx⟩ : ∃ x, x = n / 16 ^ j := ⟨_, rfl⟩
    obtain ⟨d, hd⟩ : ∃ d, d = x % 16 := ⟨_, rfl⟩
    have hxn : x < 4294967296 := by rw [hx]; exact Nat.lt_of_le_of_lt (Nat.div_le_self _ _) hn
    rw [← hx]
    have ha : bits .and .u64 (x : Int) 15 = (d : Int) := by rw [hd]; exact and15 x (by omega)
    have hm : d < 16 := by rw [hd]; exact Nat.mod_lt _ (by decide)
    have hd36 : (d : Int) < 36 := by omega
    have ho65 : (o : Int) < 65 := by omega
    have c := kb_cell hblk (o)
    obtain ⟨cv, hcv⟩ : ∃ v, arr[o]? = some v := ⟨_, Array.getElem?_eq_getElem (by omega)⟩
    rw [hcv] at c
    have f := kb_frozen hblk o
    have HX := Lib.hid hx
    have HD := Lib.hid hd
    have HB := Lib.hid hblk
    have HJ := Lib.hid hjo
    clear hx hd hblk hjo hcv
    by_cases h16 : 16 ≤ x
    · have h16' : (16 : Int) ≤ (x : Int) := by omega
      go_wp2_with fail
      rw [dig36_at d hm]
      have hj6 : j < 7 := by
        rcases Nat.lt_or_ge j 7 with h | h
        · exact h
        · exfalso
          have h2 : n / 16 ^ j ≤ n / 16 ^ 7 := Nat.div_le_div_left (Nat.pow_le_pow_right (by decide) h) (by decide)
          have h3 : n / 16 ^ 7 < 16 := Nat.div_lt_of_lt_mul (by omega)
          have := HX.out
          omega
      have hx16 : x / 16 = n / 16 ^ (j + 1) := by rw [HX.out, Nat.div_div_eq_div_mul, ← Nat.pow_succ]
      refine ⟨⟨j + 1, o - 1, arr.setIfInBounds o (.int .u8 ((dgX d).toNat : Int)), by have := HJ.out; omega, by omega, ?_, ?_, kb_set HB.out _ _, by simp [harr], fun k hk => ?_, fun k hk => ?_, hbe.setCell (p := ⟨w.heap.size, o, none⟩) (Nat.le_refl _) _⟩, ?_⟩
      · rw [← hx16]; simp
      · have := HJ.out; congr 1; omega
      · have := HJ.out
        by_cases e : k = j
        · subst e
          rw [show 64 - k = o by omega, Array.getElem?_setIfInBounds_self_of_lt (by omega), ← HX.out, ← HD.out]
        · rw [Array.getElem?_setIfInBounds_ne (by omega)]
          exact hcell k (by omega)
      · by_cases e : k = j
        · subst e; rw [← HX.out]; exact h16
        · exact hge k (by omega)
      · simp [intOf]; omega
    · have h16' : (x : Int) < 16 := by omega
      have h16'' : ¬ (16 : Int) ≤ (x : Int) := by omega
      have hsl := fun w' => slice65 w' w.heap.size o (by omega)
      have hj := HJ.out
      have hD : hexD n = hexJ n j := by unfold hexD; rw [hexN_eq j 16 n hge (by rw [← HX.out]; omega) (by omega)]
      have hxd : x = d := by rw [HD.out]; omega
      have hx36 : (x : Int) < 36 := by omega
      have hcv : ∀ (arr' : Array Value) (w' : World), arr' = arr.setIfInBounds o (.int .u8 ((dgX d).toNat : Int)) → w'.heap[w.heap.size]? = some (.cells arr' 175) → (convert 37 9 (.slice (some ⟨w.heap.size, o, none⟩) (65 - o) (65 - o))).run Tryd.prog w' = .ok (str (hexD n)) w' := by
        intro arr' w' ha' hw'
        rw [hD, show 65 - o = (hexJ n j).length by rw [hexJ_len]; omega]
        refine conv_cells (hexJ n j) w.heap.size o _ fun i hi => ?_
        rw [hexJ_len] at hi
        rw [kb_cell hw', hexJ_get n j i (by omega), ha']
        by_cases e : i = 0
        · subst e
          rw [Nat.add_zero, Array.getElem?_setIfInBounds_self_of_lt (by omega), HD.out, HX.out]; rfl
        · rw [Array.getElem?_setIfInBounds_ne (by omega), show o + i = 64 - (j - i) by omega]
          exact hcell (j - i) (by omega)
      have CV := Lib.hid (hcv _ (wr.setCell ⟨w.heap.size, o, none⟩ (.int .u8 ((dgX d).toNat : Int))) rfl (kb_set HB.out _ _))
      have BE := Lib.hid (hbe.setCell (p := ⟨w.heap.size, o, none⟩) (Nat.le_refl _) (.int .u8 ((dgX d).toNat : Int)))
      clear hcv hD hcell hge hbe
      subst hxd
      go_wp2_with fail
      rw [dig36_at x hm, CV.out]
      simp only [Result.andThen]
      rw [Oper.upon_value]
      go_wp2_with fail
      go_ret2
      exact ⟨rfl, BE.out⟩
end Go.Proofs.YtmfmmopnapchjaaDoor
