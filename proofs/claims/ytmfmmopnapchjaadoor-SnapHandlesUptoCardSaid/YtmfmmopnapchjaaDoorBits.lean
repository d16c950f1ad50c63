/- Plain lemmas on Go's bit operations at int, and on numbers; no program in sight. -/
import Derived.Laws.BitsLemmas
import Derived.Laws.BitsAllLaws
namespace Go.Proofs.YtmfmmopnapchjaaDoor
open Go

theorem sz_list (l : List UInt8) : (⟨l.toArray⟩ : ByteArray).size = l.length := by simp [ByteArray.size]

theorem toNat_ofInt64 (x : Int) : (BitVec.ofInt 64 x).toNat = (x % 18446744073709551616).toNat := by
  simp [BitVec.toNat_ofInt]

/-- A mask of the i low bits, at any int. -/
theorem and_mask (i : Nat) (hi : i ≤ 62) (x : Int) : bits .and .i64 x (2 ^ i - 1) = x % 2 ^ i := by
  have hp : (0 : Int) < 2 ^ i := Int.pow_pos (by decide)
  have hpn : 0 < 2 ^ i := Nat.two_pow_pos i
  have hle : (2 : Nat) ^ i ≤ 2 ^ 62 := Nat.pow_le_pow_right (by decide) hi
  have hle' : (2 : Int) ^ i ≤ 4611686018427387904 := by
    have : ((2 ^ i : Nat) : Int) ≤ ((2 ^ 62 : Nat) : Int) := Int.ofNat_le.2 hle
    simpa using this
  have hc : ((2 : Int) ^ i - 1) = ((2 ^ i - 1 : Nat) : Int) := by
    rw [Int.natCast_sub hpn]; simp
  have hm : (x % 18446744073709551616).toNat % 2 ^ i = (x % 2 ^ i).toNat := by
    have h1 : (2 : Int) ^ i ∣ 18446744073709551616 := by
      refine ⟨2 ^ (64 - i), ?_⟩
      rw [← Int.pow_add, show i + (64 - i) = 64 by omega]
      decide
    have h2 := Int.emod_emod_of_dvd x h1
    have h3 : 0 ≤ x % 18446744073709551616 := Int.emod_nonneg _ (by decide)
    rw [← h2, Int.toNat_emod h3 (by omega)]
    have h4 : (2 ^ i : Int).toNat = 2 ^ i := by
      have : (2 ^ i : Int) = ((2 ^ i : Nat) : Int) := by simp
      rw [this, Int.toNat_natCast]
    rw [h4]
  have hlt := Nat.mod_lt (x % 18446744073709551616).toNat hpn
  have hnn : 0 ≤ x % 2 ^ i := Int.emod_nonneg _ (by omega)
  have hlt2 : x % 2 ^ i < 2 ^ i := Int.emod_lt_of_pos _ hp
  have e : bits .and .i64 x (2 ^ i - 1) = IntKind.i64.wrap ((BitVec.ofInt 64 x &&& BitVec.ofInt 64 ((2 : Int) ^ i - 1)).toNat : Int) := rfl
  rw [e, BitVec.toNat_and, toNat_ofInt64, hc, BitVec.ofInt_natCast, BitVec.toNat_ofNat, Nat.mod_eq_of_lt (a := 2 ^ i - 1) (b := 2 ^ 64) (by omega), Nat.and_two_pow_sub_one_eq_mod, hm, IntKind.wrap_i64, Int.toNat_of_nonneg hnn]
  omega

theorem and20 (x : Int) : bits .and .i64 x 1048575 = x % 1048576 := and_mask 20 (by decide) x

theorem wraps_i64 (n : Int) (h₀ : 0 ≤ n) (h₁ : n < 2 ^ 63) : IntKind.i64.wrap n = n := by rw [IntKind.wrap_i64]; omega

theorem or_at (i : Nat) (x y : Int) (hi : i ≤ 63) (hx₀ : 0 ≤ x) (hx : x % 2 ^ i = 0) (hx₁ : x < 2 ^ 63) (hy₀ : 0 ≤ y) (hy : y < 2 ^ i) : bits .or .i64 x y = x + y := by
  have hle : (2 : Nat) ^ i ≤ 2 ^ 63 := Nat.pow_le_pow_right (by decide) hi
  have hle' : (2 : Int) ^ i ≤ 2 ^ 63 := by
    have : ((2 ^ i : Nat) : Int) ≤ ((2 ^ 63 : Nat) : Int) := Int.ofNat_le.2 hle
    simpa using this
  exact bits_join .i64 63 (by decide) wraps_i64 i x y hx₀ hx hx₁ hy₀ hy (by omega)
end Go.Proofs.YtmfmmopnapchjaaDoor
