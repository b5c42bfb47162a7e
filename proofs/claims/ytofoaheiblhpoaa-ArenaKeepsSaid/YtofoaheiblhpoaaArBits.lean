/- Of no program: words of 64 bits as numbers: and, or, and-not, shifts. -/
import Derived.Test.YtofoaheiblhpoaaRows
import Derived.WalkKit
import Derived.Laws.BitsLemmas
import Derived.Laws.Bits64
namespace Go.Proofs.Ytofoaheiblhpoaa

theorem wrap_u64_in {n : Int} (h0 : 0 ≤ n) (h1 : n < 18446744073709551616) : IntKind.u64.wrap n = n := by rw [IntKind.wrap_u64]; omega
theorem wraps64 (n : Int) (h0 : 0 ≤ n) (h1 : n < 2 ^ 64) : IntKind.u64.wrap n = n := wrap_u64_in h0 (by simpa using h1)
theorem bits_or64 (a b : Nat) (ha : a < 18446744073709551616) (hb : b < 18446744073709551616) : bits .or .u64 (a : Int) (b : Int) = ((a ||| b : Nat) : Int) :=
  (bits_nat .u64 64 (by decide) wraps64 a b (by simpa using ha) (by simpa using hb)).2
theorem bits_and64 (a b : Nat) (ha : a < 18446744073709551616) (hb : b < 18446744073709551616) : bits .and .u64 (a : Int) (b : Int) = ((a &&& b : Nat) : Int) :=
  (bits_nat .u64 64 (by decide) wraps64 a b (by simpa using ha) (by simpa using hb)).1
theorem bits_andNot64 (a b : Nat) (ha : a < 18446744073709551616) (hb : b < 18446744073709551616) : ∃ r : Nat, r < 18446744073709551616 ∧ bits .andNot .u64 (a : Int) (b : Int) = (r : Int) ∧ ∀ i, r.testBit i = (a.testBit i && !b.testBit i) := by
  refine ⟨(BitVec.ofNat 64 a &&& ~~~ BitVec.ofNat 64 b).toNat, (BitVec.isLt _), ?_, fun i => ?_⟩
  · have h : bits .andNot .u64 (a : Int) (b : Int) = IntKind.u64.wrap (BitVec.ofNat 64 a &&& ~~~ BitVec.ofNat 64 b).toNat := by
      simp only [bits, BitVec.ofInt_natCast]
      rfl
    rw [h, wrap_u64_in (Int.natCast_nonneg _)]
    have := (BitVec.ofNat 64 a &&& ~~~ BitVec.ofNat 64 b).isLt
    omega
  · rw [BitVec.testBit_toNat, BitVec.getLsbD_and, BitVec.getLsbD_not]
    simp only [BitVec.getLsbD_ofNat]
    by_cases hi : i < 64
    · simp [hi]
    · have : a.testBit i = false := Nat.testBit_lt_two_pow (Nat.lt_of_lt_of_le ha (by have : 2 ^ 64 ≤ 2 ^ i := Nat.pow_le_pow_right (by decide) (by omega); simpa using this))
      simp [hi, this]
/-- The upper half kept, the lower half a small number. -/
theorem or_stamp (y i : Nat) (hy : y < 18446744073709551616) (hi : i < 4294967296) : bits .or .u64 (IntKind.u64.wrap ((y : Int) / 4294967296 * 4294967296)) (i : Int) = ((y / 4294967296 * 4294967296 + i : Nat) : Int) := by
  have h1 : IntKind.u64.wrap ((y : Int) / 4294967296 * 4294967296) = ((y / 4294967296 * 4294967296 : Nat) : Int) := by rw [wrap_u64_in (by omega) (by omega)]; omega
  rw [h1, bits_join .u64 64 (by decide) wraps64 32 _ _ (by omega) (by omega) (by omega) (by omega) (by omega) (by omega)]
  omega
theorem or_stamp' (y i : Nat) (hy : y < 18446744073709551616) (hi : i < 4294967296) : bits .or .u64 ((y : Int) / 4294967296 * 4294967296) (i : Int) = ((y / 4294967296 * 4294967296 + i : Nat) : Int) := by
  have := or_stamp y i hy hi
  rwa [wrap_u64_in (by omega) (by omega)] at this
/-- The upper half a size, the lower half kept. -/
theorem or_tail (s y : Nat) (hs : s < 4294967296) : bits .or .u64 (IntKind.u64.wrap ((s : Int) * 4294967296)) ((y % 4294967296 : Nat) : Int) = ((s * 4294967296 + y % 4294967296 : Nat) : Int) := by
  have h1 : IntKind.u64.wrap ((s : Int) * 4294967296) = ((s * 4294967296 : Nat) : Int) := by rw [wrap_u64_in (by omega) (by omega)]; omega
  rw [h1, bits_join .u64 64 (by decide) wraps64 32 _ _ (by omega) (by omega) (by omega) (by omega) (by omega) (by omega)]
  omega
theorem and_low (y : Nat) (hy : y < 18446744073709551616) : bits .and .u64 (y : Int) 4294967295 = ((y % 4294967296 : Nat) : Int) := by
  have := bits_mask .u64 64 (by decide) wraps64 32 (by decide) (y : Int) (by omega) (by omega)
  simpa using this
theorem and_one (y : Nat) (hy : y < 18446744073709551616) : bits .and .u64 (y : Int) 1 = ((y % 2 : Nat) : Int) := by
  have := bits_mask .u64 64 (by decide) wraps64 1 (by decide) (y : Int) (by omega) (by omega)
  simpa using this
theorem andNot_one (y : Nat) (hy : y < 18446744073709551616) : bits .andNot .u64 (y : Int) 1 = ((y / 2 * 2 : Nat) : Int) := by
  obtain ⟨r, h1, h2, h3⟩ := bits_andNot64 y 1 hy (by decide)
  rw [show (1 : Int) = ((1 : Nat) : Int) from rfl, h2]
  congr 1
  apply Nat.eq_of_testBit_eq
  intro i
  rw [h3]
  cases i with
  | zero => simp [Nat.testBit_zero]
  | succ i =>
    rw [Nat.testBit_succ, Nat.testBit_succ, Nat.testBit_succ, Nat.mul_div_cancel _ (by decide)]
    simp
theorem or_one (y : Nat) (hy : y < 18446744073709551616) : bits .or .u64 ((y / 2 * 2 : Nat) : Int) 1 = ((y / 2 * 2 + 1 : Nat) : Int) := by
  rw [bits_join .u64 64 (by decide) wraps64 1 _ _ (by omega) (by omega) (by omega) (by omega) (by omega) (by omega)]
  omega
end Go.Proofs.Ytofoaheiblhpoaa
