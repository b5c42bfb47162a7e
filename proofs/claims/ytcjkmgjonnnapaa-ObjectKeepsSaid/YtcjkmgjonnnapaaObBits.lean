/- Of no program: an item's bits in a word. -/
import Derived.Test.YtcjkmgjonnnapaaArBits
namespace Go.Proofs.Ytcjkmgjonnnapaa

/-- The item of b bits from the bit sh on. -/
def itemOf (v sh b : Nat) : Nat := v / 2 ^ sh % 2 ^ b
/-- The word with another item there. -/
def newW (v sh b x : Nat) : Nat := (v &&& (((2 ^ b - 1) * 2 ^ sh) ^^^ (2 ^ 64 - 1))) ||| (x * 2 ^ sh)
theorem itemOf_bit (v sh b t : Nat) : (itemOf v sh b).testBit t = (decide (t < b) && v.testBit (sh + t)) := by
  unfold itemOf
  rw [Nat.testBit_mod_two_pow, Nat.testBit_div_two_pow, Nat.add_comm]
theorem newW_bit (v sh b x t : Nat) (hv : v < 2 ^ 64) (hsb : sh + b ≤ 64) (hx : x < 2 ^ b) : (newW v sh b x).testBit t = if sh ≤ t ∧ t < sh + b then x.testBit (t - sh) else v.testBit t := by
  unfold newW
  rw [Nat.testBit_or, Nat.testBit_and, Nat.testBit_xor, Nat.testBit_mul_two_pow, Nat.testBit_mul_two_pow, Nat.testBit_two_pow_sub_one, Nat.testBit_two_pow_sub_one]
  by_cases h1 : sh ≤ t
  · by_cases h2 : t < sh + b
    · rw [if_pos ⟨h1, h2⟩]
      have e1 : decide (sh ≤ t) = true := decide_eq_true h1
      have e2 : decide (t - sh < b) = true := decide_eq_true (by omega)
      have e3 : decide (t < 64) = true := decide_eq_true (by omega)
      rw [e1, e2, e3]; simp
    · rw [if_neg (fun h => h2 h.2)]
      have e1 : decide (sh ≤ t) = true := decide_eq_true h1
      have e2 : decide (t - sh < b) = false := decide_eq_false (by omega)
      have e4 : x.testBit (t - sh) = false := Nat.testBit_lt_two_pow (Nat.lt_of_lt_of_le hx (Nat.pow_le_pow_right (by decide) (by omega)))
      rw [e1, e2, e4]
      by_cases h3 : t < 64
      · simp [h3]
      · have : v.testBit t = false := Nat.testBit_lt_two_pow (Nat.lt_of_lt_of_le hv (Nat.pow_le_pow_right (by decide) (by omega)))
        simp [this]
  · rw [if_neg (fun h => h1 h.1)]
    have e1 : decide (sh ≤ t) = false := decide_eq_false h1
    have e3 : decide (t < 64) = true := decide_eq_true (by omega)
    rw [e1, e3]; simp
theorem newW_lt (v sh b x : Nat) (hv : v < 2 ^ 64) (hsb : sh + b ≤ 64) (hx : x < 2 ^ b) : newW v sh b x < 2 ^ 64 := by
  unfold newW
  refine Nat.or_lt_two_pow (Nat.lt_of_le_of_lt Nat.and_le_left hv) ?_
  have h1 : x * 2 ^ sh < 2 ^ b * 2 ^ sh := Nat.mul_lt_mul_of_pos_right hx (Nat.two_pow_pos _)
  rw [← Nat.pow_add] at h1
  exact Nat.lt_of_lt_of_le h1 (Nat.pow_le_pow_right (by decide) (by omega))
theorem item_same (v sh b x : Nat) (hv : v < 2 ^ 64) (hsb : sh + b ≤ 64) (hx : x < 2 ^ b) : itemOf (newW v sh b x) sh b = x := by
  refine Nat.eq_of_testBit_eq fun t => ?_
  rw [itemOf_bit, newW_bit v sh b x _ hv hsb hx]
  by_cases h : t < b
  · rw [if_pos ⟨by omega, by omega⟩]
    simp [h, show sh + t - sh = t by omega]
  · have : x.testBit t = false := Nat.testBit_lt_two_pow (Nat.lt_of_lt_of_le hx (Nat.pow_le_pow_right (by decide) (by omega)))
    simp [h, this]
theorem item_other (v sh b x sh' : Nat) (hv : v < 2 ^ 64) (hsb : sh + b ≤ 64) (hx : x < 2 ^ b) (h : sh' + b ≤ sh ∨ sh + b ≤ sh') : itemOf (newW v sh b x) sh' b = itemOf v sh' b := by
  refine Nat.eq_of_testBit_eq fun t => ?_
  rw [itemOf_bit, itemOf_bit, newW_bit v sh b x _ hv hsb hx]
  by_cases ht : t < b
  · rw [if_neg (by omega)]
  · simp [ht]
theorem andNot_eq (v M r : Nat) (hv : v < 2 ^ 64) (h : ∀ i, r.testBit i = (v.testBit i && !M.testBit i)) : r = v &&& (M ^^^ (2 ^ 64 - 1)) := by
  refine Nat.eq_of_testBit_eq fun t => ?_
  rw [h, Nat.testBit_and, Nat.testBit_xor, Nat.testBit_two_pow_sub_one]
  by_cases ht : t < 64
  · simp [ht]
  · have : v.testBit t = false := Nat.testBit_lt_two_pow (Nat.lt_of_lt_of_le hv (Nat.pow_le_pow_right (by decide) (by omega)))
    simp [this]
end Go.Proofs.Ytcjkmgjonnnapaa
