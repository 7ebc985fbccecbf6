/- Rot, as plain numbers: turned twice is turned once. -/
import Derived.Test.YtbmeejopfcpoaaaW0
namespace Go.Proofs.Ytbmeejopfcpoaaa

theorem rot_bit (X k i : Nat) (hX : X < 4294967296) (hk : k < 32) : (rotN X k).testBit i = (decide (i < 32) && X.testBit ((i + (32 - k)) % 32)) := by
  unfold rotN
  rw [Nat.testBit_or, show (4294967296 : Nat) = 2 ^ 32 from rfl, Nat.testBit_mod_two_pow, Nat.testBit_mul_two_pow, Nat.testBit_div_two_pow]
  by_cases hi : i < 32
  · by_cases hik : k ≤ i
    · have h1 : X.testBit (i + (32 - k)) = false := Nat.testBit_lt_two_pow (Nat.lt_of_lt_of_le hX (Nat.pow_le_pow_right (n := 2) (i := 32) (by decide) (by omega)))
      have h2 : (i + (32 - k)) % 32 = i - k := by omega
      simp [hi, hik, h1, h2]
    · have h2 : (i + (32 - k)) % 32 = i + (32 - k) := by omega
      simp [hi, hik, h2]
  · have h1 : X.testBit (i + (32 - k)) = false := Nat.testBit_lt_two_pow (Nat.lt_of_lt_of_le hX (Nat.pow_le_pow_right (n := 2) (i := 32) (by decide) (by omega)))
    simp [hi, h1]
theorem rot_rot (X a b : Nat) (hX : X < 4294967296) (ha : a < 32) (hb : b < 32) : rotN (rotN X a) b = rotN X ((a + b) % 32) := by
  apply Nat.eq_of_testBit_eq
  intro i
  rw [rot_bit _ _ _ (rotN_lt X a hX) hb, rot_bit _ _ _ hX ha, rot_bit _ _ _ hX (Nat.mod_lt _ (by decide))]
  by_cases hi : i < 32
  · have h1 : (i + (32 - b)) % 32 < 32 := Nat.mod_lt _ (by decide)
    have h2 : ((i + (32 - b)) % 32 + (32 - a)) % 32 = (i + (32 - (a + b) % 32)) % 32 := by omega
    simp [hi, h1, h2]
  · simp [hi]
theorem rot_zero (X : Nat) (hX : X < 4294967296) : rotN X 0 = X := by
  unfold rotN
  rw [Nat.pow_zero, Nat.mul_one, Nat.mod_eq_of_lt hX, Nat.div_eq_of_lt (by simpa using hX), Nat.or_zero]
theorem rot_back (X a : Nat) (hX : X < 4294967296) (ha : a < 32) : rotN (rotN X a) ((32 - a) % 32) = X := by
  rw [rot_rot X a _ hX ha (Nat.mod_lt _ (by decide)), show (a + (32 - a) % 32) % 32 = 0 by omega, rot_zero X hX]
end Go.Proofs.Ytbmeejopfcpoaaa
