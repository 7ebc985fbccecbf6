/- The bytes of limbs: the plain law. -/
import Derived.Test.YtfmfopbcgohdgaaN3
namespace Go.Proofs.Ytfmfopbcgohdgaa
open Go.RowKit
set_option linter.unusedSimpArgs false
set_option linter.unusedVariables false

def tl (f : Nat → Nat) (q : Nat) : Nat := val f / 67108864 ^ q
theorem tl_succ (f : Nat → Nat) (q : Nat) : tl f (q + 1) = tl f q / 67108864 := by unfold tl; rw [Nat.pow_succ, Nat.div_div_eq_div_mul]
theorem tl_all (f : Nat → Nat) (h : ∀ j, j < 5 → f j < 67108864) : tl f 0 = f 0 + 67108864 * tl f 1 ∧ tl f 1 = f 1 + 67108864 * tl f 2 ∧ tl f 2 = f 2 + 67108864 * tl f 3 ∧ tl f 3 = f 3 + 67108864 * tl f 4 ∧ tl f 4 = f 4 + 67108864 * tl f 5 ∧ tl f 5 = 0 := by
  have h0 := h 0 (by omega); have h1 := h 1 (by omega); have h2 := h 2 (by omega); have h3 := h 3 (by omega); have h4 := h 4 (by omega)
  have e0 : tl f 0 = f 0 + 67108864 * (f 1 + 67108864 * (f 2 + 67108864 * (f 3 + 67108864 * f 4))) := by unfold tl; rw [Nat.pow_zero, Nat.div_one, val_horner]
  have e1 : tl f 1 = f 1 + 67108864 * (f 2 + 67108864 * (f 3 + 67108864 * f 4)) := by rw [tl_succ, e0]; omega
  have e2 : tl f 2 = f 2 + 67108864 * (f 3 + 67108864 * f 4) := by rw [tl_succ, e1]; omega
  have e3 : tl f 3 = f 3 + 67108864 * f 4 := by rw [tl_succ, e2]; omega
  have e4 : tl f 4 = f 4 := by rw [tl_succ, e3]; omega
  have e5 : tl f 5 = 0 := by rw [tl_succ, e4]; omega
  refine ⟨by rw [e0, e1], by rw [e1, e2], by rw [e2, e3], by rw [e3, e4], by rw [e4, e5, Nat.mul_zero, Nat.add_zero], e5⟩
theorem tl_any (f : Nat → Nat) (h : ∀ j, j < 5 → f j < 67108864) (q : Nat) (hq : q < 5) : tl f q = f q + 67108864 * tl f (q + 1) := by
  obtain ⟨a0, a1, a2, a3, a4, _⟩ := tl_all f h
  have hc : q = 0 ∨ q = 1 ∨ q = 2 ∨ q = 3 ∨ q = 4 := by omega
  rcases hc with rfl | rfl | rfl | rfl | rfl
  · exact a0
  · exact a1
  · exact a2
  · exact a3
  · exact a4
theorem byte_tl (f : Nat → Nat) (k q r : Nat) (hq : q = 8 * k / 26) (hr : r = 8 * k % 26) : dgt (val f) k = tl f q / 2 ^ r % 256 := by
  unfold dgt tl
  rw [Nat.div_div_eq_div_mul]
  have e : 256 ^ k = 67108864 ^ q * 2 ^ r := by
    rw [show (256 : Nat) = 2 ^ 8 from rfl, show (67108864 : Nat) = 2 ^ 26 from rfl, ← Nat.pow_mul, ← Nat.pow_mul, ← Nat.pow_add]
    congr 1; omega
  rw [e]
theorem limb_mid (f : Nat → Nat) (h : ∀ j, j < 5 → f j < 67108864) (k q r t : Nat) (hk : k < 16) (hq : q = 8 * k / 26) (hr : r = 8 * k % 26) (ht : t = 26 - r) (hq4 : q + 1 < 5) :
    f q / 2 ^ r < 2 ^ t ∧ f q / 2 ^ r + f (q + 1) * 2 ^ t < 4503599627370496 ∧ (f q / 2 ^ r + f (q + 1) * 2 ^ t) % 256 = dgt (val f) k := by
  rw [byte_tl f k q r hq hr, tl_any f h q (by omega), tl_any f h (q + 1) hq4]
  have h1 := h q (by omega); have h2 := h (q + 1) hq4
  generalize f q = A at *; generalize f (q + 1) = B at *; generalize tl f (q + 1 + 1) = Z at *
  have hc : r = 0 ∨ r = 2 ∨ r = 4 ∨ r = 6 ∨ r = 8 ∨ r = 10 ∨ r = 12 ∨ r = 14 ∨ r = 16 ∨ r = 18 ∨ r = 20 ∨ r = 22 ∨ r = 24 := by omega
  clear hq hr h
  rcases hc with rfl | rfl | rfl | rfl | rfl | rfl | rfl | rfl | rfl | rfl | rfl | rfl | rfl <;> (simp only [Nat.reduceSub] at ht; subst ht; simp only [Nat.reducePow]; omega)
theorem limb_top (f : Nat → Nat) (h : ∀ j, j < 5 → f j < 67108864) (k r : Nat) (hk : k < 16) (hq : 4 = 8 * k / 26) (hr : r = 8 * k % 26) : f 4 / 2 ^ r % 256 = dgt (val f) k := by
  rw [byte_tl f k 4 r hq hr, tl_any f h 4 (by omega), (tl_all f h).2.2.2.2.2, Nat.mul_zero, Nat.add_zero]
end Go.Proofs.Ytfmfopbcgohdgaa
