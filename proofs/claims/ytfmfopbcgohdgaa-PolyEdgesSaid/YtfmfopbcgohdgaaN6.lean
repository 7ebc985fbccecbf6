/- Numbers as lists of digits: the plain laws of the reference. -/
import Derived.Test.YtfmfopbcgohdgaaN5
namespace Go.Proofs.Ytfmfopbcgohdgaa
open Go.RowKit
set_option linter.unusedSimpArgs false
set_option linter.unusedVariables false

/-- The digits of a list, and noughts behind. -/
def zx (n : Nat) (z : Nat → Nat) (i : Nat) : Nat := if i < n then z i else 0
theorem le_zero (n : Nat) : le (fun _ => 0) n = 0 := by
  induction n with
  | zero => rfl
  | succ n ih => show le _ n + 0 * _ = 0; rw [ih]; omega
theorem le_zx_le (n : Nat) (z : Nat → Nat) (m : Nat) (h : m ≤ n) : le (zx n z) m = le z m := le_congr _ _ _ (fun i hi => if_pos (by omega))
theorem le_zx_ge (n : Nat) (z : Nat → Nat) (m : Nat) (h : n ≤ m) : le (zx n z) m = le z n := by
  induction m with
  | zero => obtain rfl : n = 0 := by omega
            rfl
  | succ m ih =>
    by_cases e : n = m + 1
    · subst e; exact le_zx_le _ _ _ (Nat.le_refl _)
    · show le (zx n z) m + zx n z m * 256 ^ m = le z n
      rw [ih (by omega), show zx n z m = 0 from if_neg (by omega)]
      omega
/-- The digits of a number that has so many. -/
theorem le_zx_dgt (V n m : Nat) (hV : V < 256 ^ n) (hVm : V < 256 ^ m) : le (zx n (dgt V)) m = V := by
  by_cases h : m ≤ n
  · rw [le_zx_le _ _ _ h, le_dgt, Nat.mod_eq_of_lt hVm]
  · rw [le_zx_ge _ _ _ (by omega), le_dgt, Nat.mod_eq_of_lt hV]
theorem le_upd (f : Nat → Nat) (k x n : Nat) (hk : k < n) : le (upd f k (f k + x)) n = le f n + x * 256 ^ k := by
  induction n with
  | zero => omega
  | succ n ih =>
    show le (upd f k (f k + x)) n + upd f k (f k + x) n * 256 ^ n = le f n + f n * 256 ^ n + x * 256 ^ k
    by_cases e : k = n
    · subst e
      rw [show upd f k (f k + x) k = f k + x from if_pos rfl, le_congr (upd f k (f k + x)) f k (fun i hi => if_neg (by omega)), Nat.add_mul]
      omega
    · rw [ih (by omega), show upd f k (f k + x) n = f n from if_neg (fun h => e h.symm)]
      omega
theorem le_fun_add (a b : Nat → Nat) (n : Nat) : le (fun i => a i + b i) n = le a n + le b n := le_add a b n
/-- What a product's list stands for behind i digits, and k of the next one. -/
theorem times_step (A B c d d' i k : Nat) : A * B + c * 256 ^ i * d + c * d' * 256 ^ (i + k) = A * B + c * 256 ^ i * (d + d' * 256 ^ k) := by
  rw [Nat.pow_add, Nat.mul_add, Nat.add_assoc]
  congr 2
  rw [Nat.mul_assoc c, Nat.mul_assoc c, ← Nat.mul_assoc d', Nat.mul_comm d' (256 ^ i), Nat.mul_assoc (256 ^ i), ← Nat.mul_assoc]
theorem times_next (A B c i : Nat) : A * B + c * 256 ^ i * B = (A + c * 256 ^ i) * B := by rw [Nat.add_mul]
theorem T130_256 : T130 = 256 ^ 16 * 4 := by decide +kernel
theorem dgt_high (V i : Nat) (hi : 16 ≤ i) : dgt (V / T130) (i - 16) = dgt V i / 4 + dgt V (i + 1) * 64 % 256 := by
  have e : V / T130 / 256 ^ (i - 16) = sh V i / 4 := by
    unfold sh
    rw [T130_256, Nat.div_div_eq_div_mul, Nat.div_div_eq_div_mul]
    congr 1
    rw [Nat.mul_right_comm, ← Nat.pow_add]
    congr 2; omega
  show V / T130 / 256 ^ (i - 16) % 256 = _
  rw [e, sh_step V i, sh_step V (i + 1)]
  have h1 := dgt_lt V i; have h2 := dgt_lt V (i + 1)
  generalize dgt V i = a at *; generalize dgt V (i + 1) = b at *; generalize sh V (i + 1 + 1) = Z at *
  omega
theorem dgt_big (V n i : Nat) (hV : V < 256 ^ n) (hi : n ≤ i) : dgt V i = 0 := by
  unfold dgt
  rw [Nat.div_eq_of_lt (Nat.lt_of_lt_of_le hV (Nat.pow_le_pow_right (by decide) hi))]
theorem dgt_high_out (V n j : Nat) (hV : V < 256 ^ n) (hj : n ≤ j + 16) : dgt (V / T130) j = 0 := by
  have := dgt_high V (j + 16) (by omega)
  rw [show j + 16 - 16 = j by omega] at this
  rw [this, dgt_big V n _ hV hj, dgt_big V n _ hV (by omega)]
theorem or_high (a b : Nat) (ha : a < 256) (hb : b < 256) : (a / 4) ||| (b * 64 % 256) = a / 4 + b * 64 % 256 := by
  rw [Nat.or_comm, nat_join 6 (b * 64 % 256) (a / 4) (by omega) (by omega), Nat.add_comm]
theorem dgt_low (V i : Nat) (hi : i < 16) : dgt (V % T130) i = dgt V i := by
  have e : dgt (V % T130) i = dgt (V % T130 % 256 ^ 16) i := by
    rw [← le_dgt (V % T130) 16, dgt_le _ 16 (fun j _ => dgt_lt _ _) i hi]
  have e2 : dgt V i = dgt (V % 256 ^ 16) i := by
    rw [← le_dgt V 16, dgt_le _ 16 (fun j _ => dgt_lt _ _) i hi]
  rw [e, e2, T130_256, Nat.mod_mul_right_mod]
theorem dgt_low16 (V : Nat) : dgt (V % T130) 16 = dgt V 16 % 4 := by
  unfold dgt
  rw [T130_256, Nat.mod_mul_right_div_self]
  generalize V / 256 ^ 16 = Z
  omega
theorem T130_17 : T130 < 256 ^ 17 := by decide +kernel
/-- 'zero' tells whether the number is 0. -/
theorem zero_iff (V n : Nat) (hV : V < 256 ^ n) : (∀ i, i < n → dgt V i = 0) ↔ V = 0 := by
  constructor
  · intro h
    have h1 := le_dgt V n
    rw [Nat.mod_eq_of_lt hV] at h1
    rw [← h1, le_congr _ (fun _ => 0) n h, le_zero]
  · intro h i _
    subst h
    unfold dgt; rw [Nat.zero_div]
theorem high_zero (V : Nat) : V / T130 = 0 ↔ V < T130 := by
  rw [Nat.div_eq_zero_iff]
  have : 0 < T130 := by decide +kernel
  omega
theorem fold_mod (V : Nat) : (V % T130 + 5 * (V / T130)) % P130 = V % P130 := by
  have h := Nat.div_add_mod V T130
  have hT := T_P
  have e : V = (V % T130 + 5 * (V / T130)) + P130 * (V / T130) := by
    have h2 : T130 * (V / T130) = P130 * (V / T130) + 5 * (V / T130) := by rw [← Nat.add_mul, ← hT]
    omega
  conv => rhs; rw [e]
  rw [Nat.add_mul_mod_self_left]
/-- The bound behind so many rounds of reduced. -/
def rbd : Nat → Nat
  | 0 => 256 ^ 35
  | 1 => 2 ^ 154
  | 2 => T130 + 2 ^ 27
  | _ => T130
theorem rbd_step (i V : Nat) (hi : i < 3) (h : V < rbd i) (hb : T130 ≤ V) : V % T130 + 5 * (V / T130) < rbd (i + 1) := by
  have hT0 : 0 < T130 := by decide +kernel
  have hc : i = 0 ∨ i = 1 ∨ i = 2 := by omega
  have hm : V % T130 < T130 := Nat.mod_lt _ hT0
  have hdm := Nat.div_add_mod V T130
  rcases hc with rfl | rfl | rfl
  · have hd : V / T130 < 2 ^ 150 := by
      rw [Nat.div_lt_iff_lt_mul hT0]
      exact Nat.lt_of_lt_of_le h (by decide +kernel)
    show _ < 2 ^ 154
    have : T130 + 5 * 2 ^ 150 < 2 ^ 154 := by decide +kernel
    omega
  · have hd : V / T130 < 2 ^ 24 := by
      rw [Nat.div_lt_iff_lt_mul hT0]
      exact Nat.lt_of_lt_of_le h (by decide +kernel)
    show _ < T130 + 2 ^ 27
    omega
  · have h' : V < T130 + 2 ^ 27 := h
    have h27 : 2 ^ 27 < T130 := by decide +kernel
    have hd : V / T130 = 1 := by
      apply Nat.div_eq_of_lt_le
      · rw [Nat.one_mul]; exact hb
      · rw [Nat.add_mul, Nat.one_mul]
        exact Nat.lt_trans h' (Nat.add_lt_add_left h27 _)
    rw [hd] at hdm ⊢
    show _ < T130
    have : 2 ^ 27 + 5 < T130 := by decide +kernel
    omega
theorem rbd_le (i V : Nat) (h : V < rbd i) : V < 256 ^ 35 := by
  match i, h with
  | 0, h => exact h
  | 1, h => exact Nat.lt_trans h (by decide +kernel)
  | 2, h => exact Nat.lt_trans h (by decide +kernel)
  | i + 3, h => exact Nat.lt_trans (show V < T130 from h) (by decide +kernel)
theorem red_less (V : Nat) (h : V < T130) (hb : V + 5 < T130) : V % T130 = V % P130 := by
  have := T_P
  rw [Nat.mod_eq_of_lt h, Nat.mod_eq_of_lt (by omega)]
theorem red_more (V : Nat) (h : V < T130) (hb : T130 ≤ V + 5) : (V + 5) % T130 = V % P130 := by
  have hT := T_P
  have h5 : 5 < P130 := by decide +kernel
  rw [show V + 5 = (V - P130) + T130 by omega, Nat.add_mod_right, Nat.mod_eq_of_lt (by omega), show V % P130 = V - P130 by
    rw [show V = (V - P130) + P130 by omega, Nat.add_mod_right, Nat.mod_eq_of_lt (by omega)]; omega]
end Go.Proofs.Ytfmfopbcgohdgaa
