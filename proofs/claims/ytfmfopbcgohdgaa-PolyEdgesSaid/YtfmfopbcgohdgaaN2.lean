/- Numbers of five limbs, modulo 2^130 - 5: the plain laws. -/
import Derived.Test.YtfmfopbcgohdgaaN1
namespace Go.Proofs.Ytfmfopbcgohdgaa
open Go.RowKit
set_option linter.unusedSimpArgs false
set_option linter.unusedVariables false

def T130 : Nat := 2 ^ 130
def P130 : Nat := T130 - 5
theorem T130_eq : T130 = 67108864 * (67108864 * (67108864 * (67108864 * 67108864))) := by decide +kernel
theorem T_P : T130 = P130 + 5 := by decide +kernel
theorem P_pos : 0 < P130 := by decide +kernel
theorem val_horner (f : Nat → Nat) : val f = f 0 + 67108864 * (f 1 + 67108864 * (f 2 + 67108864 * (f 3 + 67108864 * f 4))) := by
  unfold val; grind
theorem mul_lt_26 {x y : Nat} (c : Nat) (hx : x < 67108864) (hy : y < c) : x + 67108864 * y < 67108864 * c := by omega
theorem val_lt {f : Nat → Nat} (h : ∀ j, j < 5 → f j < 67108864) : val f < T130 := by
  rw [val_horner, T130_eq]
  exact mul_lt_26 _ (h 0 (by omega)) (mul_lt_26 _ (h 1 (by omega)) (mul_lt_26 _ (h 2 (by omega)) (mul_lt_26 _ (h 3 (by omega)) (h 4 (by omega)))))
theorem cry_step (f : Nat → Nat) (k : Nat) : f k + cry f k = 67108864 * cry f (k + 1) + lowd f k := by
  show f k + cry f k = 67108864 * ((f k + cry f k) / 67108864) + (f k + cry f k) % 67108864
  omega
theorem lowd_lt (f : Nat → Nat) (k : Nat) : lowd f k < 67108864 := Nat.mod_lt _ (by decide)
theorem val_low (f : Nat → Nat) : val f = val (lowd f) + T130 * cry f 5 := by
  have h0 := cry_step f 0; have h1 := cry_step f 1; have h2 := cry_step f 2; have h3 := cry_step f 3; have h4 := cry_step f 4
  have hc : cry f 0 = 0 := rfl
  rw [hc] at h0
  simp only [Nat.reduceAdd] at h0 h1 h2 h3 h4
  rw [val_horner f, val_horner (lowd f), T130_eq]
  generalize cry f 1 = c1 at *; generalize cry f 2 = c2 at *; generalize cry f 3 = c3 at *; generalize cry f 4 = c4 at *; generalize cry f 5 = c5 at *
  generalize lowd f 0 = l0 at *; generalize lowd f 1 = l1 at *; generalize lowd f 2 = l2 at *; generalize lowd f 3 = l3 at *; generalize lowd f 4 = l4 at *
  grind
theorem val_car (f : Nat → Nat) : val f = val (carR f) + P130 * cry f 5 := by
  have h := val_low f
  have e : val (carR f) = val (lowd f) + 5 * cry f 5 := by
    rw [val_horner, val_horner (lowd f)]
    show (lowd f 0 + 5 * cry f 5) % 67108864 + 67108864 * ((lowd f 1 + (lowd f 0 + 5 * cry f 5) / 67108864) + 67108864 * (lowd f 2 + 67108864 * (lowd f 3 + 67108864 * lowd f 4))) = _
    omega
  rw [h, e, T_P, Nat.add_mul]
  omega
theorem car_mod (f : Nat → Nat) : val (carR f) % P130 = val f % P130 := by
  rw [val_car f, Nat.add_mul_mod_self_left]
theorem cry_le (f : Nat → Nat) (B : Nat) (hB : B ≤ 17179869184) (hb : ∀ j, j < 5 → f j < 67108864 * B) : ∀ k, k ≤ 5 → cry f k ≤ B + 300 := by
  intro k
  induction k with
  | zero => intro _; exact Nat.zero_le _
  | succ k ih =>
    intro hk
    have h1 := ih (by omega); have h2 := hb k (by omega)
    show (f k + cry f k) / 67108864 ≤ B + 300
    omega
/-- The limbs of a number that has been carried. -/
def Lim (f : Nat → Nat) (m : Nat) : Prop := f 0 < 67108864 ∧ f 1 < 67108864 + m ∧ f 2 < 67108864 ∧ f 3 < 67108864 ∧ f 4 < 67108864
theorem Lim.all {f : Nat → Nat} {m : Nat} (h : Lim f m) (j : Nat) (hj : j < 5) : f j < 67108864 + m := by
  obtain ⟨h0, h1, h2, h3, h4⟩ := h
  have hc : j = 0 ∨ j = 1 ∨ j = 2 ∨ j = 3 ∨ j = 4 := by omega
  rcases hc with rfl | rfl | rfl | rfl | rfl <;> omega
theorem car_lim (f : Nat → Nat) (m : Nat) (hm : (67108863 + 5 * cry f 5) / 67108864 ≤ m) : Lim (carR f) (m + 1) := by
  have h0 := lowd_lt f 0; have h1 := lowd_lt f 1
  refine ⟨Nat.mod_lt _ (by decide), ?_, lowd_lt f 2, lowd_lt f 3, lowd_lt f 4⟩
  show lowd f 1 + (lowd f 0 + 5 * cry f 5) / 67108864 < _
  omega
/-- A product's limbs, carried. -/
theorem car_times (f p : Nat → Nat) (hf : ∀ j, j < 5 → f j < 268435456) (hp : ∀ j, j < 5 → p j < 134217728) : Lim (carR fun k => col f p k 5) 67108864 := by
  have hb : ∀ j, j < 5 → (fun k => col f p k 5) j < 67108864 * 17179869184 := fun j hj => by
    have := col_le f p hf hp j hj 5 (by omega)
    show col f p j 5 < _
    omega
  have hc := cry_le _ _ (Nat.le_refl _) hb 5 (by omega)
  have := car_lim (fun k => col f p k 5) 1300 (by omega)
  obtain ⟨h0, h1, h2, h3, h4⟩ := this
  exact ⟨h0, by omega, h2, h3, h4⟩
theorem val_times (f p : Nat → Nat) : val (fun k => col f p k 5) % P130 = val f * val p % P130 := by
  have e : val f * val p = val (fun k => col f p k 5) + P130 * (f 1 * p 4 + f 2 * p 3 + f 3 * p 2 + f 4 * p 1 + 67108864 * (f 2 * p 4 + f 3 * p 3 + f 4 * p 2) + 4503599627370496 * (f 3 * p 4 + f 4 * p 3) + 302231454903657293676544 * (f 4 * p 4)) := by
    have hP : P130 = 1361129467683753853853498429727072845819 := by decide +kernel
    rw [hP]
    have c0 : col f p 0 5 = f 0 * p 0 + 5 * f 1 * p 4 + 5 * f 2 * p 3 + 5 * f 3 * p 2 + 5 * f 4 * p 1 := by simp [col, term]
    have c1 : col f p 1 5 = f 0 * p 1 + f 1 * p 0 + 5 * f 2 * p 4 + 5 * f 3 * p 3 + 5 * f 4 * p 2 := by simp [col, term]
    have c2 : col f p 2 5 = f 0 * p 2 + f 1 * p 1 + f 2 * p 0 + 5 * f 3 * p 4 + 5 * f 4 * p 3 := by simp [col, term]
    have c3 : col f p 3 5 = f 0 * p 3 + f 1 * p 2 + f 2 * p 1 + f 3 * p 0 + 5 * f 4 * p 4 := by simp [col, term]
    have c4 : col f p 4 5 = f 0 * p 4 + f 1 * p 3 + f 2 * p 2 + f 3 * p 1 + f 4 * p 0 := by simp [col, term]
    show val f * val p = (col f p 0 5 + col f p 1 5 * 67108864 + col f p 2 5 * 4503599627370496 + col f p 3 5 * 302231454903657293676544 + col f p 4 5 * 20282409603651670423947251286016) + _
    rw [c0, c1, c2, c3, c4]
    unfold val
    generalize f 0 = a0; generalize f 1 = a1; generalize f 2 = a2; generalize f 3 = a3; generalize f 4 = a4
    generalize p 0 = b0; generalize p 1 = b1; generalize p 2 = b2; generalize p 3 = b3; generalize p 4 = b4
    grind
  rw [e, Nat.add_mul_mod_self_left]
/-- A number carried twice has all its limbs. -/
theorem car_once (f : Nat → Nat) (hb : ∀ j, j < 5 → f j < 134217728) : Lim (carR f) 2 := by
  have hc := cry_le f 2 (by omega) (fun j hj => by have := hb j hj; omega) 5 (by omega)
  exact car_lim f 1 (by omega)
theorem car_twice (f : Nat → Nat) (h : Lim f 2) (hbig : 67108864 ≤ f 1) : Lim (carR f) 0 := by
  obtain ⟨h0, h1, h2, h3, h4⟩ := h
  have c1 : cry f 1 = 0 := by show (f 0 + 0) / 67108864 = 0; omega
  have c2 : cry f 2 = 1 := by show (f 1 + cry f 1) / 67108864 = 1; rw [c1]; omega
  have c3 : cry f 3 ≤ 1 := by show (f 2 + cry f 2) / 67108864 ≤ 1; omega
  have c4 : cry f 4 ≤ 1 := by show (f 3 + cry f 3) / 67108864 ≤ 1; omega
  have c5 : cry f 5 ≤ 1 := by show (f 4 + cry f 4) / 67108864 ≤ 1; omega
  have l1 : lowd f 1 ≤ 1 := by show (f 1 + cry f 1) % 67108864 ≤ 1; rw [c1]; omega
  have l0 := lowd_lt f 0
  refine ⟨Nat.mod_lt _ (by decide), ?_, lowd_lt f 2, lowd_lt f 3, lowd_lt f 4⟩
  show lowd f 1 + (lowd f 0 + 5 * cry f 5) / 67108864 < _
  omega
/-- The limbs of a number and five, carried. -/
def wh (f : Nat → Nat) : Nat → Nat
  | 0 => f 0 + 5
  | k + 1 => f (k + 1) + wh f k / 67108864
def whM (f : Nat → Nat) (k : Nat) : Nat → Nat := fun j => if j < k then wh f j % 67108864 else if j = k then wh f k else f j
def whR (f : Nat → Nat) : Nat → Nat := fun j => wh f j % 67108864
theorem wh_lt (f : Nat → Nat) (h : ∀ j, j < 5 → f j < 67108864) : ∀ k, k < 5 → wh f k < 67108864 + 5 := by
  intro k
  induction k with
  | zero => intro _; have := h 0 (by omega); show f 0 + 5 < _; omega
  | succ k ih =>
    intro hk
    have h1 := ih (by omega); have h2 := h (k + 1) hk
    show f (k + 1) + wh f k / 67108864 < _
    omega
theorem wh_val (f : Nat → Nat) : val f + 5 = val (whR f) + T130 * (wh f 4 / 67108864) := by
  have e0 : f 0 + 5 = 67108864 * (wh f 0 / 67108864) + whR f 0 := by show wh f 0 = 67108864 * (wh f 0 / 67108864) + wh f 0 % 67108864; omega
  have e1 : f 1 + wh f 0 / 67108864 = 67108864 * (wh f 1 / 67108864) + whR f 1 := by show wh f 1 = 67108864 * (wh f 1 / 67108864) + wh f 1 % 67108864; omega
  have e2 : f 2 + wh f 1 / 67108864 = 67108864 * (wh f 2 / 67108864) + whR f 2 := by show wh f 2 = 67108864 * (wh f 2 / 67108864) + wh f 2 % 67108864; omega
  have e3 : f 3 + wh f 2 / 67108864 = 67108864 * (wh f 3 / 67108864) + whR f 3 := by show wh f 3 = 67108864 * (wh f 3 / 67108864) + wh f 3 % 67108864; omega
  have e4 : f 4 + wh f 3 / 67108864 = 67108864 * (wh f 4 / 67108864) + whR f 4 := by show wh f 4 = 67108864 * (wh f 4 / 67108864) + wh f 4 % 67108864; omega
  rw [val_horner f, val_horner (whR f), T130_eq]
  generalize wh f 0 / 67108864 = d0 at *; generalize wh f 1 / 67108864 = d1 at *; generalize wh f 2 / 67108864 = d2 at *; generalize wh f 3 / 67108864 = d3 at *; generalize wh f 4 / 67108864 = d4 at *
  generalize whR f 0 = r0 at *; generalize whR f 1 = r1 at *; generalize whR f 2 = r2 at *; generalize whR f 3 = r3 at *; generalize whR f 4 = r4 at *
  grind
theorem whR_lt (f : Nat → Nat) (j : Nat) : whR f j < 67108864 := Nat.mod_lt _ (by decide)
/-- It is below 2^130 - 5: it is itself; else what is left is it. -/
theorem wh_small (f : Nat → Nat) (h : ∀ j, j < 5 → f j < 67108864) (h0 : wh f 4 / 67108864 = 0) : val f = val f % P130 := by
  have hv := wh_val f
  have hl := val_lt (f := whR f) (fun j _ => whR_lt f j)
  have e : val f + 5 < T130 := by rw [hv, h0, Nat.mul_zero, Nat.add_zero]; exact hl
  have hT := T_P
  exact (Nat.mod_eq_of_lt (by omega)).symm
theorem wh_big (f : Nat → Nat) (h : ∀ j, j < 5 → f j < 67108864) (h0 : wh f 4 / 67108864 ≠ 0) : val (whR f) = val f % P130 := by
  have hv := wh_val f
  have hl := val_lt h
  have h4 := wh_lt f h 4 (by omega)
  have h1 : wh f 4 / 67108864 = 1 := by omega
  rw [h1, Nat.mul_one] at hv
  have hT := T_P
  have hlt : val (whR f) < P130 := by
    have : 5 < P130 := by decide +kernel
    omega
  have e : val f = val (whR f) + P130 * 1 := by omega
  rw [e, Nat.add_mul_mod_self_left, Nat.mod_eq_of_lt hlt]
end Go.Proofs.Ytfmfopbcgohdgaa
