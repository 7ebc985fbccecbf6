/- Numbers of five limbs, modulo 2^130 - 5: the plain laws. Digits of eight bits: the plain laws. The bytes of limbs: the plain law. A text's tag: what it is, in numbers. Numbers as lists of digits: the plain laws of the reference. -/
import Derived.Test.YtpnpmploaaenlaaMN1
namespace Go.Proofs.Ytpnpmploaaenlaa
open Go.RowKit
set_option linter.unusedSimpArgs false
set_option linter.unusedVariables false

def T130 : Nat := 2 ^ 130
def P130 : Nat := T130 - 5
theorem T130_eq : T130 = 67108864 * (67108864 * (67108864 * (67108864 * 67108864))) := by decide +kernel
theorem T_P : T130 = P130 + 5 := by decide +kernel
theorem P_pos : 0 < P130 := by decide +kernel
theorem val_horner (f : Nat → Nat) : val f = f 0 + 67108864 * (f 1 + 67108864 * (f 2 + 67108864 * (f 3 + 67108864 * f 4))) := by
  unfold val; grind
theorem mul_lt_26 {x y : Nat} (c : Nat) (hx : x < 67108864) (hy : y < c) : x + 67108864 * y < 67108864 * c := by omega
theorem val_lt {f : Nat → Nat} (h : ∀ j, j < 5 → f j < 67108864) : val f < T130 := by
  rw [val_horner, T130_eq]
  exact mul_lt_26 _ (h 0 (by omega)) (mul_lt_26 _ (h 1 (by omega)) (mul_lt_26 _ (h 2 (by omega)) (mul_lt_26 _ (h 3 (by omega)) (h 4 (by omega)))))
theorem cry_step (f : Nat → Nat) (k : Nat) : f k + cry f k = 67108864 * cry f (k + 1) + lowd f k := by
  show f k + cry f k = 67108864 * ((f k + cry f k) / 67108864) + (f k + cry f k) % 67108864
  omega
theorem lowd_lt (f : Nat → Nat) (k : Nat) : lowd f k < 67108864 := Nat.mod_lt _ (by decide)
theorem val_low (f : Nat → Nat) : val f = val (lowd f) + T130 * cry f 5 := by
  have h0 := cry_step f 0; have h1 := cry_step f 1; have h2 := cry_step f 2; have h3 := cry_step f 3; have h4 := cry_step f 4
  have hc : cry f 0 = 0 := rfl
  rw [hc] at h0
  simp only [Nat.reduceAdd] at h0 h1 h2 h3 h4
  rw [val_horner f, val_horner (lowd f), T130_eq]
  generalize cry f 1 = c1 at *; generalize cry f 2 = c2 at *; generalize cry f 3 = c3 at *; generalize cry f 4 = c4 at *; generalize cry f 5 = c5 at *
  generalize lowd f 0 = l0 at *; generalize lowd f 1 = l1 at *; generalize lowd f 2 = l2 at *; generalize lowd f 3 = l3 at *; generalize lowd f 4 = l4 at *
  grind
theorem val_car (f : Nat → Nat) : val f = val (carR f) + P130 * cry f 5 := by
  have h := val_low f
  have e : val (carR f) = val (lowd f) + 5 * cry f 5 := by
    rw [val_horner, val_horner (lowd f)]
    show (lowd f 0 + 5 * cry f 5) % 67108864 + 67108864 * ((lowd f 1 + (lowd f 0 + 5 * cry f 5) / 67108864) + 67108864 * (lowd f 2 + 67108864 * (lowd f 3 + 67108864 * lowd f 4))) = _
    omega
  rw [h, e, T_P, Nat.add_mul]
  omega
theorem car_mod (f : Nat → Nat) : val (carR f) % P130 = val f % P130 := by
  rw [val_car f, Nat.add_mul_mod_self_left]
theorem cry_le (f : Nat → Nat) (B : Nat) (hB : B ≤ 17179869184) (hb : ∀ j, j < 5 → f j < 67108864 * B) : ∀ k, k ≤ 5 → cry f k ≤ B + 300 := by
  intro k
  induction k with
  | zero => intro _; exact Nat.zero_le _
  | succ k ih =>
    intro hk
    have h1 := ih (by omega); have h2 := hb k (by omega)
    show (f k + cry f k) / 67108864 ≤ B + 300
    omega
/-- The limbs of a number that has been carried. -/
def Lim (f : Nat → Nat) (m : Nat) : Prop := f 0 < 67108864 ∧ f 1 < 67108864 + m ∧ f 2 < 67108864 ∧ f 3 < 67108864 ∧ f 4 < 67108864
theorem Lim.all {f : Nat → Nat} {m : Nat} (h : Lim f m) (j : Nat) (hj : j < 5) : f j < 67108864 + m := by
  obtain ⟨h0, h1, h2, h3, h4⟩ := h
  have hc : j = 0 ∨ j = 1 ∨ j = 2 ∨ j = 3 ∨ j = 4 := by omega
  rcases hc with rfl | rfl | rfl | rfl | rfl <;> omega
theorem car_lim (f : Nat → Nat) (m : Nat) (hm : (67108863 + 5 * cry f 5) / 67108864 ≤ m) : Lim (carR f) (m + 1) := by
  have h0 := lowd_lt f 0; have h1 := lowd_lt f 1
  refine ⟨Nat.mod_lt _ (by decide), ?_, lowd_lt f 2, lowd_lt f 3, lowd_lt f 4⟩
  show lowd f 1 + (lowd f 0 + 5 * cry f 5) / 67108864 < _
  omega
/-- A product's limbs, carried. -/
theorem car_times (f p : Nat → Nat) (hf : ∀ j, j < 5 → f j < 268435456) (hp : ∀ j, j < 5 → p j < 134217728) : Lim (carR fun k => col f p k 5) 67108864 := by
  have hb : ∀ j, j < 5 → (fun k => col f p k 5) j < 67108864 * 17179869184 := fun j hj => by
    have := col_le f p hf hp j hj 5 (by omega)
    show col f p j 5 < _
    omega
  have hc := cry_le _ _ (Nat.le_refl _) hb 5 (by omega)
  have := car_lim (fun k => col f p k 5) 1300 (by omega)
  obtain ⟨h0, h1, h2, h3, h4⟩ := this
  exact ⟨h0, by omega, h2, h3, h4⟩
theorem val_times (f p : Nat → Nat) : val (fun k => col f p k 5) % P130 = val f * val p % P130 := by
  have e : val f * val p = val (fun k => col f p k 5) + P130 * (f 1 * p 4 + f 2 * p 3 + f 3 * p 2 + f 4 * p 1 + 67108864 * (f 2 * p 4 + f 3 * p 3 + f 4 * p 2) + 4503599627370496 * (f 3 * p 4 + f 4 * p 3) + 302231454903657293676544 * (f 4 * p 4)) := by
    have hP : P130 = 1361129467683753853853498429727072845819 := by decide +kernel
    rw [hP]
    have c0 : col f p 0 5 = f 0 * p 0 + 5 * f 1 * p 4 + 5 * f 2 * p 3 + 5 * f 3 * p 2 + 5 * f 4 * p 1 := by simp [col, term]
    have c1 : col f p 1 5 = f 0 * p 1 + f 1 * p 0 + 5 * f 2 * p 4 + 5 * f 3 * p 3 + 5 * f 4 * p 2 := by simp [col, term]
    have c2 : col f p 2 5 = f 0 * p 2 + f 1 * p 1 + f 2 * p 0 + 5 * f 3 * p 4 + 5 * f 4 * p 3 := by simp [col, term]
    have c3 : col f p 3 5 = f 0 * p 3 + f 1 * p 2 + f 2 * p 1 + f 3 * p 0 + 5 * f 4 * p 4 := by simp [col, term]
    have c4 : col f p 4 5 = f 0 * p 4 + f 1 * p 3 + f 2 * p 2 + f 3 * p 1 + f 4 * p 0 := by simp [col, term]
    show val f * val p = (col f p 0 5 + col f p 1 5 * 67108864 + col f p 2 5 * 4503599627370496 + col f p 3 5 * 302231454903657293676544 + col f p 4 5 * 20282409603651670423947251286016) + _
    rw [c0, c1, c2, c3, c4]
    unfold val
    generalize f 0 = a0; generalize f 1 = a1; generalize f 2 = a2; generalize f 3 = a3; generalize f 4 = a4
    generalize p 0 = b0; generalize p 1 = b1; generalize p 2 = b2; generalize p 3 = b3; generalize p 4 = b4
    grind
  rw [e, Nat.add_mul_mod_self_left]
/-- A number carried twice has all its limbs. -/
theorem car_once (f : Nat → Nat) (hb : ∀ j, j < 5 → f j < 134217728) : Lim (carR f) 2 := by
  have hc := cry_le f 2 (by omega) (fun j hj => by have := hb j hj; omega) 5 (by omega)
  exact car_lim f 1 (by omega)
theorem car_twice (f : Nat → Nat) (h : Lim f 2) (hbig : 67108864 ≤ f 1) : Lim (carR f) 0 := by
  obtain ⟨h0, h1, h2, h3, h4⟩ := h
  have c1 : cry f 1 = 0 := by show (f 0 + 0) / 67108864 = 0; omega
  have c2 : cry f 2 = 1 := by show (f 1 + cry f 1) / 67108864 = 1; rw [c1]; omega
  have c3 : cry f 3 ≤ 1 := by show (f 2 + cry f 2) / 67108864 ≤ 1; omega
  have c4 : cry f 4 ≤ 1 := by show (f 3 + cry f 3) / 67108864 ≤ 1; omega
  have c5 : cry f 5 ≤ 1 := by show (f 4 + cry f 4) / 67108864 ≤ 1; omega
  have l1 : lowd f 1 ≤ 1 := by show (f 1 + cry f 1) % 67108864 ≤ 1; rw [c1]; omega
  have l0 := lowd_lt f 0
  refine ⟨Nat.mod_lt _ (by decide), ?_, lowd_lt f 2, lowd_lt f 3, lowd_lt f 4⟩
  show lowd f 1 + (lowd f 0 + 5 * cry f 5) / 67108864 < _
  omega
/-- The limbs of a number and five, carried. -/
def wh (f : Nat → Nat) : Nat → Nat
  | 0 => f 0 + 5
  | k + 1 => f (k + 1) + wh f k / 67108864
def whM (f : Nat → Nat) (k : Nat) : Nat → Nat := fun j => if j < k then wh f j % 67108864 else if j = k then wh f k else f j
def whR (f : Nat → Nat) : Nat → Nat := fun j => wh f j % 67108864
theorem wh_lt (f : Nat → Nat) (h : ∀ j, j < 5 → f j < 67108864) : ∀ k, k < 5 → wh f k < 67108864 + 5 := by
  intro k
  induction k with
  | zero => intro _; have := h 0 (by omega); show f 0 + 5 < _; omega
  | succ k ih =>
    intro hk
    have h1 := ih (by omega); have h2 := h (k + 1) hk
    show f (k + 1) + wh f k / 67108864 < _
    omega
theorem wh_val (f : Nat → Nat) : val f + 5 = val (whR f) + T130 * (wh f 4 / 67108864) := by
  have e0 : f 0 + 5 = 67108864 * (wh f 0 / 67108864) + whR f 0 := by show wh f 0 = 67108864 * (wh f 0 / 67108864) + wh f 0 % 67108864; omega
  have e1 : f 1 + wh f 0 / 67108864 = 67108864 * (wh f 1 / 67108864) + whR f 1 := by show wh f 1 = 67108864 * (wh f 1 / 67108864) + wh f 1 % 67108864; omega
  have e2 : f 2 + wh f 1 / 67108864 = 67108864 * (wh f 2 / 67108864) + whR f 2 := by show wh f 2 = 67108864 * (wh f 2 / 67108864) + wh f 2 % 67108864; omega
  have e3 : f 3 + wh f 2 / 67108864 = 67108864 * (wh f 3 / 67108864) + whR f 3 := by show wh f 3 = 67108864 * (wh f 3 / 67108864) + wh f 3 % 67108864; omega
  have e4 : f 4 + wh f 3 / 67108864 = 67108864 * (wh f 4 / 67108864) + whR f 4 := by show wh f 4 = 67108864 * (wh f 4 / 67108864) + wh f 4 % 67108864; omega
  rw [val_horner f, val_horner (whR f), T130_eq]
  generalize wh f 0 / 67108864 = d0 at *; generalize wh f 1 / 67108864 = d1 at *; generalize wh f 2 / 67108864 = d2 at *; generalize wh f 3 / 67108864 = d3 at *; generalize wh f 4 / 67108864 = d4 at *
  generalize whR f 0 = r0 at *; generalize whR f 1 = r1 at *; generalize whR f 2 = r2 at *; generalize whR f 3 = r3 at *; generalize whR f 4 = r4 at *
  grind
theorem whR_lt (f : Nat → Nat) (j : Nat) : whR f j < 67108864 := Nat.mod_lt _ (by decide)
/-- It is below 2^130 - 5: it is itself; else what is left is it. -/
theorem wh_small (f : Nat → Nat) (h : ∀ j, j < 5 → f j < 67108864) (h0 : wh f 4 / 67108864 = 0) : val f = val f % P130 := by
  have hv := wh_val f
  have hl := val_lt (f := whR f) (fun j _ => whR_lt f j)
  have e : val f + 5 < T130 := by rw [hv, h0, Nat.mul_zero, Nat.add_zero]; exact hl
  have hT := T_P
  exact (Nat.mod_eq_of_lt (by omega)).symm
theorem wh_big (f : Nat → Nat) (h : ∀ j, j < 5 → f j < 67108864) (h0 : wh f 4 / 67108864 ≠ 0) : val (whR f) = val f % P130 := by
  have hv := wh_val f
  have hl := val_lt h
  have h4 := wh_lt f h 4 (by omega)
  have h1 : wh f 4 / 67108864 = 1 := by omega
  rw [h1, Nat.mul_one] at hv
  have hT := T_P
  have hlt : val (whR f) < P130 := by
    have : 5 < P130 := by decide +kernel
    omega
  have e : val f = val (whR f) + P130 * 1 := by omega
  rw [e, Nat.add_mul_mod_self_left, Nat.mod_eq_of_lt hlt]
end Go.Proofs.Ytpnpmploaaenlaa
namespace Go.Proofs.Ytpnpmploaaenlaa
open Go.RowKit
set_option linter.unusedSimpArgs false
set_option linter.unusedVariables false

def sh (A k : Nat) : Nat := A / 256 ^ k
def dgt (A k : Nat) : Nat := A / 256 ^ k % 256
theorem sh_succ (A k : Nat) : sh A (k + 1) = sh A k / 256 := by unfold sh; rw [Nat.pow_succ, Nat.div_div_eq_div_mul]
theorem sh_zero (A : Nat) : sh A 0 = A := by unfold sh; rw [Nat.pow_zero, Nat.div_one]
theorem dgt_sh (A k : Nat) : dgt A k = sh A k % 256 := rfl
theorem dgt_lt (A k : Nat) : dgt A k < 256 := Nat.mod_lt _ (by decide)
theorem sh_step (A k : Nat) : sh A k = 256 * sh A (k + 1) + dgt A k := by rw [sh_succ, dgt_sh]; omega
/-- A number of digits. -/
def le (b : Nat → Nat) : Nat → Nat
  | 0 => 0
  | k + 1 => le b k + b k * 256 ^ k
theorem leN_le (s : ByteArray) (k : Nat) : leN s k = le (byteAt s) k := by
  induction k with
  | zero => rfl
  | succ k ih => show leN s k + _ = le (byteAt s) k + _; rw [ih]
theorem le_lt (b : Nat → Nat) (n : Nat) (hb : ∀ i, i < n → b i < 256) : le b n < 256 ^ n := by
  induction n with
  | zero => show 0 < 1; omega
  | succ n ih =>
    have h1 := ih (fun i hi => hb i (by omega))
    have h2 := hb n (by omega)
    show le b n + b n * 256 ^ n < 256 ^ (n + 1)
    rw [Nat.pow_succ]
    have : b n * 256 ^ n ≤ 255 * 256 ^ n := Nat.mul_le_mul_right _ (by omega)
    omega
theorem le_congr (b c : Nat → Nat) (n : Nat) (h : ∀ i, i < n → b i = c i) : le b n = le c n := by
  induction n with
  | zero => rfl
  | succ n ih => show le b n + _ = le c n + _; rw [ih (fun i hi => h i (by omega)), h n (by omega)]
theorem le_dgt (A n : Nat) : le (dgt A) n = A % 256 ^ n := by
  induction n with
  | zero => show 0 = A % 1; omega
  | succ n ih =>
    show le (dgt A) n + dgt A n * 256 ^ n = _
    rw [ih, Nat.pow_succ, Nat.mod_mul, Nat.mul_comm (256 ^ n)]
    rfl
theorem dgt_le (b : Nat → Nat) (n : Nat) (hb : ∀ i, i < n → b i < 256) (k : Nat) (hk : k < n) : dgt (le b n) k = b k := by
  induction n with
  | zero => omega
  | succ n ih =>
    show (le b n + b n * 256 ^ n) / 256 ^ k % 256 = b k
    have hlt := le_lt b n (fun i hi => hb i (by omega))
    by_cases e : k = n
    · subst e
      rw [Nat.add_mul_div_right _ _ (Nat.pow_pos (by decide)), Nat.div_eq_of_lt hlt, Nat.zero_add, Nat.mod_eq_of_lt (hb k (by omega))]
    · have hkn : k < n := by omega
      have e1 : b n * 256 ^ n = 256 ^ k * (b n * 256 ^ (n - k - 1) * 256) := by
        have : 256 ^ n = 256 ^ k * (256 ^ (n - k - 1) * 256) := by
          rw [← Nat.pow_succ, ← Nat.pow_add]; congr 1; omega
        rw [this]; rw [← Nat.mul_assoc, Nat.mul_comm (b n), Nat.mul_assoc, Nat.mul_assoc]
      rw [e1, Nat.add_mul_div_left _ _ (Nat.pow_pos (by decide)), Nat.add_mul_mod_self_right]
      exact ih (fun i hi => hb i (by omega)) hkn
theorem dgt_ext {A B n : Nat} (hA : A < 256 ^ n) (hB : B < 256 ^ n) (h : ∀ i, i < n → dgt A i = dgt B i) : A = B := by
  have h1 := le_dgt A n; have h2 := le_dgt B n
  rw [Nat.mod_eq_of_lt hA] at h1
  rw [Nat.mod_eq_of_lt hB] at h2
  rw [← h1, ← h2]
  exact le_congr _ _ _ h
/-- Any digits, carried: what is carried. -/
def car (z : Nat → Nat) : Nat → Nat
  | 0 => 0
  | k + 1 => (car z k + z k) / 256
/-- A carried digit is the number's. -/
theorem car_sh (z : Nat → Nat) (n : Nat) : ∀ k, k ≤ n → ∃ R, le z n = R * 256 ^ k + (le z n) % 256 ^ k ∧ sh (le z n) k = R := by
  intro k _
  refine ⟨le z n / 256 ^ k, ?_, rfl⟩
  rw [Nat.mul_comm]; exact (Nat.div_add_mod _ _).symm
/-- What stands from digit k on. -/
def tail (z : Nat → Nat) (n k : Nat) : Nat := le (fun i => z (k + i)) (n - k)
theorem le_head (z : Nat → Nat) (n : Nat) : le z (n + 1) = z 0 + 256 * le (fun i => z (1 + i)) n := by
  induction n with
  | zero => show 0 + z 0 * 1 = z 0 + 256 * 0; omega
  | succ n ih =>
    show le z (n + 1) + z (n + 1) * 256 ^ (n + 1) = z 0 + 256 * (le (fun i => z (1 + i)) n + z (1 + n) * 256 ^ n)
    rw [ih, Nat.pow_succ, Nat.add_comm 1 n, Nat.mul_add, ← Nat.mul_assoc (z (n + 1)), Nat.mul_comm 256 (z (n + 1) * 256 ^ n)]
    omega
theorem car_tail (z : Nat → Nat) (n : Nat) : ∀ k, k ≤ n → sh (le z n) k = tail z n k + car z k := by
  intro k
  induction k with
  | zero => intro _; rw [sh_zero]; unfold tail; simp [car]
  | succ k ih =>
    intro hk
    have h := ih (by omega)
    rw [sh_succ, h]
    have e : tail z n k = z k + 256 * tail z n (k + 1) := by
      unfold tail
      rw [show n - k = (n - (k + 1)) + 1 by omega, le_head]
      congr 2
      exact le_congr _ _ _ (fun i _ => by rw [show k + 1 + i = k + (1 + i) by omega])
    rw [e]
    show (z k + 256 * tail z n (k + 1) + car z k) / 256 = tail z n (k + 1) + (car z k + z k) / 256
    omega
theorem car_dgt (z : Nat → Nat) (n k : Nat) (hk : k < n) : (car z k + z k) % 256 = dgt (le z n) k := by
  rw [dgt_sh, car_tail z n k (by omega)]
  have e : tail z n k = z k + 256 * tail z n (k + 1) := by
    unfold tail
    rw [show n - k = (n - (k + 1)) + 1 by omega, le_head]
    congr 2
    exact le_congr _ _ _ (fun i _ => by rw [show k + 1 + i = k + (1 + i) by omega])
  rw [e]; omega
theorem le_add (a b : Nat → Nat) (n : Nat) : le (fun i => a i + b i) n = le a n + le b n := by
  induction n with
  | zero => rfl
  | succ n ih => show le _ n + (a n + b n) * _ = le a n + a n * _ + (le b n + b n * _); rw [ih, Nat.add_mul]; omega
theorem car_lt (z : Nat → Nat) (B : Nat) (hz : ∀ i, z i ≤ 255 * B) (k : Nat) : car z k ≤ B := by
  induction k with
  | zero => exact Nat.zero_le _
  | succ k ih =>
    have := hz k
    show (car z k + z k) / 256 ≤ B
    omega
/-- The lowest n bytes of a number. -/
def leS (V n : Nat) : ByteArray := ⟨((List.range n).map fun k => UInt8.ofNat (dgt V k)).toArray⟩
theorem leS_size (V n : Nat) : (leS V n).size = n := by show ((List.range n).map _).toArray.size = n; simp
theorem leS_at (V n k : Nat) (hk : k < n) : byteAt (leS V n) k = dgt V k := by
  unfold byteAt bytes leS
  rw [List.getD_eq_getElem?_getD, List.getElem?_map, List.getElem?_range hk]
  simp only [Option.map_some, Option.getD_some]
  rw [UInt8.toNat_ofNat']
  exact Nat.mod_eq_of_lt (dgt_lt _ _)
theorem leS_congr {V W n : Nat} (h : V % 256 ^ n = W % 256 ^ n) : leS V n = leS W n := by
  unfold leS
  congr 2
  apply List.map_congr_left
  intro k hk
  rw [List.mem_range] at hk
  have e : ∀ V, dgt V k = dgt (V % 256 ^ n) k := fun V => by
    rw [← le_dgt V n, dgt_le _ n (fun i _ => dgt_lt _ _) k hk]
  rw [e V, e W, h]
end Go.Proofs.Ytpnpmploaaenlaa
namespace Go.Proofs.Ytpnpmploaaenlaa
open Go.RowKit
set_option linter.unusedSimpArgs false
set_option linter.unusedVariables false

def tl (f : Nat → Nat) (q : Nat) : Nat := val f / 67108864 ^ q
theorem tl_succ (f : Nat → Nat) (q : Nat) : tl f (q + 1) = tl f q / 67108864 := by unfold tl; rw [Nat.pow_succ, Nat.div_div_eq_div_mul]
theorem tl_all (f : Nat → Nat) (h : ∀ j, j < 5 → f j < 67108864) : tl f 0 = f 0 + 67108864 * tl f 1 ∧ tl f 1 = f 1 + 67108864 * tl f 2 ∧ tl f 2 = f 2 + 67108864 * tl f 3 ∧ tl f 3 = f 3 + 67108864 * tl f 4 ∧ tl f 4 = f 4 + 67108864 * tl f 5 ∧ tl f 5 = 0 := by
  have h0 := h 0 (by omega); have h1 := h 1 (by omega); have h2 := h 2 (by omega); have h3 := h 3 (by omega); have h4 := h 4 (by omega)
  have e0 : tl f 0 = f 0 + 67108864 * (f 1 + 67108864 * (f 2 + 67108864 * (f 3 + 67108864 * f 4))) := by unfold tl; rw [Nat.pow_zero, Nat.div_one, val_horner]
  have e1 : tl f 1 = f 1 + 67108864 * (f 2 + 67108864 * (f 3 + 67108864 * f 4)) := by rw [tl_succ, e0]; omega
  have e2 : tl f 2 = f 2 + 67108864 * (f 3 + 67108864 * f 4) := by rw [tl_succ, e1]; omega
  have e3 : tl f 3 = f 3 + 67108864 * f 4 := by rw [tl_succ, e2]; omega
  have e4 : tl f 4 = f 4 := by rw [tl_succ, e3]; omega
  have e5 : tl f 5 = 0 := by rw [tl_succ, e4]; omega
  refine ⟨by rw [e0, e1], by rw [e1, e2], by rw [e2, e3], by rw [e3, e4], by rw [e4, e5, Nat.mul_zero, Nat.add_zero], e5⟩
theorem tl_any (f : Nat → Nat) (h : ∀ j, j < 5 → f j < 67108864) (q : Nat) (hq : q < 5) : tl f q = f q + 67108864 * tl f (q + 1) := by
  obtain ⟨a0, a1, a2, a3, a4, _⟩ := tl_all f h
  have hc : q = 0 ∨ q = 1 ∨ q = 2 ∨ q = 3 ∨ q = 4 := by omega
  rcases hc with rfl | rfl | rfl | rfl | rfl
  · exact a0
  · exact a1
  · exact a2
  · exact a3
  · exact a4
theorem byte_tl (f : Nat → Nat) (k q r : Nat) (hq : q = 8 * k / 26) (hr : r = 8 * k % 26) : dgt (val f) k = tl f q / 2 ^ r % 256 := by
  unfold dgt tl
  rw [Nat.div_div_eq_div_mul]
  have e : 256 ^ k = 67108864 ^ q * 2 ^ r := by
    rw [show (256 : Nat) = 2 ^ 8 from rfl, show (67108864 : Nat) = 2 ^ 26 from rfl, ← Nat.pow_mul, ← Nat.pow_mul, ← Nat.pow_add]
    congr 1; omega
  rw [e]
theorem limb_mid (f : Nat → Nat) (h : ∀ j, j < 5 → f j < 67108864) (k q r t : Nat) (hk : k < 16) (hq : q = 8 * k / 26) (hr : r = 8 * k % 26) (ht : t = 26 - r) (hq4 : q + 1 < 5) :
    f q / 2 ^ r < 2 ^ t ∧ f q / 2 ^ r + f (q + 1) * 2 ^ t < 4503599627370496 ∧ (f q / 2 ^ r + f (q + 1) * 2 ^ t) % 256 = dgt (val f) k := by
  rw [byte_tl f k q r hq hr, tl_any f h q (by omega), tl_any f h (q + 1) hq4]
  have h1 := h q (by omega); have h2 := h (q + 1) hq4
  generalize f q = A at *; generalize f (q + 1) = B at *; generalize tl f (q + 1 + 1) = Z at *
  have hc : r = 0 ∨ r = 2 ∨ r = 4 ∨ r = 6 ∨ r = 8 ∨ r = 10 ∨ r = 12 ∨ r = 14 ∨ r = 16 ∨ r = 18 ∨ r = 20 ∨ r = 22 ∨ r = 24 := by omega
  clear hq hr h
  rcases hc with rfl | rfl | rfl | rfl | rfl | rfl | rfl | rfl | rfl | rfl | rfl | rfl | rfl <;> (simp only [Nat.reduceSub] at ht; subst ht; simp only [Nat.reducePow]; omega)
theorem limb_top (f : Nat → Nat) (h : ∀ j, j < 5 → f j < 67108864) (k r : Nat) (hk : k < 16) (hq : 4 = 8 * k / 26) (hr : r = 8 * k % 26) : f 4 / 2 ^ r % 256 = dgt (val f) k := by
  rw [byte_tl f k 4 r hq hr, tl_any f h 4 (by omega), (tl_all f h).2.2.2.2.2, Nat.mul_zero, Nat.add_zero]
end Go.Proofs.Ytpnpmploaaenlaa
namespace Go.Proofs.Ytpnpmploaaenlaa
open Go.RowKit
set_option linter.unusedSimpArgs false
set_option linter.unusedVariables false

/-- How many bytes block k has. -/
def bn (s : ByteArray) (k : Nat) : Nat := min 16 (s.size - 16 * k)
/-- Block k's bytes, and a byte 1 behind. -/
def bl (s : ByteArray) (k j : Nat) : Nat := if j < bn s k then byteAt s (16 * k + j) else 1
def blkN (s : ByteArray) (k : Nat) : Nat := le (bl s k) (bn s k + 1)
/-- The sum behind k blocks. -/
def macA (s : ByteArray) (r : Nat) : Nat → Nat
  | 0 => 0
  | k + 1 => (macA s r k + blkN s k) * r % P130
def blocks (s : ByteArray) : Nat := (s.size + 15) / 16
/-- What stands behind k blocks. -/
def rest (s : ByteArray) (k : Nat) : ByteArray := s.extract (16 * k) s.size
theorem bytes_extract (s : ByteArray) (a b : Nat) : bytes (s.extract a b) = ((bytes s).drop a).take (b - a) := by
  unfold bytes
  simp [ByteArray.data_extract, Array.toList_extract, List.drop_take]
theorem rest_size (s : ByteArray) (k : Nat) : (rest s k).size = s.size - 16 * k := by
  unfold rest; simp
theorem rest_zero (s : ByteArray) : rest s 0 = s := by
  unfold rest; simp
theorem byteAt_extract (s : ByteArray) (a b j : Nat) (hj : a + j < b) : byteAt (s.extract a b) j = byteAt s (a + j) := by
  unfold byteAt
  rw [bytes_extract, List.getD_eq_getElem?_getD, List.getD_eq_getElem?_getD, List.getElem?_take, if_pos (by omega), List.getElem?_drop]
theorem rest_at (s : ByteArray) (k j : Nat) (h : 16 * k + j < s.size) : byteAt (rest s k) j = byteAt s (16 * k + j) := byteAt_extract _ _ _ _ h
theorem rest_rest (s : ByteArray) (k : Nat) (h : 16 * k + 16 ≤ s.size) : (rest s k).extract 16 (rest s k).size = rest s (k + 1) := by
  have hs := rest_size s k
  rw [hs]
  unfold rest
  rw [ByteArray.extract_extract]
  congr 1
  omega
theorem byteAt_append_left (a b : ByteArray) (j : Nat) (h : j < a.size) : byteAt (a ++ b) j = byteAt a j := by
  have : bytes (a ++ b) = bytes a ++ bytes b := by unfold bytes; simp
  unfold byteAt
  rw [this, List.getD_eq_getElem?_getD, List.getElem?_append_left (by simpa [bytes] using h), List.getD_eq_getElem?_getD]
theorem byteAt_append_right (a b : ByteArray) (j : Nat) (h : a.size ≤ j) : byteAt (a ++ b) j = byteAt b (j - a.size) := by
  have : bytes (a ++ b) = bytes a ++ bytes b := by unfold bytes; simp
  have hl : (bytes a).length = a.size := by simp [bytes]
  unfold byteAt
  rw [this, List.getD_eq_getElem?_getD, List.getElem?_append_right (by omega), List.getD_eq_getElem?_getD, hl]
theorem byteAt_beyond (s : ByteArray) (j : Nat) (h : s.size ≤ j) : byteAt s j = 0 := by
  unfold byteAt
  rw [List.getD_eq_getElem?_getD, List.getElem?_eq_none (by simpa [bytes] using h)]
  rfl
def one1 : ByteArray := ⟨#[1]⟩
theorem blk_size (s : ByteArray) (k n : Nat) (hn : n ≤ (rest s k).size) : ((rest s k).extract 0 n ++ one1).size = n + 1 := by
  simp [one1]; have : (⟨#[1]⟩ : ByteArray).size = 1 := rfl
  omega
theorem blk_at (s : ByteArray) (k : Nat) (j : Nat) (hj : j < bn s k + 1) : byteAt ((rest s k).extract 0 (bn s k) ++ one1) j = bl s k j := by
  have hs := rest_size s k
  have hb : bn s k ≤ s.size - 16 * k := Nat.min_le_right _ _
  have he : ((rest s k).extract 0 (bn s k)).size = bn s k := by simp; omega
  unfold bl
  by_cases h : j < bn s k
  · rw [if_pos h, byteAt_append_left _ _ _ (by rw [he]; exact h), byteAt_extract _ _ _ _ (by omega), Nat.zero_add, rest_at _ _ _ (by omega)]
  · rw [if_neg h, byteAt_append_right _ _ _ (by rw [he]; omega), he, show j - bn s k = 0 by omega]
    rfl
theorem blk_top (s : ByteArray) (k : Nat) : byteAt ((rest s k).extract 0 (bn s k) ++ one1) 16 < 4 := by
  have hs := rest_size s k
  have hn := blk_size s k (bn s k) (by rw [hs]; exact Nat.min_le_right _ _)
  have h16 : bn s k ≤ 16 := Nat.min_le_left _ _
  by_cases h : bn s k = 16
  · rw [blk_at s k 16 (by omega)]
    unfold bl
    rw [if_neg (by omega)]; omega
  · rw [byteAt_beyond _ _ (by omega)]; omega
theorem blk_num (s : ByteArray) (k : Nat) : leN ((rest s k).extract 0 (bn s k) ++ one1) (bn s k + 1) = blkN s k := by
  rw [leN_le]
  exact le_congr _ _ _ (fun j hj => blk_at s k j hj)
theorem val_add (f p : Nat → Nat) : val (fun j => f j + p j) = val f + val p := by
  unfold val; grind
end Go.Proofs.Ytpnpmploaaenlaa
namespace Go.Proofs.Ytpnpmploaaenlaa
open Go.RowKit
set_option linter.unusedSimpArgs false
set_option linter.unusedVariables false

/-- The digits of a list, and noughts behind. -/
def zx (n : Nat) (z : Nat → Nat) (i : Nat) : Nat := if i < n then z i else 0
theorem le_zero (n : Nat) : le (fun _ => 0) n = 0 := by
  induction n with
  | zero => rfl
  | succ n ih => show le _ n + 0 * _ = 0; rw [ih]; omega
theorem le_zx_le (n : Nat) (z : Nat → Nat) (m : Nat) (h : m ≤ n) : le (zx n z) m = le z m := le_congr _ _ _ (fun i hi => if_pos (by omega))
theorem le_zx_ge (n : Nat) (z : Nat → Nat) (m : Nat) (h : n ≤ m) : le (zx n z) m = le z n := by
  induction m with
  | zero => obtain rfl : n = 0 := by omega
            rfl
  | succ m ih =>
    by_cases e : n = m + 1
    · subst e; exact le_zx_le _ _ _ (Nat.le_refl _)
    · show le (zx n z) m + zx n z m * 256 ^ m = le z n
      rw [ih (by omega), show zx n z m = 0 from if_neg (by omega)]
      omega
/-- The digits of a number that has so many. -/
theorem le_zx_dgt (V n m : Nat) (hV : V < 256 ^ n) (hVm : V < 256 ^ m) : le (zx n (dgt V)) m = V := by
  by_cases h : m ≤ n
  · rw [le_zx_le _ _ _ h, le_dgt, Nat.mod_eq_of_lt hVm]
  · rw [le_zx_ge _ _ _ (by omega), le_dgt, Nat.mod_eq_of_lt hV]
theorem le_upd (f : Nat → Nat) (k x n : Nat) (hk : k < n) : le (upd f k (f k + x)) n = le f n + x * 256 ^ k := by
  induction n with
  | zero => omega
  | succ n ih =>
    show le (upd f k (f k + x)) n + upd f k (f k + x) n * 256 ^ n = le f n + f n * 256 ^ n + x * 256 ^ k
    by_cases e : k = n
    · subst e
      rw [show upd f k (f k + x) k = f k + x from if_pos rfl, le_congr (upd f k (f k + x)) f k (fun i hi => if_neg (by omega)), Nat.add_mul]
      omega
    · rw [ih (by omega), show upd f k (f k + x) n = f n from if_neg (fun h => e h.symm)]
      omega
theorem le_fun_add (a b : Nat → Nat) (n : Nat) : le (fun i => a i + b i) n = le a n + le b n := le_add a b n
/-- What a product's list stands for behind i digits, and k of the next one. -/
theorem times_step (A B c d d' i k : Nat) : A * B + c * 256 ^ i * d + c * d' * 256 ^ (i + k) = A * B + c * 256 ^ i * (d + d' * 256 ^ k) := by
  rw [Nat.pow_add, Nat.mul_add, Nat.add_assoc]
  congr 2
  rw [Nat.mul_assoc c, Nat.mul_assoc c, ← Nat.mul_assoc d', Nat.mul_comm d' (256 ^ i), Nat.mul_assoc (256 ^ i), ← Nat.mul_assoc]
theorem times_next (A B c i : Nat) : A * B + c * 256 ^ i * B = (A + c * 256 ^ i) * B := by rw [Nat.add_mul]
theorem T130_256 : T130 = 256 ^ 16 * 4 := by decide +kernel
theorem dgt_high (V i : Nat) (hi : 16 ≤ i) : dgt (V / T130) (i - 16) = dgt V i / 4 + dgt V (i + 1) * 64 % 256 := by
  have e : V / T130 / 256 ^ (i - 16) = sh V i / 4 := by
    unfold sh
    rw [T130_256, Nat.div_div_eq_div_mul, Nat.div_div_eq_div_mul]
    congr 1
    rw [Nat.mul_right_comm, ← Nat.pow_add]
    congr 2; omega
  show V / T130 / 256 ^ (i - 16) % 256 = _
  rw [e, sh_step V i, sh_step V (i + 1)]
  have h1 := dgt_lt V i; have h2 := dgt_lt V (i + 1)
  generalize dgt V i = a at *; generalize dgt V (i + 1) = b at *; generalize sh V (i + 1 + 1) = Z at *
  omega
theorem dgt_big (V n i : Nat) (hV : V < 256 ^ n) (hi : n ≤ i) : dgt V i = 0 := by
  unfold dgt
  rw [Nat.div_eq_of_lt (Nat.lt_of_lt_of_le hV (Nat.pow_le_pow_right (by decide) hi))]
theorem dgt_high_out (V n j : Nat) (hV : V < 256 ^ n) (hj : n ≤ j + 16) : dgt (V / T130) j = 0 := by
  have := dgt_high V (j + 16) (by omega)
  rw [show j + 16 - 16 = j by omega] at this
  rw [this, dgt_big V n _ hV hj, dgt_big V n _ hV (by omega)]
theorem or_high (a b : Nat) (ha : a < 256) (hb : b < 256) : (a / 4) ||| (b * 64 % 256) = a / 4 + b * 64 % 256 := by
  rw [Nat.or_comm, nat_join 6 (b * 64 % 256) (a / 4) (by omega) (by omega), Nat.add_comm]
theorem dgt_low (V i : Nat) (hi : i < 16) : dgt (V % T130) i = dgt V i := by
  have e : dgt (V % T130) i = dgt (V % T130 % 256 ^ 16) i := by
    rw [← le_dgt (V % T130) 16, dgt_le _ 16 (fun j _ => dgt_lt _ _) i hi]
  have e2 : dgt V i = dgt (V % 256 ^ 16) i := by
    rw [← le_dgt V 16, dgt_le _ 16 (fun j _ => dgt_lt _ _) i hi]
  rw [e, e2, T130_256, Nat.mod_mul_right_mod]
theorem dgt_low16 (V : Nat) : dgt (V % T130) 16 = dgt V 16 % 4 := by
  unfold dgt
  rw [T130_256, Nat.mod_mul_right_div_self]
  generalize V / 256 ^ 16 = Z
  omega
theorem T130_17 : T130 < 256 ^ 17 := by decide +kernel
/-- 'zero' tells whether the number is 0. -/
theorem zero_iff (V n : Nat) (hV : V < 256 ^ n) : (∀ i, i < n → dgt V i = 0) ↔ V = 0 := by
  constructor
  · intro h
    have h1 := le_dgt V n
    rw [Nat.mod_eq_of_lt hV] at h1
    rw [← h1, le_congr _ (fun _ => 0) n h, le_zero]
  · intro h i _
    subst h
    unfold dgt; rw [Nat.zero_div]
theorem high_zero (V : Nat) : V / T130 = 0 ↔ V < T130 := by
  rw [Nat.div_eq_zero_iff]
  have : 0 < T130 := by decide +kernel
  omega
theorem fold_mod (V : Nat) : (V % T130 + 5 * (V / T130)) % P130 = V % P130 := by
  have h := Nat.div_add_mod V T130
  have hT := T_P
  have e : V = (V % T130 + 5 * (V / T130)) + P130 * (V / T130) := by
    have h2 : T130 * (V / T130) = P130 * (V / T130) + 5 * (V / T130) := by rw [← Nat.add_mul, ← hT]
    omega
  conv => rhs; rw [e]
  rw [Nat.add_mul_mod_self_left]
/-- The bound behind so many rounds of reduced. -/
def rbd : Nat → Nat
  | 0 => 256 ^ 35
  | 1 => 2 ^ 154
  | 2 => T130 + 2 ^ 27
  | _ => T130
theorem rbd_step (i V : Nat) (hi : i < 3) (h : V < rbd i) (hb : T130 ≤ V) : V % T130 + 5 * (V / T130) < rbd (i + 1) := by
  have hT0 : 0 < T130 := by decide +kernel
  have hc : i = 0 ∨ i = 1 ∨ i = 2 := by omega
  have hm : V % T130 < T130 := Nat.mod_lt _ hT0
  have hdm := Nat.div_add_mod V T130
  rcases hc with rfl | rfl | rfl
  · have hd : V / T130 < 2 ^ 150 := by
      rw [Nat.div_lt_iff_lt_mul hT0]
      exact Nat.lt_of_lt_of_le h (by decide +kernel)
    show _ < 2 ^ 154
    have : T130 + 5 * 2 ^ 150 < 2 ^ 154 := by decide +kernel
    omega
  · have hd : V / T130 < 2 ^ 24 := by
      rw [Nat.div_lt_iff_lt_mul hT0]
      exact Nat.lt_of_lt_of_le h (by decide +kernel)
    show _ < T130 + 2 ^ 27
    omega
  · have h' : V < T130 + 2 ^ 27 := h
    have h27 : 2 ^ 27 < T130 := by decide +kernel
    have hd : V / T130 = 1 := by
      apply Nat.div_eq_of_lt_le
      · rw [Nat.one_mul]; exact hb
      · rw [Nat.add_mul, Nat.one_mul]
        exact Nat.lt_trans h' (Nat.add_lt_add_left h27 _)
    rw [hd] at hdm ⊢
    show _ < T130
    have : 2 ^ 27 + 5 < T130 := by decide +kernel
    omega
theorem rbd_le (i V : Nat) (h : V < rbd i) : V < 256 ^ 35 := by
  match i, h with
  | 0, h => exact h
  | 1, h => exact Nat.lt_trans h (by decide +kernel)
  | 2, h => exact Nat.lt_trans h (by decide +kernel)
  | i + 3, h => exact Nat.lt_trans (show V < T130 from h) (by decide +kernel)
theorem red_less (V : Nat) (h : V < T130) (hb : V + 5 < T130) : V % T130 = V % P130 := by
  have := T_P
  rw [Nat.mod_eq_of_lt h, Nat.mod_eq_of_lt (by omega)]
theorem red_more (V : Nat) (h : V < T130) (hb : T130 ≤ V + 5) : (V + 5) % T130 = V % P130 := by
  have hT := T_P
  have h5 : 5 < P130 := by decide +kernel
  rw [show V + 5 = (V - P130) + T130 by omega, Nat.add_mod_right, Nat.mod_eq_of_lt (by omega), show V % P130 = V - P130 by
    rw [show V = (V - P130) + P130 by omega, Nat.add_mod_right, Nat.mod_eq_of_lt (by omega)]; omega]
end Go.Proofs.Ytpnpmploaaenlaa
