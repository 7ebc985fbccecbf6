/- Digits of eight bits: the plain laws. -/
import Derived.Test.YtfmfopbcgohdgaaN2
namespace Go.Proofs.Ytfmfopbcgohdgaa
open Go.RowKit
set_option linter.unusedSimpArgs false
set_option linter.unusedVariables false

def sh (A k : Nat) : Nat := A / 256 ^ k
def dgt (A k : Nat) : Nat := A / 256 ^ k % 256
theorem sh_succ (A k : Nat) : sh A (k + 1) = sh A k / 256 := by unfold sh; rw [Nat.pow_succ, Nat.div_div_eq_div_mul]
theorem sh_zero (A : Nat) : sh A 0 = A := by unfold sh; rw [Nat.pow_zero, Nat.div_one]
theorem dgt_sh (A k : Nat) : dgt A k = sh A k % 256 := rfl
theorem dgt_lt (A k : Nat) : dgt A k < 256 := Nat.mod_lt _ (by decide)
theorem sh_step (A k : Nat) : sh A k = 256 * sh A (k + 1) + dgt A k := by rw [sh_succ, dgt_sh]; omega
/-- A number of digits. -/
def le (b : Nat → Nat) : Nat → Nat
  | 0 => 0
  | k + 1 => le b k + b k * 256 ^ k
theorem leN_le (s : ByteArray) (k : Nat) : leN s k = le (byteAt s) k := by
  induction k with
  | zero => rfl
  | succ k ih => show leN s k + _ = le (byteAt s) k + _; rw [ih]
theorem le_lt (b : Nat → Nat) (n : Nat) (hb : ∀ i, i < n → b i < 256) : le b n < 256 ^ n := by
  induction n with
  | zero => show 0 < 1; omega
  | succ n ih =>
    have h1 := ih (fun i hi => hb i (by omega))
    have h2 := hb n (by omega)
    show le b n + b n * 256 ^ n < 256 ^ (n + 1)
    rw [Nat.pow_succ]
    have : b n * 256 ^ n ≤ 255 * 256 ^ n := Nat.mul_le_mul_right _ (by omega)
    omega
theorem le_congr (b c : Nat → Nat) (n : Nat) (h : ∀ i, i < n → b i = c i) : le b n = le c n := by
  induction n with
  | zero => rfl
  | succ n ih => show le b n + _ = le c n + _; rw [ih (fun i hi => h i (by omega)), h n (by omega)]
theorem le_dgt (A n : Nat) : le (dgt A) n = A % 256 ^ n := by
  induction n with
  | zero => show 0 = A % 1; omega
  | succ n ih =>
    show le (dgt A) n + dgt A n * 256 ^ n = _
    rw [ih, Nat.pow_succ, Nat.mod_mul, Nat.mul_comm (256 ^ n)]
    rfl
theorem dgt_le (b : Nat → Nat) (n : Nat) (hb : ∀ i, i < n → b i < 256) (k : Nat) (hk : k < n) : dgt (le b n) k = b k := by
  induction n with
  | zero => omega
  | succ n ih =>
    show (le b n + b n * 256 ^ n) / 256 ^ k % 256 = b k
    have hlt := le_lt b n (fun i hi => hb i (by omega))
    by_cases e : k = n
    · subst e
      rw [Nat.add_mul_div_right _ _ (Nat.pow_pos (by decide)), Nat.div_eq_of_lt hlt, Nat.zero_add, Nat.mod_eq_of_lt (hb k (by omega))]
    · have hkn : k < n := by omega
      have e1 : b n * 256 ^ n = 256 ^ k * (b n * 256 ^ (n - k - 1) * 256) := by
        have : 256 ^ n = 256 ^ k * (256 ^ (n - k - 1) * 256) := by
          rw [← Nat.pow_succ, ← Nat.pow_add]; congr 1; omega
        rw [this]; rw [← Nat.mul_assoc, Nat.mul_comm (b n), Nat.mul_assoc, Nat.mul_assoc]
      rw [e1, Nat.add_mul_div_left _ _ (Nat.pow_pos (by decide)), Nat.add_mul_mod_self_right]
      exact ih (fun i hi => hb i (by omega)) hkn
theorem dgt_ext {A B n : Nat} (hA : A < 256 ^ n) (hB : B < 256 ^ n) (h : ∀ i, i < n → dgt A i = dgt B i) : A = B := by
  have h1 := le_dgt A n; have h2 := le_dgt B n
  rw [Nat.mod_eq_of_lt hA] at h1
  rw [Nat.mod_eq_of_lt hB] at h2
  rw [← h1, ← h2]
  exact le_congr _ _ _ h
/-- Any digits, carried: what is carried. -/
def car (z : Nat → Nat) : Nat → Nat
  | 0 => 0
  | k + 1 => (car z k + z k) / 256
/-- A carried digit is the number's. -/
theorem car_sh (z : Nat → Nat) (n : Nat) : ∀ k, k ≤ n → ∃ R, le z n = R * 256 ^ k + (le z n) % 256 ^ k ∧ sh (le z n) k = R := by
  intro k _
  refine ⟨le z n / 256 ^ k, ?_, rfl⟩
  rw [Nat.mul_comm]; exact (Nat.div_add_mod _ _).symm
/-- What stands from digit k on. -/
def tail (z : Nat → Nat) (n k : Nat) : Nat := le (fun i => z (k + i)) (n - k)
theorem le_head (z : Nat → Nat) (n : Nat) : le z (n + 1) = z 0 + 256 * le (fun i => z (1 + i)) n := by
  induction n with
  | zero => show 0 + z 0 * 1 = z 0 + 256 * 0; omega
  | succ n ih =>
    show le z (n + 1) + z (n + 1) * 256 ^ (n + 1) = z 0 + 256 * (le (fun i => z (1 + i)) n + z (1 + n) * 256 ^ n)
    rw [ih, Nat.pow_succ, Nat.add_comm 1 n, Nat.mul_add, ← Nat.mul_assoc (z (n + 1)), Nat.mul_comm 256 (z (n + 1) * 256 ^ n)]
    omega
theorem car_tail (z : Nat → Nat) (n : Nat) : ∀ k, k ≤ n → sh (le z n) k = tail z n k + car z k := by
  intro k
  induction k with
  | zero => intro _; rw [sh_zero]; unfold tail; simp [car]
  | succ k ih =>
    intro hk
    have h := ih (by omega)
    rw [sh_succ, h]
    have e : tail z n k = z k + 256 * tail z n (k + 1) := by
      unfold tail
      rw [show n - k = (n - (k + 1)) + 1 by omega, le_head]
      congr 2
      exact le_congr _ _ _ (fun i _ => by rw [show k + 1 + i = k + (1 + i) by omega])
    rw [e]
    show (z k + 256 * tail z n (k + 1) + car z k) / 256 = tail z n (k + 1) + (car z k + z k) / 256
    omega
theorem car_dgt (z : Nat → Nat) (n k : Nat) (hk : k < n) : (car z k + z k) % 256 = dgt (le z n) k := by
  rw [dgt_sh, car_tail z n k (by omega)]
  have e : tail z n k = z k + 256 * tail z n (k + 1) := by
    unfold tail
    rw [show n - k = (n - (k + 1)) + 1 by omega, le_head]
    congr 2
    exact le_congr _ _ _ (fun i _ => by rw [show k + 1 + i = k + (1 + i) by omega])
  rw [e]; omega
theorem le_add (a b : Nat → Nat) (n : Nat) : le (fun i => a i + b i) n = le a n + le b n := by
  induction n with
  | zero => rfl
  | succ n ih => show le _ n + (a n + b n) * _ = le a n + a n * _ + (le b n + b n * _); rw [ih, Nat.add_mul]; omega
theorem car_lt (z : Nat → Nat) (B : Nat) (hz : ∀ i, z i ≤ 255 * B) (k : Nat) : car z k ≤ B := by
  induction k with
  | zero => exact Nat.zero_le _
  | succ k ih =>
    have := hz k
    show (car z k + z k) / 256 ≤ B
    omega
/-- The lowest n bytes of a number. -/
def leS (V n : Nat) : ByteArray := ⟨((List.range n).map fun k => UInt8.ofNat (dgt V k)).toArray⟩
theorem leS_size (V n : Nat) : (leS V n).size = n := by show ((List.range n).map _).toArray.size = n; simp
theorem leS_at (V n k : Nat) (hk : k < n) : byteAt (leS V n) k = dgt V k := by
  unfold byteAt bytes leS
  rw [List.getD_eq_getElem?_getD, List.getElem?_map, List.getElem?_range hk]
  simp only [Option.map_some, Option.getD_some]
  rw [UInt8.toNat_ofNat']
  exact Nat.mod_eq_of_lt (dgt_lt _ _)
theorem leS_congr {V W n : Nat} (h : V % 256 ^ n = W % 256 ^ n) : leS V n = leS W n := by
  unfold leS
  congr 2
  apply List.map_congr_left
  intro k hk
  rw [List.mem_range] at hk
  have e : ∀ V, dgt V k = dgt (V % 256 ^ n) k := fun V => by
    rw [← le_dgt V n, dgt_le _ n (fun i _ => dgt_lt _ _) k hk]
  rw [e V, e W, h]
end Go.Proofs.Ytfmfopbcgohdgaa
