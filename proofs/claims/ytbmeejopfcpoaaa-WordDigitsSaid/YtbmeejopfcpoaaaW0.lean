/- Rot: a word turned. -/
import Derived.Test.YtbmeejopfcpoaaaRows
import Derived.Test.YtbmeejopfcpoaaaBase
import Derived.Laws.BitsLemmas
import Derived.Laws.BitsAllLaws
import Derived.Test.YtbmeejopfcpoaaaBm
namespace Go.Proofs.Ytbmeejopfcpoaaa
open Go.RowKit
set_option linter.unusedSimpArgs false
set_option linter.unusedVariables false

theorem u64_and31 (n : Int) : bits BinOp.and IntKind.u64 (IntKind.u64.wrap n) 31 = n % 32 := by
  have hm : (BitVec.ofInt 64 31).toNat = 2 ^ 5 - 1 := by decide
  have hw : IntKind.u64.wrap n = n % 18446744073709551616 := by simp [IntKind.wrap, IntKind.bits, IntKind.signed]
  have key : (BitVec.ofInt 64 (n % 18446744073709551616) &&& BitVec.ofInt 64 31).toNat = ((n % 18446744073709551616) % ((2 ^ 64 : Nat) : Int)).toNat % 2 ^ 5 := by
    rw [BitVec.toNat_and, BitVec.toNat_ofInt, hm, Nat.and_two_pow_sub_one_eq_mod]
  rw [hw]
  show IntKind.u64.wrap ((BitVec.ofInt 64 (n % 18446744073709551616) &&& BitVec.ofInt 64 31).toNat : Nat) = n % 32
  rw [key]
  simp [IntKind.wrap, IntKind.bits, IntKind.signed]
  omega
theorem i64_and_word (n : Int) : bits .and .i64 n 4294967295 = n % 4294967296 := by
  have hm : (BitVec.ofInt 64 4294967295).toNat = 2 ^ 32 - 1 := by decide
  have key : (BitVec.ofInt 64 n &&& BitVec.ofInt 64 4294967295).toNat = (n % ((2 ^ 64 : Nat) : Int)).toNat % 2 ^ 32 := by
    rw [BitVec.toNat_and, BitVec.toNat_ofInt, hm, Nat.and_two_pow_sub_one_eq_mod]
  show IntKind.i64.wrap ((BitVec.ofInt 64 n &&& BitVec.ofInt 64 4294967295).toNat : Nat) = n % 4294967296
  rw [key, IntKind.wrap_i64]
  omega
theorem word_any (x : Int) (w : World) :
    Calls Try.prog 11 #[.int .i64 x] w fun e w' => e = .returned (.int .i64 (x % 4294967296)) ∧ w = w' := by
  have h := i64_and_word x
  go_enter Try.func11, Try.ntmps11
  go_wp2
  go_ret
  exact ⟨rfl, rfl⟩
theorem word_same (x : Int) (w : World) :
    Calls Try.prog 11 #[.int .i64 x] w fun e w' => e = .returned (.int .i64 (x % 4294967296)) ∧ w' = w := (word_any x w).mono fun _ _ h => ⟨h.1, h.2.symm⟩
/-- A word of 32 bits, turned left by k. -/
def rotN (X k : Nat) : Nat := (X * 2 ^ k % 4294967296) ||| (X / 2 ^ (32 - k))
theorem rotN_lt (X k : Nat) (hX : X < 4294967296) : rotN X k < 4294967296 := by
  unfold rotN
  refine Nat.or_lt_two_pow (n := 32) (Nat.mod_lt _ (by decide)) (Nat.lt_of_le_of_lt (Nat.div_le_self _ _) hX)
def wordN (x : Int) : Nat := (x % 4294967296).toNat
def turnN (n : Int) : Nat := (n % 32).toNat
theorem ret_i64 {a b : Int} (h : a = b) : Ending.returned (.int .i64 a) = .returned (.int .i64 b) := by rw [h]
theorem rot_val (X k : Nat) (hX : X < 4294967296) : wrap64 (bits BinOp.or IntKind.u32 ((X : Int) * 2 ^ k % 4294967296) ((X : Int) / 2 ^ (32 - k))) = (rotN X k : Int) := by
  have e1 : (X : Int) * 2 ^ k % 4294967296 = ((X * 2 ^ k % 4294967296 : Nat) : Int) := by simp
  have e2 : (X : Int) / 2 ^ (32 - k) = ((X / 2 ^ (32 - k) : Nat) : Int) := by simp
  rw [e1, e2, u32_or_nat _ _ (Nat.mod_lt _ (by decide)) (Nat.lt_of_le_of_lt (Nat.div_le_self _ _) hX)]
  have := rotN_lt X k hX
  show wrap64 ((rotN X k : Nat) : Int) = _
  unfold wrap64; omega
theorem rot_any (x n : Int) (w : World) :
    Calls Try.prog 9 #[.int .i64 x, .int .i64 n] w fun e w' => e = .returned (.int .i64 (rotN (wordN x) (turnN n))) ∧ w = w' := by
  obtain ⟨X, hX, hX2, hX3⟩ : ∃ X : Nat, x % 4294967296 = (X : Int) ∧ X < 4294967296 ∧ wordN x = X := ⟨(x % 4294967296).toNat, by omega, by omega, rfl⟩
  obtain ⟨k, hk, hk2, hk4⟩ : ∃ k : Nat, bits BinOp.and IntKind.u64 (IntKind.u64.wrap n) 31 = (k : Int) ∧ k < 32 ∧ turnN n = k := ⟨(n % 32).toNat, by rw [u64_and31]; omega, by omega, rfl⟩
  have hk3 : IntKind.u64.wrap (32 - (k : Int)) = ((32 - k : Nat) : Int) := by
    have hw : IntKind.u64.wrap (32 - (k : Int)) = (32 - (k : Int)) % 18446744073709551616 := by simp [IntKind.wrap, IntKind.bits, IntKind.signed]
    rw [hw]; omega
  have hv := rot_val X k hX2
  rw [hX3, hk4]
  clear hX3 hk4
  go_enter Try.func9, Try.ntmps9
  go_wp2
  go_ret
  exact ⟨ret_i64 hv, rfl⟩
theorem Mod.drewN {S : Nat → Prop} (w : World) (n : Nat) : Mod S w (w.drewN n) := ⟨rfl, rfl, rfl, Nat.le_refl _, fun _ _ _ => rfl⟩
theorem rrot_val (X k : Nat) (hX : X < 4294967296) (hk : k < 32) : bits BinOp.or IntKind.i64 (wrap64 ((X : Int) * 2 ^ k)) ((X : Int) / 2 ^ (32 - k)) % 4294967296 = (rotN X k : Int) := by
  have h2 : 2 ^ k ≤ 2 ^ 31 := Nat.pow_le_pow_right (by decide) (by omega)
  have h3 : X * 2 ^ k < 2 ^ 63 := by
    have : X * 2 ^ k ≤ X * 2 ^ 31 := Nat.mul_le_mul_left _ h2
    omega
  have e1 : wrap64 ((X : Int) * 2 ^ k) = ((X * 2 ^ k : Nat) : Int) := by
    have e : (X : Int) * 2 ^ k = ((X * 2 ^ k : Nat) : Int) := by simp
    rw [e]; unfold wrap64; omega
  have e2 : (X : Int) / 2 ^ (32 - k) = ((X / 2 ^ (32 - k) : Nat) : Int) := by simp
  have h4 : X / 2 ^ (32 - k) < 2 ^ 32 := Nat.lt_of_le_of_lt (Nat.div_le_self _ _) hX
  rw [e1, e2, (bits_nat .i64 63 (by decide) (fun n h0 h1 => by rw [IntKind.wrap_i64]; omega) (X * 2 ^ k) (X / 2 ^ (32 - k)) h3 (by omega)).2]
  have e3 : (X * 2 ^ k ||| X / 2 ^ (32 - k)) % 2 ^ 32 = rotN X k := by
    rw [Nat.or_mod_two_pow, Nat.mod_eq_of_lt h4]
    rfl
  rw [← e3]
  simp
theorem rrot_any (x n : Int) (w : World) :
    Calls Try.prog 10 #[.int .i64 x, .int .i64 n] w fun e w' => e = .returned (.int .i64 (rotN (wordN x) (turnN n))) ∧ Mod (fun _ => False) w w' := by
  obtain ⟨X, hX, hX2, hX3⟩ : ∃ X : Nat, x % 4294967296 = (X : Int) ∧ X < 4294967296 ∧ wordN x = X := ⟨(x % 4294967296).toNat, by omega, by omega, rfl⟩
  obtain ⟨k, hk, hk2, hk4⟩ : ∃ k : Nat, bits BinOp.and IntKind.i64 n 31 = (k : Int) ∧ k < 32 ∧ turnN n = k := ⟨(n % 32).toNat, by rw [i64_and31]; omega, by omega, rfl⟩
  rw [hX3, hk4]
  clear hX3 hk4
  go_enter Try.func10, Try.ntmps10
  go_wp2_with fail
  go_quiet ((go_at_call 11; exact Calls.quiet_of_same (word_same _ _)))
  go_wp2
  go_ret
  exact ⟨ret_i64 (rrot_val X k hX2 hk2), Mod.drewN _ _⟩
end Go.Proofs.Ytbmeejopfcpoaaa
