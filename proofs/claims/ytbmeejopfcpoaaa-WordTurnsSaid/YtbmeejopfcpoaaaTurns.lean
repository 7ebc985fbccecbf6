/- WordTurns: a word turned by any number of bits. -/
import Derived.Test.YtbmeejopfcpoaaaW3
namespace Go.Proofs.Ytbmeejopfcpoaaa
open Go.RowKit
set_option linter.unusedSimpArgs false
set_option linter.unusedVariables false

theorem wordN_lt (x : Int) : wordN x < 4294967296 := by unfold wordN; omega
theorem turnN_lt (x : Int) : turnN x < 32 := by unfold turnN; omega
theorem wordN_nat (X : Nat) (h : X < 4294967296) : wordN (X : Int) = X := by unfold wordN; omega
set_option maxHeartbeats 2000000 in
theorem turns_any (x a b : Int) (w : World) : Calls Try.prog 3 #[.int .i64 x, .int .i64 a, .int .i64 b] w fun e w' => e = .returned (.bool true) ∧ Mod (fun _ => False) w w' := by
  obtain ⟨A, hA, hA2, hA3⟩ : ∃ A : Nat, bits BinOp.and IntKind.i64 a 31 = (A : Int) ∧ A < 32 ∧ turnN a = A := ⟨(a % 32).toNat, by rw [i64_and31]; omega, by omega, rfl⟩
  obtain ⟨B, hB, hB2, hB3⟩ : ∃ B : Nat, bits BinOp.and IntKind.i64 b 31 = (B : Int) ∧ B < 32 ∧ turnN b = B := ⟨(b % 32).toNat, by rw [i64_and31]; omega, by omega, rfl⟩
  have HA := Lib.hid hA3
  have HB := Lib.hid hB3
  clear hA3 hB3
  have hx := wordN_lt x
  have hr := rotN_lt (wordN x) A hx
  have HE1 : Hid (rotN (wordN ((rotN (wordN x) A : Nat) : Int)) (turnN (32 - (A : Int))) = wordN x) := by
    show _ = _
    rw [wordN_nat _ hr, show turnN (32 - (A : Int)) = (32 - A) % 32 by unfold turnN; omega]
    exact rot_back _ _ hx hA2
  have HE2 : Hid (rotN (wordN ((rotN (wordN x) A : Nat) : Int)) (turnN b) = rotN (wordN x) ((A + B) % 32)) := by
    show _ = _
    rw [wordN_nat _ hr, HB.out]
    exact rot_rot _ _ _ hx hA2 hB2
  have HE3 : Hid (rotN (wordN x) (turnN ((A : Int) + (B : Int))) = rotN (wordN x) ((A + B) % 32)) := by
    show _ = _
    rw [show turnN ((A : Int) + (B : Int)) = (A + B) % 32 by unfold turnN; omega]
  have HW : Hid (x % 4294967296 = (wordN x : Int)) := by
    show _ = _
    unfold wordN; omega
  go_enter Try.func3, Try.ntmps3
  go_wp2_with fail
  refine (rot_any _ _ _).mono ?_
  rintro e w1 ⟨rfl, rfl⟩
  rw [HA.out]
  go_wp2_with fail
  refine (rrot_any _ _ _).mono ?_
  rintro e w1 ⟨rfl, m1⟩
  rw [HA.out]
  go_wp2_with fail
  refine (rot_any _ _ _).mono ?_
  rintro e w2 ⟨rfl, rfl⟩
  rw [HE1.out]
  go_wp2_with fail
  refine (word_any _ _).mono ?_
  rintro e w2 ⟨rfl, rfl⟩
  rw [HW.out]
  go_wp2_with fail
  refine (rot_any _ _ _).mono ?_
  rintro e w2 ⟨rfl, rfl⟩
  rw [HE2.out]
  go_wp2_with fail
  refine (rot_any _ _ _).mono ?_
  rintro e w2 ⟨rfl, rfl⟩
  rw [HE3.out]
  go_wp2_with fail
  refine (words_any _).mono ?_
  rintro e w2 ⟨rfl, m2⟩
  go_wp2_with fail
  go_ret
  exact ⟨rfl, m1.tr m2⟩
end Go.Proofs.Ytbmeejopfcpoaaa
