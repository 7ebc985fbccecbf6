/- Words turned into one another, and then left. -/
import Derived.Test.YtbmeejopfcpoaaaBig
import Derived.Test.YtbmeejopfcpoaaaX2
namespace Go.Proofs.Ytbmeejopfcpoaaa
open Go.RowKit
set_option linter.unusedSimpArgs false
set_option linter.unusedVariables false

theorem xor_lt (A B : Nat) (hA : A < 4294967296) (hB : B < 4294967296) : A ^^^ B < 4294967296 := Nat.xor_lt_two_pow (n := 32) hA hB
theorem rot_xor (A B k : Nat) (hA : A < 4294967296) (hB : B < 4294967296) (hk : k < 32) : rotN (A ^^^ B) k = rotN A k ^^^ rotN B k := by
  apply Nat.eq_of_testBit_eq
  intro i
  rw [rot_bit _ _ _ (xor_lt A B hA hB) hk, Nat.testBit_xor, Nat.testBit_xor, rot_bit _ _ _ hA hk, rot_bit _ _ _ hB hk]
  by_cases hi : i < 32 <;> simp [hi]
theorem div_xor (A B k : Nat) : (A ^^^ B) / 2 ^ k = A / 2 ^ k ^^^ B / 2 ^ k := by
  rw [← Nat.shiftRight_eq_div_pow, ← Nat.shiftRight_eq_div_pow, ← Nat.shiftRight_eq_div_pow, Nat.shiftRight_xor_distrib]
theorem wordN_word (A : Nat) (h : A < 4294967296) : wordN (A : Int) = A := by unfold wordN; omega
theorem b4_word (A : Nat) (h : A < 4294967296) : wordAt true ⟨(b4 (A : Int)).toArray⟩ 0 = A := by
  show be4 (UInt8.ofNat (wordN (A : Int) / 16777216)).toNat (UInt8.ofNat (wordN (A : Int) / 65536)).toNat (UInt8.ofNat (wordN (A : Int) / 256)).toNat (UInt8.ofNat (wordN (A : Int))).toNat = A
  rw [wordN_word A h, UInt8.toNat_ofNat', UInt8.toNat_ofNat', UInt8.toNat_ofNat', UInt8.toNat_ofNat']
  unfold be4
  omega
theorem b4_mod (x : Int) : b4 x = b4 ((wordN x : Nat) : Int) := by
  have : wordN ((wordN x : Nat) : Int) = wordN x := wordN_word _ (wordN_lt' x)
  unfold b4; rw [this]
theorem xor_b4 (A B : Nat) (hA : A < 4294967296) (hB : B < 4294967296) : xorL ⟨(b4 (A : Int)).toArray⟩ ⟨(b4 (B : Int)).toArray⟩ 4 = b4 ((A ^^^ B : Nat) : Int) := by
  have e : ∀ k, UInt8.ofNat (A / 2 ^ k) ^^^ UInt8.ofNat (B / 2 ^ k) = UInt8.ofNat ((A ^^^ B) / 2 ^ k) := fun k => by
    rw [div_xor, UInt8.ofNat_xor]
  have e0 := e 0; have e8 := e 8; have e16 := e 16; have e24 := e 24
  simp only [Nat.pow_zero, Nat.div_one] at e0
  have hs : xorL ⟨(b4 (A : Int)).toArray⟩ ⟨(b4 (B : Int)).toArray⟩ 4 = [UInt8.ofNat (wordN (A : Int) / 16777216) ^^^ UInt8.ofNat (wordN (B : Int) / 16777216), UInt8.ofNat (wordN (A : Int) / 65536) ^^^ UInt8.ofNat (wordN (B : Int) / 65536), UInt8.ofNat (wordN (A : Int) / 256) ^^^ UInt8.ofNat (wordN (B : Int) / 256), UInt8.ofNat (wordN (A : Int)) ^^^ UInt8.ofNat (wordN (B : Int))] := rfl
  rw [hs]
  unfold b4
  rw [wordN_word A hA, wordN_word B hB, wordN_word _ (xor_lt A B hA hB), e0, ← e8, ← e16, ← e24]
theorem i64_xor32 (A B : Nat) (hA : A < 4294967296) (hB : B < 4294967296) : bits .xor .i64 (A : Int) (B : Int) = ((A ^^^ B : Nat) : Int) := by
  have h := xor_lt A B hA hB
  have e : (BitVec.ofInt 64 (A : Int) ^^^ BitVec.ofInt 64 (B : Int)).toNat = A ^^^ B := by
    rw [BitVec.toNat_xor, BitVec.ofInt_natCast, BitVec.ofInt_natCast, BitVec.toNat_ofNat, BitVec.toNat_ofNat, Nat.mod_eq_of_lt (by omega), Nat.mod_eq_of_lt (by omega)]
  show IntKind.i64.wrap ((BitVec.ofInt 64 (A : Int) ^^^ BitVec.ofInt 64 (B : Int)).toNat : Nat) = _
  rw [e, IntKind.wrap_i64]
  omega
theorem putL_one (x : Int) : putL (fun _ => x) 1 = b4 x := by unfold putL; simp
set_option maxRecDepth 100000 in
set_option maxHeartbeats 4000000 in
theorem mixes_any (x y n : Int) (w : World) :
    Calls Try.prog 6 #[.int .i64 x, .int .i64 y, .int .i64 n] w fun e w' => e = .returned (.bool true) ∧ Mod (fun _ => False) w w' := by
  obtain ⟨A, hA, HA⟩ : ∃ A : Nat, A < 4294967296 ∧ Hid (wordN x = A) := ⟨_, wordN_lt' x, rfl⟩
  obtain ⟨B, hB, HB⟩ : ∃ B : Nat, B < 4294967296 ∧ Hid (wordN y = B) := ⟨_, wordN_lt' y, rfl⟩
  obtain ⟨D, HD⟩ : ∃ D : Nat, Hid (D = A ^^^ B) := ⟨_, rfl⟩
  have hD : D < 4294967296 := by rw [HD.out]; exact xor_lt A B hA hB
  obtain ⟨R1, HR1⟩ : ∃ R : Nat, Hid (rotN (wordN (D : Int)) (turnN n) = R) := ⟨_, rfl⟩
  obtain ⟨R2, HR2⟩ : ∃ R : Nat, Hid (rotN (wordN (A : Int)) (turnN n) = R) := ⟨_, rfl⟩
  obtain ⟨R3, HR3⟩ : ∃ R : Nat, Hid (rotN (wordN (B : Int)) (turnN n) = R) := ⟨_, rfl⟩
  have ht : turnN n < 32 := by unfold turnN; omega
  have hx1 : bits BinOp.xor IntKind.i64 (A : Int) (B : Int) = (D : Int) := by rw [i64_xor32 A B hA hB, HD.out]
  have hx2 : bits BinOp.xor IntKind.i64 (R2 : Int) (R3 : Int) = (R1 : Int) := by
    have e1 := HR1.out; have e2 := HR2.out; have e3 := HR3.out
    rw [wordN_word _ hD] at e1
    rw [wordN_word _ hA] at e2
    rw [wordN_word _ hB] at e3
    rw [← e1, ← e2, ← e3, HD.out, rot_xor A B _ hA hB ht]
    exact i64_xor32 _ _ (rotN_lt A _ hA) (rotN_lt B _ hB)
  have HWx : Hid (x % 4294967296 = (A : Int)) := by show _ = _; have := HA.out; unfold wordN at this; omega
  have HWy : Hid (y % 4294967296 = (B : Int)) := by show _ = _; have := HB.out; unfold wordN at this; omega
  have HXL : Hid (xorL ⟨(putL (fun _ => x) 1).toArray⟩ ⟨(putL (fun _ => y) 1).toArray⟩ 4 = b4 (D : Int)) := by
    show _ = _
    rw [putL_one, putL_one, b4_mod x, b4_mod y, HA.out, HB.out, xor_b4 A B hA hB, HD.out]
  have HW0 : Hid (∀ k, k < 1 → ((wordAt true ⟨(b4 (D : Int)).toArray⟩ k : Nat) : Int) = (D : Int)) := by
    show ∀ k, _
    intro k hk
    obtain rfl : k = 0 := by omega
    rw [b4_word D hD]
  clear HD ht
  go_enter Try.func6, Try.ntmps6
  go_wp2_with fail
  refine (word_any _ _).mono ?_
  rintro e w1 ⟨rfl, rfl⟩
  rw [HWx.out]
  go_wp2_with fail
  refine (word_any _ _).mono ?_
  rintro e w1 ⟨rfl, rfl⟩
  rw [HWy.out]
  go_wp2_with fail
  refine (rot_any _ _ _).mono ?_
  rintro e w1 ⟨rfl, rfl⟩
  rw [HR1.out]
  go_wp2_with fail
  refine (rot_any _ _ _).mono ?_
  rintro e w1 ⟨rfl, rfl⟩
  rw [HR2.out]
  go_wp2_with fail
  refine (rot_any _ _ _).mono ?_
  rintro e w1 ⟨rfl, rfl⟩
  rw [HR3.out]
  go_wp2_with fail
  have m0 := (Mod.refl (fun _ => False) w).alloc (.cells #[.int .i64 x] 3)
  refine (putbig_any _ _ _ (fun _ => x) _ (by omega) (one_ints w x)).mono ?_
  rintro e w1 ⟨rfl, m1⟩
  replace m1 := m0.tr m1
  clear m0
  go_wp2_with fail
  have m2 := (Mod.refl (fun _ => False) w1).alloc (.cells #[.int .i64 y] 3)
  refine (putbig_any _ _ _ (fun _ => y) _ (by omega) (one_ints w1 y)).mono ?_
  rintro e w2 ⟨rfl, m3⟩
  replace m3 := (m1.tr m2).tr m3
  clear m1 m2
  go_wp2_with fail
  refine (xor_ok _ _ _ (by rw [putL_size]; omega) (by rw [putL_size, putL_size])).mono ?_
  rintro e w4 ⟨rfl, m4⟩
  rw [putL_size, show 4 * 1 = 4 from rfl, HXL.out]
  replace m4 := m3.tr m4
  clear m3
  go_wp2_with fail
  refine (big_ints ⟨(b4 (D : Int)).toArray⟩ _ (show (4 : Nat) ≤ 100000 by decide) 1 rfl).mono ?_
  rintro e w5 ⟨a5, k5, rfl, i5, m5⟩
  have I5 := Lib.hid i5
  clear i5
  replace m5 := m4.tr m5
  clear m4
  go_wp2_with fail
  have m6 := (Mod.refl (fun _ => False) w5).alloc (.cells #[.int .i64 (D : Int)] 3)
  refine (same_yes _ _ _ _ _ _ _ _ (by omega) (I5.out.kept m6) (one_ints w5 (D : Int)) HW0.out).mono ?_
  rintro e w7 ⟨rfl, m7⟩
  replace m7 := (m5.tr m6).tr m7
  clear m5 m6
  go_wp2_with fail
  refine (words_any _).mono ?_
  rintro e w8 ⟨rfl, m8⟩
  go_wp2_with fail
  go_ret
  exact ⟨rfl, m7.tr m8⟩
end Go.Proofs.Ytbmeejopfcpoaaa
