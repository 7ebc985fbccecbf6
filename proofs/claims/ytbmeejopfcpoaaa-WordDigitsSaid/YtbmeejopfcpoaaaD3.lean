/- A digit's value, by the library's IndexByte. -/
import Derived.Test.YtbmeejopfcpoaaaD2
namespace Go.Proofs.Ytbmeejopfcpoaaa
open Go.RowKit
set_option linter.unusedSimpArgs false
set_option linter.unusedVariables false

def low (x : Nat) : Nat := if 65 ≤ x ∧ x ≤ 70 then x + 32 else x
theorem idx_dig : ∀ x : Fin 256, Lib.indexByte digs.data.toList ((low x.1 : Int).toNat.toUInt8) = if digN x.1 = 16 then -1 else (digN x.1 : Int) := by decide +kernel
theorem digN_le (x : Nat) : digN x ≤ 16 := by unfold digN; split; omega; split; omega; split <;> omega
set_option maxHeartbeats 1000000 in
theorem digit_any (x : Nat) (w : World) (hx : x < 256) :
    Calls Try.prog 35 #[.int .u8 (x : Int)] w fun e w' => e = .returned (.tuple #[.int .u8 (if digN x = 16 then 0 else (digN x : Int)), .bool (decide (digN x < 16))]) ∧ w = w' := by
  have HI := Lib.hid (idx_dig ⟨x, hx⟩)
  have hle := digN_le x
  have last : ∀ W, Calls Try.prog 41 #[.string ⟨#[48, 49, 50, 51, 52, 53, 54, 55, 56, 57, 97, 98, 99, 100, 101, 102]⟩, .int .u8 (low x : Int)] W fun e w' => e = .returned (.int .i64 (if digN x = 16 then -1 else (digN x : Int))) ∧ w' = W := fun W =>
    (Try.strings_IndexByte digs (low x : Int) W).mono fun e w' h => ⟨by rw [h.1, HI.out], h.2⟩
  by_cases h1 : 65 ≤ x ∧ x ≤ 70
  · have a1 : (65 : Int) ≤ (x : Int) := by omega
    have a2 : (x : Int) ≤ 70 := by omega
    have el : (low x : Int) = (x : Int) + 32 := by unfold low; rw [if_pos h1]; omega
    have ed : digN x = x - 55 := by unfold digN; rw [if_neg (by omega), if_neg (by omega), if_pos h1]
    rw [el] at last
    obtain ⟨D, hD, hD2⟩ : ∃ D : Nat, digN x = D ∧ D < 16 := ⟨_, rfl, by rw [ed]; omega⟩
    rw [hD] at last ⊢
    rw [if_neg (by omega), decide_eq_true hD2]
    rw [if_neg (by omega)] at last
    have hD0 : (0 : Int) ≤ (D : Int) := by omega
    clear HI hle ed hD h1
    go_enter Try.func35, Try.ntmps35
    go_wp2_with fail
    refine (last _).mono ?_
    rintro e w1 ⟨rfl, rfl⟩
    go_wp2_with fail
    go_ret2
    exact ⟨rfl, rfl⟩
  · have el : (low x : Int) = (x : Int) := by unfold low; rw [if_neg h1]
    rw [el] at last
    by_cases h2 : x < 65
    · have a1 : ¬ (65 : Int) ≤ (x : Int) := by omega
      by_cases hD : digN x = 16
      · rw [hD] at last ⊢
        rw [if_pos rfl, decide_eq_false (by decide)]
        rw [if_pos rfl] at last
        clear HI hle hD h1
        go_enter Try.func35, Try.ntmps35
        go_wp2_with fail
        refine (last _).mono ?_
        rintro e w1 ⟨rfl, rfl⟩
        go_wp2_with fail
        go_ret2
        exact ⟨rfl, rfl⟩
      · obtain ⟨D, hE, hD2⟩ : ∃ D : Nat, digN x = D ∧ D < 16 := ⟨_, rfl, by omega⟩
        rw [hE] at last hD ⊢
        rw [if_neg (by omega), decide_eq_true hD2]
        rw [if_neg (by omega)] at last
        have hD0 : (0 : Int) ≤ (D : Int) := by omega
        clear hE
        clear HI hle hD h1
        go_enter Try.func35, Try.ntmps35
        go_wp2_with fail
        refine (last _).mono ?_
        rintro e w1 ⟨rfl, rfl⟩
        go_wp2_with fail
        go_ret2
        exact ⟨rfl, rfl⟩
    · have a1 : (65 : Int) ≤ (x : Int) := by omega
      have a2 : ¬ (x : Int) ≤ 70 := by omega
      by_cases hD : digN x = 16
      · rw [hD] at last ⊢
        rw [if_pos rfl, decide_eq_false (by decide)]
        rw [if_pos rfl] at last
        clear HI hle hD h1
        go_enter Try.func35, Try.ntmps35
        go_wp2_with fail
        refine (last _).mono ?_
        rintro e w1 ⟨rfl, rfl⟩
        go_wp2_with fail
        go_ret2
        exact ⟨rfl, rfl⟩
      · obtain ⟨D, hE, hD2⟩ : ∃ D : Nat, digN x = D ∧ D < 16 := ⟨_, rfl, by omega⟩
        rw [hE] at last hD ⊢
        rw [if_neg (by omega), decide_eq_true hD2]
        rw [if_neg (by omega)] at last
        have hD0 : (0 : Int) ≤ (D : Int) := by omega
        clear hE
        clear HI hle hD h1
        go_enter Try.func35, Try.ntmps35
        go_wp2_with fail
        refine (last _).mono ?_
        rintro e w1 ⟨rfl, rfl⟩
        go_wp2_with fail
        go_ret2
        exact ⟨rfl, rfl⟩
end Go.Proofs.Ytbmeejopfcpoaaa
