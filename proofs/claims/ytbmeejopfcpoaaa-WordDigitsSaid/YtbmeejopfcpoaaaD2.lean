/- A digit's value. -/
import Derived.Test.YtbmeejopfcpoaaaD1
namespace Go.Proofs.Ytbmeejopfcpoaaa
open Go.RowKit
set_option linter.unusedSimpArgs false
set_option linter.unusedVariables false

/-- A digit's value, or 16: it is none. -/
def digN (x : Nat) : Nat := if 48 ≤ x ∧ x ≤ 57 then x - 48 else if 97 ≤ x ∧ x ≤ 102 then x - 87 else if 65 ≤ x ∧ x ≤ 70 then x - 55 else 16
set_option maxHeartbeats 1000000 in
theorem rdigit_any (x : Nat) (w : World) (hx : x < 256) :
    Calls Try.prog 38 #[.int .u8 (x : Int)] w fun e w' => e = .returned (.int .i64 (if digN x = 16 then -1 else (digN x : Int))) ∧ w = w' := by
  by_cases h1 : 48 ≤ x ∧ x ≤ 57
  · have e : (if digN x = 16 then (-1 : Int) else (digN x : Int)) = (x : Int) - 48 := by unfold digN; rw [if_pos h1]; split <;> omega
    have a1 : (48 : Int) ≤ (x : Int) := by omega
    have a2 : (x : Int) ≤ 57 := by omega
    rw [e]
    clear e h1
    go_enter Try.func38, Try.ntmps38
    go_wp2_with fail
    go_ret
    refine ⟨?_, rfl⟩
    refine ret_i64 ?_
    first | (simp only [IntKind.wrap_u8, IntKind.wrap_i64, wrap64]; omega) | omega
  · by_cases h2 : 97 ≤ x ∧ x ≤ 102
    · have e : (if digN x = 16 then (-1 : Int) else (digN x : Int)) = (x : Int) - 87 := by unfold digN; rw [if_neg h1, if_pos h2]; split <;> omega
      have a1 : (48 : Int) ≤ (x : Int) := by omega
      have a2 : ¬ (x : Int) ≤ 57 := by omega
      have a3 : (97 : Int) ≤ (x : Int) := by omega
      have a4 : (x : Int) ≤ 102 := by omega
      rw [e]
      clear e h1 h2
      go_enter Try.func38, Try.ntmps38
      go_wp2_with fail
      go_ret
      refine ⟨?_, rfl⟩
      refine ret_i64 ?_
      first | (simp only [IntKind.wrap_u8, IntKind.wrap_i64, wrap64]; omega) | omega
    · by_cases h3 : 65 ≤ x ∧ x ≤ 70
      · have e : (if digN x = 16 then (-1 : Int) else (digN x : Int)) = (x : Int) - 55 := by unfold digN; rw [if_neg h1, if_neg h2, if_pos h3]; split <;> omega
        have a1 : (48 : Int) ≤ (x : Int) := by omega
        have a2 : ¬ (x : Int) ≤ 57 := by omega
        have a3 : ¬ (97 : Int) ≤ (x : Int) := by omega
        have a5 : (65 : Int) ≤ (x : Int) := by omega
        have a6 : (x : Int) ≤ 70 := by omega
        rw [e]
        clear e h1 h2 h3
        go_enter Try.func38, Try.ntmps38
        go_wp2_with fail
        go_ret
        refine ⟨?_, rfl⟩
        refine ret_i64 ?_
        first | (simp only [IntKind.wrap_u8, IntKind.wrap_i64, wrap64]; omega) | omega
      · have e : (if digN x = 16 then (-1 : Int) else (digN x : Int)) = -1 := by unfold digN; rw [if_neg h1, if_neg h2, if_neg h3]; rfl
        have b1 : (decide ((48 : Int) ≤ (x : Int)) && decide ((x : Int) ≤ 57)) = false := by simp; omega
        have b2 : (decide ((97 : Int) ≤ (x : Int)) && decide ((x : Int) ≤ 102)) = false := by simp; omega
        have b3 : (decide ((65 : Int) ≤ (x : Int)) && decide ((x : Int) ≤ 70)) = false := by simp; omega
        rw [e]
        clear e
        go_enter Try.func38, Try.ntmps38
        by_cases c1 : (48 : Int) ≤ (x : Int) <;> by_cases c2 : (x : Int) ≤ 57 <;> by_cases c3 : (97 : Int) ≤ (x : Int) <;> by_cases c4 : (x : Int) ≤ 102 <;> by_cases c5 : (65 : Int) ≤ (x : Int) <;> by_cases c6 : (x : Int) ≤ 70 <;> first | omega | (clear h1 h2 h3 b1 b2 b3; go_wp2_with fail; go_ret; exact ⟨rfl, rfl⟩)
end Go.Proofs.Ytbmeejopfcpoaaa
