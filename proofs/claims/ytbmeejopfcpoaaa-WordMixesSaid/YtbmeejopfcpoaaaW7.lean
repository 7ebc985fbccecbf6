/- The reference: words as bytes, the highest byte first. -/
import Derived.Test.YtbmeejopfcpoaaaW6
namespace Go.Proofs.Ytbmeejopfcpoaaa
open Go.RowKit
set_option linter.unusedSimpArgs false
set_option linter.unusedVariables false

theorem wordN_lt' (x : Int) : wordN x < 4294967296 := by unfold wordN; omega
/-- The four bytes of a number's word, the highest first. -/
def b4 (x : Int) : List UInt8 := [UInt8.ofNat (wordN x / 16777216), UInt8.ofNat (wordN x / 65536), UInt8.ofNat (wordN x / 256), UInt8.ofNat (wordN x)]
def putL (z : Nat → Int) (k : Nat) : List UInt8 := (List.range k).flatMap fun j => b4 (z j)
theorem putL_succ (z : Nat → Int) (k : Nat) : putL z (k + 1) = putL z k ++ b4 (z k) := by
  unfold putL; rw [List.range_succ, List.flatMap_append]; simp
theorem putL_length (z : Nat → Int) (k : Nat) : (putL z k).length = 4 * k := by
  induction k with
  | zero => rfl
  | succ k ih => rw [putL_succ]; simp [ih, b4]; omega
set_option maxRecDepth 100000 in
set_option maxHeartbeats 4000000 in
theorem rputbig_any (a : Option Addr) (n cap : Nat) (z : Nat → Int) (w : World) (hn : n ≤ 10000) (hz : Ints w a n z) :
    Calls Try.prog 17 #[.slice a n cap] w fun e w' => e = .returned (.string ⟨(putL z n).toArray⟩) ∧ Mod (fun _ => False) w w' := by
  go_enter Try.func17, Try.ntmps17
  go_wp2_with fail
  go_loopw [3, 4] (fun v i wr => ∃ k : Nat, k ≤ n ∧ i = .int .i64 (k : Int) ∧ Acc w wr v (putL z k)) (fun _ i _ => n - (intOf i).toNat)
  case atStart => exact ⟨0, by omega, rfl, Acc.nil _⟩
  case round =>
    obtain ⟨k, hk, rfl, acc⟩ := hrel
    by_cases hlt : k < n
    · have hi0 : (0 : Int) ≤ (k : Int) := by omega
      have hlt2 : (k : Int) < (n : Int) := by omega
      obtain ⟨b1, o1, rfl, c1⟩ := (hz.kept acc.2) k hlt
      have HL := Lib.hid (putL_succ z k)
      have HN := Lib.hid (putL_length z k)
      have HZ := Lib.hid hz
      clear hz
      go_wp2_with fail
      refine (word_any _ _).mono ?_
      rintro e w2 ⟨rfl, rfl⟩
      have hx := wordN_lt' (z k)
      have HX : Hid (z k % 4294967296 = (wordN (z k) : Int)) := by
        show _ = _
        unfold wordN; omega
      rw [HX.out]
      clear c1
      generalize hX : wordN (z k) = X at *
      have HB : Hid (b4 (z k) = [UInt8.ofNat (X / 16777216), UInt8.ofNat (X / 65536), UInt8.ofNat (X / 256), UInt8.ofNat X]) := by rw [← hX]; rfl
      go_wp2_with (at_builtin; refine wpList_push rfl (.tmp 17) (.tmp 21) rfl rfl rfl acc ?hl (UInt8.ofNat (X / 16777216)) _ ?c1 rfl ?_)
      case c1 => simp only [UInt8.toNat_ofNat', i64_and255, IntKind.wrap_u8]; first | done | omega
      case hl =>
        try simp only [List.length_append, List.length_cons, List.length_nil]
        have := HN.out; omega
      clear acc
      intro v0 w0 acc
      go_wp2_with (at_builtin; refine wpList_push rfl (.tmp 23) (.tmp 28) rfl rfl rfl acc ?hl (UInt8.ofNat (X / 65536)) _ ?c1 rfl ?_)
      case c1 => simp only [UInt8.toNat_ofNat', i64_and255, IntKind.wrap_u8]; first | done | omega
      case hl =>
        try simp only [List.length_append, List.length_cons, List.length_nil]
        have := HN.out; omega
      clear acc
      intro v1 w1 acc
      go_wp2_with (at_builtin; refine wpList_push rfl (.tmp 30) (.tmp 35) rfl rfl rfl acc ?hl (UInt8.ofNat (X / 256)) _ ?c1 rfl ?_)
      case c1 => simp only [UInt8.toNat_ofNat', i64_and255, IntKind.wrap_u8]; first | done | omega
      case hl =>
        try simp only [List.length_append, List.length_cons, List.length_nil]
        have := HN.out; omega
      clear acc
      intro v2 w2 acc
      go_wp2_with (at_builtin; refine wpList_push rfl (.tmp 37) (.tmp 41) rfl rfl rfl acc ?hl (UInt8.ofNat (X)) _ ?c1 rfl ?_)
      case c1 => simp only [UInt8.toNat_ofNat', i64_and255, IntKind.wrap_u8]; first | done | omega
      case hl =>
        try simp only [List.length_append, List.length_cons, List.length_nil]
        have := HN.out; omega
      clear acc
      intro v3 w3 acc
      have acc2 : Acc w w3 v3 (putL z (k + 1)) := by
        rw [HL.out, HB.out]
        simpa using acc
      go_wp2_with fail
      go_roundw
      case rel => exact ⟨k + 1, by omega, by go_num, acc2⟩
      case measure => simp [intOf]; omega
    · obtain rfl : k = n := by omega
      have HS := Lib.hid acc.str
      have hcv := HS.out
      go_wp2_with fail
      go_ret
      exact ⟨rfl, acc.2⟩
end Go.Proofs.Ytbmeejopfcpoaaa
