/- The reference: bytes four by four the other way round. -/
import Derived.Test.YtbmeejopfcpoaaaW5
namespace Go.Proofs.Ytbmeejopfcpoaaa
open Go.RowKit
set_option linter.unusedSimpArgs false
set_option linter.unusedVariables false

def byteU (s : ByteArray) (i : Nat) : UInt8 := (bytes s).getD i 0
theorem byteU_at (s : ByteArray) (i : Nat) : (byteU s i).toNat = byteAt s i := rfl
def rev4 (s : ByteArray) (k : Nat) : List UInt8 := (List.range k).flatMap fun j => [byteU s (4 * j + 3), byteU s (4 * j + 2), byteU s (4 * j + 1), byteU s (4 * j)]
theorem rev4_succ (s : ByteArray) (k : Nat) : rev4 s (k + 1) = rev4 s k ++ [byteU s (4 * k + 3), byteU s (4 * k + 2), byteU s (4 * k + 1), byteU s (4 * k)] := by
  unfold rev4; rw [List.range_succ, List.flatMap_append]; simp
theorem rev4_length (s : ByteArray) (k : Nat) : (rev4 s k).length = 4 * k := by
  induction k with
  | zero => rfl
  | succ k ih => rw [rev4_succ]; simp [ih]; omega
set_option maxRecDepth 100000 in
set_option maxHeartbeats 4000000 in
theorem turned_any (s : ByteArray) (w : World) (hs : s.size ≤ 100000) (m : Nat) (hm : s.size = 4 * m) :
    Calls Try.prog 34 #[.string s] w fun e w' => e = .returned (.string ⟨(rev4 s m).toArray⟩) ∧ Mod (fun _ => False) w w' := by
  have HM := Lib.hid hm
  clear hm
  go_enter Try.func34, Try.ntmps34
  go_wp2_with fail
  go_loopw [3, 4] (fun v i wr => ∃ k j : Nat, k ≤ m ∧ j = 4 * k ∧ i = .int .i64 (j : Int) ∧ Acc w wr v (rev4 s k)) (fun _ i _ => s.size - (intOf i).toNat)
  case atStart => exact ⟨0, 0, by omega, rfl, rfl, Acc.nil _⟩
  case round =>
    obtain ⟨k, j, hk, hj, rfl, acc⟩ := hrel
    have hjs : (j : Int) ≤ 100000 := by have := HM.out; omega
    have hi0 : (0 : Int) ≤ (j : Int) := by omega
    have wr1 : wrap64 ((j : Int) + 1) = (j : Int) + 1 := by simp only [wrap64]; omega
    have wr2 : wrap64 ((j : Int) + 2) = (j : Int) + 2 := by simp only [wrap64]; omega
    have wr3 : wrap64 ((j : Int) + 3) = (j : Int) + 3 := by simp only [wrap64]; omega
    have wr4 : wrap64 ((j : Int) + 4) = (j : Int) + 4 := by simp only [wrap64]; omega
    have HJ := Lib.hid hj
    clear hj
    by_cases hlt : k < m
    · have hb4 : j + 4 ≤ s.size := by have := HM.out; have := HJ.out; omega
      have hlt2 : (j : Int) + 3 < ((s.size : Nat) : Int) := by omega
      have HL := Lib.hid (rev4_succ s k)
      have HN := Lib.hid (rev4_length s k)
      go_wp2_with (at_builtin; refine wpList_push rfl (.tmp 12) (.tmp 17) rfl rfl rfl acc ?hl (byteU s (4 * k + 3)) _ ?c1 rfl ?_)
      case c1 => rw [byteU_at]; first | (rw [byteAt_get s (j + 3) (by omega), HJ.out]; done) | (rw [byteAt_int s _ (4 * k + 3) (by have := HJ.out; omega)]; done)
      case hl => try simp only [List.length_append, List.length_cons, List.length_nil]
                 have := HN.out; have := HJ.out; omega
      clear acc
      intro v0 w0 acc
      go_wp2_with (at_builtin; refine wpList_push rfl (.tmp 19) (.tmp 24) rfl rfl rfl acc ?hl (byteU s (4 * k + 2)) _ ?c1 rfl ?_)
      case c1 => rw [byteU_at]; first | (rw [byteAt_get s (j + 2) (by omega), HJ.out]; done) | (rw [byteAt_int s _ (4 * k + 2) (by have := HJ.out; omega)]; done)
      case hl => try simp only [List.length_append, List.length_cons, List.length_nil]
                 have := HN.out; have := HJ.out; omega
      clear acc
      intro v1 w1 acc
      go_wp2_with (at_builtin; refine wpList_push rfl (.tmp 26) (.tmp 31) rfl rfl rfl acc ?hl (byteU s (4 * k + 1)) _ ?c1 rfl ?_)
      case c1 => rw [byteU_at]; first | (rw [byteAt_get s (j + 1) (by omega), HJ.out]; done) | (rw [byteAt_int s _ (4 * k + 1) (by have := HJ.out; omega)]; done)
      case hl => try simp only [List.length_append, List.length_cons, List.length_nil]
                 have := HN.out; have := HJ.out; omega
      clear acc
      intro v2 w2 acc
      go_wp2_with (at_builtin; refine wpList_push rfl (.tmp 33) (.tmp 37) rfl rfl rfl acc ?hl (byteU s (4 * k)) _ ?c1 rfl ?_)
      case c1 => rw [byteU_at]; first | (rw [byteAt_get s (j) (by omega), HJ.out]; done) | (rw [byteAt_int s _ (4 * k) (by have := HJ.out; omega)]; done)
      case hl => try simp only [List.length_append, List.length_cons, List.length_nil]
                 have := HN.out; have := HJ.out; omega
      clear acc
      intro v3 w3 acc
      rw [← HL.out] at acc
      go_wp2_with fail
      go_roundw
      case rel => exact ⟨k + 1, j + 4, by omega, by have := HJ.out; omega, by go_num, acc⟩
      case measure => simp [intOf]; omega
    · obtain rfl : k = m := by omega
      have hge : ¬ ((j : Int) + 3 < ((s.size : Nat) : Int)) := by have := HM.out; have := HJ.out; omega
      have HS := Lib.hid acc.str
      have hcv := HS.out
      go_wp2_with fail
      go_ret
      exact ⟨rfl, acc.2⟩
end Go.Proofs.Ytbmeejopfcpoaaa
