/- Bytes as digits. -/
import Derived.Test.YtbmeejopfcpoaaaX2
import Derived.Test.YtbmeejopfcpoaaaW9
namespace Go.Proofs.Ytbmeejopfcpoaaa
open Go.RowKit
set_option linter.unusedSimpArgs false
set_option linter.unusedVariables false

def digs : ByteArray := ⟨#[48, 49, 50, 51, 52, 53, 54, 55, 56, 57, 97, 98, 99, 100, 101, 102]⟩
def hexL (s : ByteArray) (k : Nat) : List UInt8 := (List.range k).flatMap fun j => [byteU digs (byteAt s j / 16), byteU digs (byteAt s j % 16)]
theorem hexL_succ (s : ByteArray) (k : Nat) : hexL s (k + 1) = hexL s k ++ [byteU digs (byteAt s k / 16), byteU digs (byteAt s k % 16)] := by
  unfold hexL; rw [List.range_succ, List.flatMap_append]; simp
theorem hexL_length (s : ByteArray) (k : Nat) : (hexL s k).length = 2 * k := by
  induction k with
  | zero => rfl
  | succ k ih => rw [hexL_succ]; simp [ih]; omega
theorem u8_and15 (n : Nat) (h : n < 256) : bits BinOp.and IntKind.u8 (n : Int) 15 = ((n % 16 : Nat) : Int) := by
  rw [show (15 : Int) = ((15 : Nat) : Int) from rfl, u8_and_nat _ _ h (by decide), show (15 : Nat) = 2 ^ 4 - 1 from rfl, Nat.and_two_pow_sub_one_eq_mod]
set_option maxRecDepth 100000 in
set_option maxHeartbeats 1000000 in
theorem rhex_any (s : ByteArray) (w : World) (hs : s.size ≤ 10000) :
    Calls Try.prog 29 #[.string s] w fun e w' => e = .returned (.string ⟨(hexL s s.size).toArray⟩) ∧ Mod (fun _ => False) w w' := by
  go_enter Try.func29, Try.ntmps29
  go_wp2_with fail
  go_loopw [4, 5] (fun v i wr => ∃ k : Nat, k ≤ s.size ∧ i = .int .i64 (k : Int) ∧ Acc w wr v (hexL s k)) (fun _ i _ => s.size - (intOf i).toNat)
  case atStart => exact ⟨0, by omega, rfl, Acc.nil _⟩
  case round =>
    obtain ⟨k, hk, rfl, acc⟩ := hrel
    by_cases hlt : k < s.size
    · have hi0 : (0 : Int) ≤ (k : Int) := by omega
      have hlt2 : (k : Int) < ((s.size : Nat) : Int) := by omega
      have HL := Lib.hid (hexL_succ s k)
      have HN := Lib.hid (hexL_length s k)
      obtain ⟨X, HX, hX⟩ : ∃ X : Nat, Hid (byteAt s k = X) ∧ X < 256 := ⟨_, rfl, byteAt_lt s k⟩
      have hget : s[k].toNat = X := by rw [byteAt_get s k hlt, HX.out]
      have hand := u8_and15 X hX
      have hq0 : (0 : Int) ≤ (X : Int) / 16 := by omega
      have hq1 : (X : Int) / 16 < 16 := by omega
      have hr0 : (0 : Int) ≤ ((X % 16 : Nat) : Int) := by omega
      have hr1 : ((X % 16 : Nat) : Int) < 16 := by omega
      go_wp2_with (at_builtin; refine wpList_push rfl (.tmp 12) (.tmp 19) rfl rfl rfl acc ?hl (byteU digs (byteAt s k / 16)) _ ?c1 rfl ?_)
      case c1 =>
        rw [byteU_at]
        first | (rw [byteAt_get digs _ (by show _ < 16; omega), HX.out]; done) | (rw [HX.out]; exact congrArg Nat.cast (byteAt_get digs _ (by show _ < 16; omega))) | (rw [HX.out]; exact congrArg Nat.cast (byteAt_int digs _ _ (by omega)))
      case hl =>
        try simp only [List.length_append, List.length_cons, List.length_nil]
        have := HN.out; omega
      clear acc
      intro v0 w0 acc
      go_wp2_with (at_builtin; refine wpList_push rfl (.tmp 21) (.tmp 28) rfl rfl rfl acc ?hl (byteU digs (byteAt s k % 16)) _ ?c1 rfl ?_)
      case c1 =>
        rw [byteU_at]
        first | (rw [byteAt_get digs _ (by show _ < 16; omega), HX.out]; done) | (rw [HX.out]; exact congrArg Nat.cast (byteAt_get digs _ (by show _ < 16; omega))) | (rw [HX.out]; exact congrArg Nat.cast (byteAt_int digs _ _ (by omega)))
      case hl =>
        try simp only [List.length_append, List.length_cons, List.length_nil]
        have := HN.out; omega
      clear acc
      intro v1 w1 acc
      rw [← HL.out] at acc
      go_wp2_with fail
      go_roundw
      case rel => exact ⟨k + 1, by omega, by go_num, acc⟩
      case measure => simp [intOf]; omega
    · obtain rfl : k = s.size := by omega
      have HS := Lib.hid acc.str
      have hcv := HS.out
      go_wp2_with fail
      go_ret
      exact ⟨rfl, acc.2⟩
set_option maxRecDepth 100000 in
set_option maxHeartbeats 1000000 in
theorem hex_any (s : ByteArray) (w : World) (hs : s.size ≤ 10000) :
    Calls Try.prog 28 #[.string s] w fun e w' => e = .returned (.string ⟨(hexL s s.size).toArray⟩) ∧ Mod (fun _ => False) w w' := by
  have FR := Lib.hid (bld_fresh w)
  go_enter Try.func28, Try.ntmps28
  go_wp2_with fail
  go_loopw [7] (fun i wr => ∃ k : Nat, k ≤ s.size ∧ i = .int .i64 (k : Int) ∧ Bld w wr w.heap.size (hexL s k)) (fun i _ => s.size - (intOf i).toNat)
  case atStart => exact ⟨0, by omega, rfl, FR.out⟩
  case round =>
    obtain ⟨k, hk, rfl, bld⟩ := hrel
    by_cases hlt : k < s.size
    · have hi0 : (0 : Int) ≤ (k : Int) := by omega
      have hlt2 : (k : Int) < ((s.size : Nat) : Int) := by omega
      have HL := Lib.hid (hexL_succ s k)
      have HN := Lib.hid (hexL_length s k)
      obtain ⟨X, HX, hX⟩ : ∃ X : Nat, Hid (byteAt s k = X) ∧ X < 256 := ⟨_, rfl, byteAt_lt s k⟩
      have hget : s[k].toNat = X := by rw [byteAt_get s k hlt, HX.out]
      have hand := u8_and15 X hX
      have hq0 : (0 : Int) ≤ (X : Int) / 16 := by omega
      have hq1 : (X : Int) / 16 < 16 := by omega
      have hr0 : (0 : Int) ≤ ((X % 16 : Nat) : Int) := by omega
      have hr1 : ((X % 16 : Nat) : Int) < 16 := by omega
      go_wp2_with fail
      refine (wbyte_any w _ _ _ bld (byteU digs (byteAt s k / 16)) _ ?c1 ?hl).mono ?_
      case c1 =>
        rw [byteU_at]
        first | (rw [byteAt_get digs _ (by show _ < 16; omega), HX.out]; done) | (rw [HX.out]; exact congrArg Nat.cast (byteAt_get digs _ (by show _ < 16; omega))) | (rw [HX.out]; exact congrArg Nat.cast (byteAt_int digs _ _ (by omega)))
      case hl => have := HN.out; omega
      rintro e w1 ⟨rfl, used⟩
      clear bld
      go_wp2_with fail
      refine (wbyte_any w _ _ _ used.bld (byteU digs (byteAt s k % 16)) _ ?c2 ?hl2).mono ?_
      case c2 =>
        rw [byteU_at]
        first | (rw [byteAt_get digs _ (by show _ < 16; omega), HX.out]; done) | (rw [HX.out]; exact congrArg Nat.cast (byteAt_get digs _ (by show _ < 16; omega))) | (rw [HX.out]; exact congrArg Nat.cast (byteAt_int digs _ _ (by omega)))
      case hl2 => simp only [List.length_append, List.length_cons, List.length_nil]; have := HN.out; omega
      rintro e w2 ⟨rfl, used2⟩
      rw [List.append_assoc, show [byteU digs (byteAt s k / 16)] ++ [byteU digs (byteAt s k % 16)] = [byteU digs (byteAt s k / 16), byteU digs (byteAt s k % 16)] from rfl, ← HL.out] at used2
      clear used
      go_wp2_with fail
      go_roundw
      case rel => exact ⟨k + 1, by omega, by go_num, used2.bld⟩
      case measure => simp [intOf]; omega
    · obtain rfl : k = s.size := by omega
      go_wp2_with fail
      refine (string_any w _ _ _ bld).mono ?_
      rintro e w4 ⟨rfl, m4⟩
      go_wp2_with fail
      go_ret
      exact ⟨rfl, m4⟩
end Go.Proofs.Ytbmeejopfcpoaaa
