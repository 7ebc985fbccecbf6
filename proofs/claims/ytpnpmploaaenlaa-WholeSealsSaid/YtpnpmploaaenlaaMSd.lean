/- The reference's sum of a text: the walk. -/
import Derived.Test.YtpnpmploaaenlaaMSc
namespace Go.Proofs.Ytpnpmploaaenlaa
open Go.RowKit
set_option linter.unusedSimpArgs false
set_option linter.unusedVariables false
structure RSumWord (s T PL : ByteArray) (N : Nat) (St : Nat → ByteArray) : Prop where
  pc : ∀ w, Calls Try.prog 82 #[.int .i64 (s.size : Int)] w fun e w' => e = .returned (.tuple #[.string PL, .int .i64 0]) ∧ Mod (fun _ => False) w w'
  bc : ∀ w, Calls Try.prog 83 #[] w fun e w' => e = .returned (.string (St 0)) ∧ Mod (fun _ => False) w w'
  step : ∀ m b w, b.size = 64 → (∀ j, j < 16 → wordB b j = wordB T (16 * m + j)) → Calls Try.prog 84 #[.string (St m), .string b] w fun e w' => e = .returned (.tuple #[.string (St (m + 1)), .int .i64 0]) ∧ Mod (fun _ => False) w w'
  ts : T.size = 64 * N
  te : s ++ PL = T
  pl : PL.size ≤ 1000
set_option maxRecDepth 100000 in
set_option maxHeartbeats 4000000 in
theorem rsum_walk (s T PL : ByteArray) (N : Nat) (St : Nat → ByteArray) (hS : RSumWord s T PL N St) (hs : s.size ≤ 1000000) (w : World) :
    Calls Try.prog 59 #[.string s] w fun e w' => e = .returned (.string (St N)) ∧ Mod (fun _ => False) w w' := by
  have HS := Lib.hid hS
  have hbig : ¬ (9223372036854775807 < s.size + PL.size) := by have := hS.pl; omega
  have hte := hS.te
  have HT := Lib.hid (show T.size ≤ 1001000 by rw [← hS.te, ByteArray.size_append]; have := hS.pl; omega)
  clear hS
  go_enter Try.func59, Try.ntmps59
  go_wp2_with (first | (go_at_call 82; refine (HS.out.pc _).mono ?_; rintro e w1 ⟨rfl, hm1⟩) | (go_at_call 83; refine (HS.out.bc _).mono ?_; rintro e w2 ⟨rfl, hm2⟩))
  go_loopw [5, 6] (fun st i wr => ∃ k c : Nat, k ≤ N ∧ c = 64 * k ∧ i = .int .i64 (c : Int) ∧ st = .string (St k) ∧ Mod (fun _ => False) w wr) (fun _ i _ => T.size - (intOf i).toNat)
  case atStart => exact ⟨0, 0, by omega, rfl, rfl, rfl, hm1.tr hm2⟩
  case round =>
    obtain ⟨k, c, hk, hc, rfl, rfl, hm⟩ := hrel
    have Hc := Lib.hid hc
    have hw : IntKind.i64.wrap ((c : Int) + 64) = (c : Int) + 64 := by rw [IntKind.wrap_i64]; have := HS.out.ts; have := HT.out; omega
    have hc0 : (0 : Int) ≤ (c : Int) := by omega
    by_cases hlt : k < N
    · have hc1 : (c : Int) + 64 ≤ (T.size : Int) := by have := HS.out.ts; omega
      have hc4 : c + 64 ≤ T.size := by omega
      have hc2 : ((c : Int) + 64).toNat = c + 64 := by omega
      have hc3 : (c : Int) ≤ (c : Int) + 64 := by omega
      have hbs : (T.extract c (c + 64)).size = 64 := by rw [ByteArray.size_extract]; omega
      have ev : ∀ j, j < 16 → wordB (T.extract c (c + 64)) j = wordB T (16 * k + j) := fun j hj => wordB_ext T c (c + 64) j (16 * k) (by omega) (by omega)
      clear hc hte
      go_wp2_with (go_at_call 84; refine (HS.out.step k _ _ hbs ev).mono ?_; rintro e w3 ⟨rfl, hm3⟩)
      go_roundw
      case rel => exact ⟨k + 1, c + 64, by omega, by have := Hc.out; omega, by go_num, rfl, hm.tr hm3⟩
      case measure => simp [intOf]; omega
    · obtain rfl : k = N := by omega
      have hc1 : ¬ ((c : Int) + 64 ≤ (T.size : Int)) := by have := HS.out.ts; omega
      clear hc hte
      go_wp2_with fail
      go_ret
      exact ⟨rfl, hm⟩
theorem rblock_any (h : Nat → Nat) (hh : ∀ j, h j < 4294967296) (b : ByteArray) (hb : b.size = 64) (w : World) :
    Calls Try.prog 84 #[.string ⟨(textL h).toArray⟩, .string b] w fun e w' => e = .returned (.tuple #[.string ⟨(textL (stepN h (wordB b))).toArray⟩, .int .i64 0]) ∧ Mod (fun _ => False) w w' :=
  rblock_walk h b _ _ _ _ (step_word h hh b) (schedule_any b hb) rconst_any ⟨(textL h).toArray⟩ (by show (textL h).toArray.size = 32; unfold textL; rw [List.size_toArray, putL_len]) (text_word h hh) hb w
theorem rsum_word (s : ByteArray) (hs : s.size ≤ 1000000) : RSumWord s (padded s) ⟨(padL s.size).toArray⟩ ((s.size + 72) / 64) (fun k => ⟨(textL (hashN (padded s) k)).toArray⟩) where
  pc := rpad_any s.size hs
  bc := begin_any
  step := fun m b w hb hw => by
    show Calls Try.prog 84 #[.string ⟨(textL (hashN (padded s) m)).toArray⟩, .string b] w fun e w' => e = .returned (.tuple #[.string ⟨(textL (hashN (padded s) (m + 1))).toArray⟩, .int .i64 0]) ∧ Mod (fun _ => False) w w'
    rw [← hashN_succ (padded s) b m hw]
    exact rblock_any _ (hashN_lt _ m) b hb w
  ts := padded_size s
  te := rfl
  pl := by
    show (padL s.size).toArray.size ≤ 1000
    rw [List.size_toArray, padL_len]
    omega
theorem rsum_any (s : ByteArray) (hs : s.size ≤ 1000000) (w : World) :
    Calls Try.prog 59 #[.string s] w fun e w' => e = .returned (.string (shaS s)) ∧ Mod (fun _ => False) w w' :=
  rsum_walk s _ _ _ _ (rsum_word s hs) hs w
end Go.Proofs.Ytpnpmploaaenlaa
