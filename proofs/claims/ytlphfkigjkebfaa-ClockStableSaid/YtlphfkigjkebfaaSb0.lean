/- ClockStable: what is told of each client, and the least of these. -/
import Derived.Test.YtlphfkigjkebfaaTwoP
import Derived.Test.YtlphfkigjkebfaaHelb
namespace Go.Proofs.Ytlphfkigjkebfaa
open Go.RowKit
set_option linter.unusedSimpArgs false
set_option linter.unusedVariables false

/-- The last time of u among the first k stamps. -/
def lastF (z : Nat → Int × Int) (u : Int) : Nat → Int
  | 0 => 0
  | k + 1 => if mayB (z k).1 (z k).2 = true ∧ (z k).2 = u then mxI (lastF z u k) (z k).1 else lastF z u k
/-- The least of the first m numbers. -/
def minL (x : Nat → Int) : Nat → Int
  | 0 => 0
  | 1 => x 0
  | k + 2 => if x (k + 1) < minL x (k + 1) then x (k + 1) else minL x (k + 1)
/-- The least of the first m clients' last times. -/
def leastF (z : Nat → Int × Int) (n : Nat) (us : Nat → Int) (m : Nat) : Int := minL (fun k => lastF z (us k) n) m
theorem lastF_bd (z : Nat → Int × Int) (u : Int) : ∀ k, 0 ≤ lastF z u k ∧ lastF z u k ≤ 1099511627775
  | 0 => by simp [lastF]
  | k + 1 => by
    have ih := lastF_bd z u k
    unfold lastF
    split
    · rename_i h
      have := of_decide_eq_true h.1
      unfold mxI; split <;> omega
    · exact ih
/-- The cells of n numbers. -/
def Ints (w : World) (a : Option Addr) (n : Nat) (z : Nat → Int) : Prop :=
  ∀ k, k < n → ∃ b off, a = some ⟨b, off, none⟩ ∧ w.cell? ⟨b, off + k, none⟩ = some (.int .i64 (z k))
theorem Ints.kept {w w' : World} {a : Option Addr} {n : Nat} {z : Nat → Int} (h : Ints w a n z) (m : Mod (fun _ => False) w w') : Ints w' a n z := fun k hk => by
  obtain ⟨b, off, e, c⟩ := h k hk
  exact ⟨b, off, e, m.at c⟩
theorem Stamps.kept {w w' : World} {a : Option Addr} {n : Nat} {z : Nat → Int × Int} (h : Stamps w a n z) (m : Mod (fun _ => False) w w') : Stamps w' a n z := fun k hk => by
  obtain ⟨b, off, e, c, d⟩ := h k hk
  exact ⟨b, off, e, m.at c, m.at d⟩

set_option maxHeartbeats 2000000 in
theorem seen_any (u : Int) (cb : Nat) (a : Option Addr) (n cap : Nat) (z : Nat → Int × Int) (w : World) (hc : w.cell? ⟨cb, 0, none⟩ = some (.slice a n cap)) (hn : n ≤ 1000) (hz : Stamps w a n z) :
    Calls Try.prog 25 #[.int .i64 u, .pointer (some ⟨cb, 0, none⟩)] w fun e w' => e = .returned (.int .i64 (lastF z u n)) ∧ Mod (fun _ => False) w w' := by
  go_enter Try.func25, Try.ntmps25
  go_wp2_with fail
  go_loopw [4, 9] (fun s i wr => ∃ k : Nat, k ≤ n ∧ i = .int .i64 k ∧ s = .int .i64 (lastF z u k) ∧ Mod (fun _ => False) w wr) (fun _ i _ => n - (intOf i).toNat)
  case atStart => exact ⟨0, by omega, rfl, rfl, Mod.refl _ _⟩
  case round =>
    obtain ⟨k, hk, rfl, rfl, hm⟩ := hrel
    by_cases hlt : k < n
    · obtain ⟨b, off, rfl, z0, z1⟩ := hz k hlt
      replace z0 := hm.at z0; replace z1 := hm.at z1
      have hb := World.block_lt_of_cell? wr _ z0
      have hi0 : (0 : Int) ≤ (k : Int) := by omega
      have hi1 : (k : Int) < (n : Int) := by omega
      have hbd := lastF_bd z u k
      have hst : lastF z u (k + 1) = if mayB (z k).1 (z k).2 = true ∧ (z k).2 = u then mxI (lastF z u k) (z k).1 else lastF z u k := rfl
      have HS := Lib.hid hst
      clear hst hz hc
      obtain ⟨r2, hr2⟩ : ∃ r2, r2 = lastF z u (k + 1) := ⟨_, rfl⟩
      obtain ⟨r1, hr1⟩ : ∃ r1, r1 = lastF z u k := ⟨_, rfl⟩
      have HR : Hid (Value.int .i64 r2 = .int .i64 (lastF z u (k + 1))) := by rw [hr2]; rfl
      rw [← hr2, ← hr1] at HS
      rw [← hr1] at hbd
      rw [← hr1]
      clear hr1 hr2
      generalize (z k).1 = st at *
      generalize (z k).2 = sw at *
      go_wp2_with fail
      refine (may_any _ _ _).mono ?_
      rintro e w2 ⟨rfl, o, rfl⟩
      have m2 : Mod (fun _ => False) w ((wr.alloc (.cells #[.int .i64 st, .int .i64 sw] 23)).alloc o) := (hm.alloc _).alloc _
      have s0 := cell_new wr #[.int .i64 st, .int .i64 sw] 23 0 _ rfl
      have s1 := cell_new wr #[.int .i64 st, .int .i64 sw] 23 1 _ rfl
      cases hmb : mayB st sw
      · have h2 : r2 = r1 := by rw [HS.out, if_neg (by rw [hmb]; simp)]
        subst h2
        go_wp2_with fail
        go_roundw
        case rel => exact ⟨k + 1, by omega, by go_num, HR.out, m2⟩
        case measure => simp [intOf]; omega
      · by_cases hu : sw = u
        · have hub : (sw == u) = true := by rw [beq_iff_eq]; exact hu
          have h2 : r2 = mxI r1 st := by rw [HS.out, if_pos ⟨hmb, hu⟩]
          have H2 := Lib.hid h2
          clear h2 hu
          by_cases hlt2 : r1 < st
          · have e2 : Value.int .i64 st = .int .i64 (lastF z u (k + 1)) := by rw [← HR.out, H2.out]; unfold mxI; rw [if_pos (by omega)]
            have E2 := Lib.hid e2
            clear e2
            go_wp2_with fail
            go_roundw
            case rel => exact ⟨k + 1, by omega, by go_num, E2.out, m2⟩
            case measure => simp [intOf]; omega
          · have e2 : Value.int .i64 r1 = .int .i64 (lastF z u (k + 1)) := by rw [← HR.out, H2.out, show mxI r1 st = r1 by unfold mxI; split <;> omega]
            have E2 := Lib.hid e2
            clear e2
            go_wp2_with fail
            go_roundw
            case rel => exact ⟨k + 1, by omega, by go_num, E2.out, m2⟩
            case measure => simp [intOf]; omega
        · have hub : (sw == u) = false := by rw [beq_eq_false_iff_ne]; exact hu
          have h2 : r2 = r1 := by rw [HS.out, if_neg (fun e => hu e.2)]
          subst h2
          clear hu
          go_wp2_with fail
          go_roundw
          case rel => exact ⟨k + 1, by omega, by go_num, HR.out, m2⟩
          case measure => simp [intOf]; omega
    · obtain rfl : k = n := by omega
      go_wp2_with fail
      go_ret
      exact ⟨rfl, hm⟩

theorem minL_succ (x : Nat → Int) (k : Nat) : minL x (k + 2) = if x (k + 1) < minL x (k + 1) then x (k + 1) else minL x (k + 1) := rfl
set_option maxHeartbeats 2000000 in
theorem min_any (a : Option Addr) (n cap : Nat) (x : Nat → Int) (w : World) (h1 : 1 ≤ n) (hn : n ≤ 1000) (hx : Ints w a n x) :
    Calls Try.prog 26 #[.slice a n cap] w fun e w' => e = .returned (.int .i64 (minL x n)) ∧ w = w' := by
  obtain ⟨b, off, rfl, x0⟩ := hx 0 (by omega)
  have hn0 : (1 : Int) ≤ (n : Int) := by omega
  rw [Nat.add_zero] at x0
  have hn1 : (0 : Int) < (n : Int) := by omega
  go_enter Try.func26, Try.ntmps26
  go_wp2_with fail
  go_loopw [3, 4] (fun s i wr => ∃ k : Nat, k + 1 ≤ n ∧ i = .int .i64 (k + 1 : Nat) ∧ s = .int .i64 (minL x (k + 1)) ∧ w = wr) (fun _ i _ => n - (intOf i).toNat)
  case atStart => exact ⟨0, by omega, rfl, rfl, rfl⟩
  case round =>
    obtain ⟨k, hk, rfl, rfl, rfl⟩ := hrel
    by_cases hlt : k + 1 < n
    · obtain ⟨b', off', e, z0⟩ := hx (k + 1) hlt
      simp only [Option.some.injEq, Addr.mk.injEq] at e
      obtain ⟨rfl, rfl, _⟩ := e
      have hst := minL_succ x k
      obtain ⟨r2, hr2⟩ : ∃ r2, r2 = minL x (k + 2) := ⟨_, rfl⟩
      obtain ⟨r1, hr1⟩ : ∃ r1, r1 = minL x (k + 1) := ⟨_, rfl⟩
      have HR : Hid (Value.int .i64 r2 = .int .i64 (minL x (k + 1 + 1))) := by rw [hr2]; rfl
      rw [← hr2, ← hr1] at hst
      rw [← hr1]
      have HS := Lib.hid hst
      clear hr1 hr2 hst x0 hx hn0
      have hi0 : (0 : Int) ≤ ((k + 1 : Nat) : Int) := by omega
      have hi1 : ((k + 1 : Nat) : Int) < (n : Int) := by omega
      generalize x (k + 1) = v at *
      obtain ⟨q, hq⟩ : ∃ q, q = k + 1 := ⟨_, rfl⟩
      rw [← hq] at hi0 hi1 z0 hlt hk HR
      rw [← hq]
      have HQ := Lib.hid hq
      clear hq
      by_cases hlt2 : v < r1
      · have e2 : Value.int .i64 v = .int .i64 (minL x (q + 1)) := by rw [← HR.out, HS.out, if_pos hlt2]
        have E2 := Lib.hid e2
        clear e2
        go_wp2_with fail
        go_roundw
        case rel => exact ⟨k + 1, by have := HQ.out; omega, by rw [← HQ.out]; go_num, by rw [← HQ.out]; exact E2.out, by first | rfl | trivial⟩
        case measure => simp [intOf]; omega
      · have e2 : Value.int .i64 r1 = .int .i64 (minL x (q + 1)) := by rw [← HR.out, HS.out, if_neg hlt2]
        have E2 := Lib.hid e2
        clear e2
        go_wp2_with fail
        go_roundw
        case rel => exact ⟨k + 1, by have := HQ.out; omega, by rw [← HQ.out]; go_num, by rw [← HQ.out]; exact E2.out, by first | rfl | trivial⟩
        case measure => simp [intOf]; omega
    · obtain rfl : k + 1 = n := by omega
      go_wp2_with fail
      go_ret
      exact ⟨rfl, rfl⟩
end Go.Proofs.Ytlphfkigjkebfaa
