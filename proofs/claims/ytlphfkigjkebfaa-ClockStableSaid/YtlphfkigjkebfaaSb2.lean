/- ClockStable: the document's Stable. -/
import Derived.Test.YtlphfkigjkebfaaSb1
namespace Go.Proofs.Ytlphfkigjkebfaa
open Go.RowKit
set_option linter.unusedSimpArgs false
set_option linter.unusedVariables false

set_option maxRecDepth 100000 in
set_option maxHeartbeats 8000000 in
theorem rstable_any (a b' : Option Addr) (n m cap cap' : Nat) (z : Nat → Int × Int) (us : Nat → Int) (w : World) (hn : n ≤ 1000) (hm : m ≤ 1000) (hz : Stamps w a n z) (hu : Ints w b' m us) :
    Calls Try.prog 21 #[.slice a n cap, .slice b' m cap'] w fun e w' => e = .returned (.int .i64 (leastF z n us m)) ∧ Mod (fun _ => False) w w' := by
  go_enter Try.func21, Try.ntmps21
  go_wp2_with fail
  go_loopw [5, 6] (fun s q wr => ∃ i : Nat, i ≤ m ∧ q = .int .i64 i ∧ s = .int .i64 (leastF z n us i) ∧ Mod (fun _ => False) w wr) (fun _ q _ => m - (intOf q).toNat)
  case atStart => exact ⟨0, by omega, rfl, rfl, Mod.refl _ _⟩
  case round =>
    obtain ⟨i, hi, rfl, rfl, hmr⟩ := hrel
    by_cases hlt : i < m
    · obtain ⟨bb, boff, rfl, u0⟩ := hu i hlt
      have hi0 : (0 : Int) ≤ (i : Int) := by omega
      have hi1 : (i : Int) < (m : Int) := by omega
      have HU := Lib.hid hu
      have hle : Hid (Value.int .i64 (leastF z n us (i + 1)) = .int .i64 (if i = 0 ∨ lastF z (us i) n < leastF z n us i then lastF z (us i) n else leastF z n us i)) := by
        match i with
        | 0 => rfl
        | i + 1 => show Value.int .i64 (if _ then _ else _) = _; simp [leastF]
      obtain ⟨u, hu1⟩ : ∃ u, u = us i := ⟨_, rfl⟩
      obtain ⟨lst, hl1⟩ : ∃ lst, lst = leastF z n us i := ⟨_, rfl⟩
      rw [← hu1] at u0 hle
      rw [← hl1] at hle
      rw [← hl1]
      clear hu hu1 hl1
      go_wp2_with fail
      go_loopw [7, 8] (fun s q wk => ∃ k : Nat, k ≤ n ∧ q = .int .i64 k ∧ s = .int .i64 (lastF z u k) ∧ Mod (fun _ => False) w wk) (fun _ q _ => n - (intOf q).toNat)
      case atStart => exact ⟨0, by omega, rfl, rfl, hmr⟩
      case round =>
        obtain ⟨k, hk, rfl, rfl, hmk⟩ := hrel
        by_cases hkn : k < n
        · obtain ⟨wk, hwk⟩ : ∃ wk, wk = wr := ⟨_, rfl⟩
          subst hwk
          obtain ⟨b, off, rfl, z0, z1⟩ := hz k hkn
          replace z0 := hmk.at z0; replace z1 := hmk.at z1; replace u0 := hmk.at u0
          have hk0 : (0 : Int) ≤ (k : Int) := by omega
          have hk1 : (k : Int) < (n : Int) := by omega
          have hst : lastF z u (k + 1) = if mayB (z k).1 (z k).2 = true ∧ (z k).2 = u then mxI (lastF z u k) (z k).1 else lastF z u k := rfl
          obtain ⟨r2, hr2⟩ : ∃ r2, r2 = lastF z u (k + 1) := ⟨_, rfl⟩
          obtain ⟨r1, hr1⟩ : ∃ r1, r1 = lastF z u k := ⟨_, rfl⟩
          have HR : Hid (Value.int .i64 r2 = .int .i64 (lastF z u (k + 1))) := by rw [hr2]; rfl
          rw [← hr2, ← hr1] at hst
          rw [← hr1]
          have HS := Lib.hid hst
          clear hr1 hr2 hst hz hmr
          generalize (z k).1 = st at *
          generalize (z k).2 = sw at *
          cases hmb : mayB st sw
          · have e2 : Value.int .i64 r1 = .int .i64 (lastF z u (k + 1)) := by rw [← HR.out, HS.out, if_neg (by rw [hmb]; simp)]
            have E2 := Lib.hid e2
            clear e2
            go_wp2_with fail
            refine wp_region_held_drew (S := (fun w' => w'.cell? ⟨b, off + k * 2, none⟩ = some (.int .i64 st) ∧ w'.cell? ⟨b, off + k * 2 + 1, none⟩ = some (.int .i64 sw) ∧ w'.cell? ⟨bb, boff + i, none⟩ = some (.int .i64 u) ∧ Mod (fun _ => False) w w')) (by kernel_rfl) ⟨z0, z1, u0, hmk.drew⟩ (fun hHeld => ?_)
            refine held_take 0 21 (v := ?_) rfl rfl (by kernel_rfl) (by kernel_rfl) (by kernel_rfl) (fun _ _ _ _ h => h) (by rfl) ?_ hHeld ?_
            rotate_left; · (intro w hSw; clear hSw; go_simp; first | done | with_reducible rfl)
            simp only [List.setIfInBounds_toArray, List.set_cons_zero, List.set_cons_succ]
            refine held_take 1 22 (v := ?_) rfl rfl (by kernel_rfl) (by kernel_rfl) (by kernel_rfl) (fun _ _ _ _ h => h) (by rfl) ?_ hHeld ?_
            rotate_left; · (intro w hSw; clear hSw; go_simp; first | done | with_reducible rfl)
            simp only [List.setIfInBounds_toArray, List.set_cons_zero, List.set_cons_succ]
            refine held_take 2 23 (v := ?_) rfl rfl (by kernel_rfl) (by kernel_rfl) (by kernel_rfl) (fun _ _ _ _ h => h) (by rfl) ?_ hHeld ?_
            rotate_left; · (intro w hSw; clear hSw; go_simp; first | done | with_reducible rfl)
            simp only [List.setIfInBounds_toArray, List.set_cons_zero, List.set_cons_succ]
            refine held_take 3 24 (v := ?_) rfl rfl (by kernel_rfl) (by kernel_rfl) (by kernel_rfl) (fun _ _ _ _ h => h) (by rfl) ?_ hHeld ?_
            rotate_left; · (intro w hSw; obtain ⟨hS0, hS1, hS2, hS3⟩ := hSw; go_simp; first | done | with_reducible rfl)
            simp only [List.setIfInBounds_toArray, List.set_cons_zero, List.set_cons_succ]
            refine held_call 4 25 rfl rfl (by kernel_rfl) (by rfl) (f := 23) (args := ?_) ?_ ?_
            rotate_left; · (go_simp; first | done | with_reducible rfl)
            refine (rmay_any _ _ _).mono ?_; rintro e w' ⟨rfl, o, rfl⟩
            have m : Mod (fun _ => False) wk.drew (wk.drew.alloc o) := (Mod.refl _ _).alloc _
            refine ⟨_, rfl, ⟨m.at hHeld.1, m.at hHeld.2.1, m.at hHeld.2.2.1, hHeld.2.2.2.tr m⟩, fun hNew => ?_⟩; clear hHeld; have hHeld := hNew; clear hNew
            simp only [List.setIfInBounds_toArray, List.set_cons_zero, List.set_cons_succ, hmb]
            refine held_take 5 26 (v := ?_) rfl rfl (by kernel_rfl) (by kernel_rfl) (by kernel_rfl) (fun _ _ _ _ h => h) (by rfl) ?_ hHeld ?_
            rotate_left; · (intro w hSw; clear hSw; go_simp; first | done | with_reducible rfl)
            simp only [List.setIfInBounds_toArray, List.set_cons_zero, List.set_cons_succ]
            refine held_skip 6 27 rfl rfl (by kernel_rfl) (by kernel_rfl) (by kernel_rfl) (fun _ _ _ _ h => h) (by rfl) hHeld ?_
            simp only [List.setIfInBounds_toArray, List.set_cons_zero, List.set_cons_succ]
            refine held_skip 7 28 rfl rfl (by kernel_rfl) (by kernel_rfl) (by kernel_rfl) (fun _ _ _ _ h => h) (by rfl) hHeld ?_
            simp only [List.setIfInBounds_toArray, List.set_cons_zero, List.set_cons_succ]
            refine held_skip 8 29 rfl rfl (by kernel_rfl) (by kernel_rfl) (by kernel_rfl) (fun _ _ _ _ h => h) (by rfl) hHeld ?_
            simp only [List.setIfInBounds_toArray, List.set_cons_zero, List.set_cons_succ]
            refine held_skip 9 30 rfl rfl (by kernel_rfl) (by kernel_rfl) (by kernel_rfl) (fun _ _ _ _ h => h) (by rfl) hHeld ?_
            simp only [List.setIfInBounds_toArray, List.set_cons_zero, List.set_cons_succ]
            refine held_skip 10 31 rfl rfl (by kernel_rfl) (by kernel_rfl) (by kernel_rfl) (fun _ _ _ _ h => h) (by rfl) hHeld ?_
            simp only [List.setIfInBounds_toArray, List.set_cons_zero, List.set_cons_succ]
            refine held_skip 11 32 rfl rfl (by kernel_rfl) (by kernel_rfl) (by kernel_rfl) (fun _ _ _ _ h => h) (by rfl) hHeld ?_
            simp only [List.setIfInBounds_toArray, List.set_cons_zero, List.set_cons_succ]
            refine held_skip 12 33 rfl rfl (by kernel_rfl) (by kernel_rfl) (by kernel_rfl) (fun _ _ _ _ h => h) (by rfl) hHeld ?_
            simp only [List.setIfInBounds_toArray, List.set_cons_zero, List.set_cons_succ]
            refine held_skip 13 34 rfl rfl (by kernel_rfl) (by kernel_rfl) (by kernel_rfl) (fun _ _ _ _ h => h) (by rfl) hHeld ?_
            simp only [List.setIfInBounds_toArray, List.set_cons_zero, List.set_cons_succ]
            refine held_skip 14 35 rfl rfl (by kernel_rfl) (by kernel_rfl) (by kernel_rfl) (fun _ _ _ _ h => h) (by rfl) hHeld ?_
            simp only [List.setIfInBounds_toArray, List.set_cons_zero, List.set_cons_succ]
            refine held_skip 15 36 rfl rfl (by kernel_rfl) (by kernel_rfl) (by kernel_rfl) (fun _ _ _ _ h => h) (by rfl) hHeld ?_
            simp only [List.setIfInBounds_toArray, List.set_cons_zero, List.set_cons_succ]
            refine held_take 16 37 (v := ?_) rfl rfl (by kernel_rfl) (by kernel_rfl) (by kernel_rfl) (fun _ _ _ _ h => h) (by rfl) ?_ hHeld ?_
            rotate_left; · (intro w hSw; clear hSw; go_simp; first | done | with_reducible rfl)
            simp only [List.setIfInBounds_toArray, List.set_cons_zero, List.set_cons_succ]
            refine held_take 17 38 (v := ?_) rfl rfl (by kernel_rfl) (by kernel_rfl) (by kernel_rfl) (fun _ _ _ _ h => h) (by rfl) ?_ hHeld ?_
            rotate_left; · (intro w hSw; clear hSw; go_simp; first | done | with_reducible rfl)
            simp only [List.setIfInBounds_toArray, List.set_cons_zero, List.set_cons_succ]
            refine held_skip 18 39 rfl rfl (by kernel_rfl) (by kernel_rfl) (by kernel_rfl) (fun _ _ _ _ h => h) (by rfl) hHeld ?_
            simp only [List.setIfInBounds_toArray, List.set_cons_zero, List.set_cons_succ]
            refine held_skip 19 40 rfl rfl (by kernel_rfl) (by kernel_rfl) (by kernel_rfl) (fun _ _ _ _ h => h) (by rfl) hHeld ?_
            simp only [List.setIfInBounds_toArray, List.set_cons_zero, List.set_cons_succ]
            refine held_skip 20 41 rfl rfl (by kernel_rfl) (by kernel_rfl) (by kernel_rfl) (fun _ _ _ _ h => h) (by rfl) hHeld ?_
            simp only [List.setIfInBounds_toArray, List.set_cons_zero, List.set_cons_succ]
            refine held_skip 21 42 rfl rfl (by kernel_rfl) (by kernel_rfl) (by kernel_rfl) (fun _ _ _ _ h => h) (by rfl) hHeld ?_
            simp only [List.setIfInBounds_toArray, List.set_cons_zero, List.set_cons_succ]
            refine held_skip 22 43 rfl rfl (by kernel_rfl) (by kernel_rfl) (by kernel_rfl) (fun _ _ _ _ h => h) (by rfl) hHeld ?_
            simp only [List.setIfInBounds_toArray, List.set_cons_zero, List.set_cons_succ]
            refine held_skip 23 44 rfl rfl (by kernel_rfl) (by kernel_rfl) (by kernel_rfl) (fun _ _ _ _ h => h) (by rfl) hHeld ?_
            simp only [List.setIfInBounds_toArray, List.set_cons_zero, List.set_cons_succ]
            refine held_skip 24 45 rfl rfl (by kernel_rfl) (by kernel_rfl) (by kernel_rfl) (fun _ _ _ _ h => h) (by rfl) hHeld ?_
            simp only [List.setIfInBounds_toArray, List.set_cons_zero, List.set_cons_succ]
            refine held_take 25 46 (v := ?_) rfl rfl (by kernel_rfl) (by kernel_rfl) (by kernel_rfl) (fun _ _ _ _ h => h) (by rfl) ?_ hHeld ?_
            rotate_left; · (intro w hSw; clear hSw; go_simp; first | done | with_reducible rfl)
            simp only [List.setIfInBounds_toArray, List.set_cons_zero, List.set_cons_succ]
            refine wpAnyH_done (by kernel_rfl) ?_ _
            obtain ⟨_, _, _, hm2⟩ := hHeld
            go_wp2_with fail
            go_roundw
            case rel => exact ⟨k + 1, by omega, by go_num, E2.out, hm2⟩
            case measure => simp [intOf]; omega
          · by_cases hus : sw = u
            · have hub : (sw == u) = true := by rw [beq_iff_eq]; exact hus
              have h2 : r2 = mxI r1 st := by rw [HS.out, if_pos ⟨hmb, hus⟩]
              clear hus
              by_cases hlt2 : r1 < st
              · have e2 : Value.int .i64 st = .int .i64 (lastF z u (k + 1)) := by rw [← HR.out, h2]; unfold mxI; rw [if_pos (by omega)]
                have E2 := Lib.hid e2
                clear e2 h2
                have hd2 : decide (r1 < st) = true := by simpa using hlt2
                go_wp2_with fail
                refine wp_region_held_drew (S := (fun w' => w'.cell? ⟨b, off + k * 2, none⟩ = some (.int .i64 st) ∧ w'.cell? ⟨b, off + k * 2 + 1, none⟩ = some (.int .i64 sw) ∧ w'.cell? ⟨bb, boff + i, none⟩ = some (.int .i64 u) ∧ Mod (fun _ => False) w w')) (by kernel_rfl) ⟨z0, z1, u0, hmk.drew⟩ (fun hHeld => ?_)
                refine held_take 0 21 (v := ?_) rfl rfl (by kernel_rfl) (by kernel_rfl) (by kernel_rfl) (fun _ _ _ _ h => h) (by rfl) ?_ hHeld ?_
                rotate_left; · (intro w hSw; clear hSw; go_simp; first | done | with_reducible rfl)
                simp only [List.setIfInBounds_toArray, List.set_cons_zero, List.set_cons_succ]
                refine held_take 1 22 (v := ?_) rfl rfl (by kernel_rfl) (by kernel_rfl) (by kernel_rfl) (fun _ _ _ _ h => h) (by rfl) ?_ hHeld ?_
                rotate_left; · (intro w hSw; clear hSw; go_simp; first | done | with_reducible rfl)
                simp only [List.setIfInBounds_toArray, List.set_cons_zero, List.set_cons_succ]
                refine held_take 2 23 (v := ?_) rfl rfl (by kernel_rfl) (by kernel_rfl) (by kernel_rfl) (fun _ _ _ _ h => h) (by rfl) ?_ hHeld ?_
                rotate_left; · (intro w hSw; clear hSw; go_simp; first | done | with_reducible rfl)
                simp only [List.setIfInBounds_toArray, List.set_cons_zero, List.set_cons_succ]
                refine held_take 3 24 (v := ?_) rfl rfl (by kernel_rfl) (by kernel_rfl) (by kernel_rfl) (fun _ _ _ _ h => h) (by rfl) ?_ hHeld ?_
                rotate_left; · (intro w hSw; obtain ⟨hS0, hS1, hS2, hS3⟩ := hSw; go_simp; first | done | with_reducible rfl)
                simp only [List.setIfInBounds_toArray, List.set_cons_zero, List.set_cons_succ]
                refine held_call 4 25 rfl rfl (by kernel_rfl) (by rfl) (f := 23) (args := ?_) ?_ ?_
                rotate_left; · (go_simp; first | done | with_reducible rfl)
                refine (rmay_any _ _ _).mono ?_; rintro e w' ⟨rfl, o, rfl⟩
                have m : Mod (fun _ => False) wk.drew (wk.drew.alloc o) := (Mod.refl _ _).alloc _
                refine ⟨_, rfl, ⟨m.at hHeld.1, m.at hHeld.2.1, m.at hHeld.2.2.1, hHeld.2.2.2.tr m⟩, fun hNew => ?_⟩; clear hHeld; have hHeld := hNew; clear hNew
                simp only [List.setIfInBounds_toArray, List.set_cons_zero, List.set_cons_succ, hmb]
                refine held_take 5 26 (v := ?_) rfl rfl (by kernel_rfl) (by kernel_rfl) (by kernel_rfl) (fun _ _ _ _ h => h) (by rfl) ?_ hHeld ?_
                rotate_left; · (intro w hSw; clear hSw; go_simp; first | done | with_reducible rfl)
                simp only [List.setIfInBounds_toArray, List.set_cons_zero, List.set_cons_succ]
                refine held_take 6 27 (v := ?_) rfl rfl (by kernel_rfl) (by kernel_rfl) (by kernel_rfl) (fun _ _ _ _ h => h) (by rfl) ?_ hHeld ?_
                rotate_left; · (intro w hSw; clear hSw; go_simp; first | done | with_reducible rfl)
                simp only [List.setIfInBounds_toArray, List.set_cons_zero, List.set_cons_succ]
                refine held_take 7 28 (v := ?_) rfl rfl (by kernel_rfl) (by kernel_rfl) (by kernel_rfl) (fun _ _ _ _ h => h) (by rfl) ?_ hHeld ?_
                rotate_left; · (intro w hSw; clear hSw; go_simp; first | done | with_reducible rfl)
                simp only [List.setIfInBounds_toArray, List.set_cons_zero, List.set_cons_succ]
                refine held_take 8 29 (v := ?_) rfl rfl (by kernel_rfl) (by kernel_rfl) (by kernel_rfl) (fun _ _ _ _ h => h) (by rfl) ?_ hHeld ?_
                rotate_left; · (intro w hSw; clear hSw; go_simp; first | done | with_reducible rfl)
                simp only [List.setIfInBounds_toArray, List.set_cons_zero, List.set_cons_succ]
                refine held_take 9 30 (v := ?_) rfl rfl (by kernel_rfl) (by kernel_rfl) (by kernel_rfl) (fun _ _ _ _ h => h) (by rfl) ?_ hHeld ?_
                rotate_left; · (intro w hSw; clear hSw; go_simp; first | done | with_reducible rfl)
                simp only [List.setIfInBounds_toArray, List.set_cons_zero, List.set_cons_succ]
                refine held_take 10 31 (v := ?_) rfl rfl (by kernel_rfl) (by kernel_rfl) (by kernel_rfl) (fun _ _ _ _ h => h) (by rfl) ?_ hHeld ?_
                rotate_left; · (intro w hSw; obtain ⟨hS0, hS1, hS2, hS3⟩ := hSw; go_simp; first | done | with_reducible rfl)
                simp only [List.setIfInBounds_toArray, List.set_cons_zero, List.set_cons_succ]
                refine held_take 11 32 (v := ?_) rfl rfl (by kernel_rfl) (by kernel_rfl) (by kernel_rfl) (fun _ _ _ _ h => h) (by rfl) ?_ hHeld ?_
                rotate_left; · (intro w hSw; clear hSw; go_simp; first | done | with_reducible rfl)
                simp only [List.setIfInBounds_toArray, List.set_cons_zero, List.set_cons_succ]
                refine held_take 12 33 (v := ?_) rfl rfl (by kernel_rfl) (by kernel_rfl) (by kernel_rfl) (fun _ _ _ _ h => h) (by rfl) ?_ hHeld ?_
                rotate_left; · (intro w hSw; clear hSw; go_simp; first | done | with_reducible rfl)
                simp only [List.setIfInBounds_toArray, List.set_cons_zero, List.set_cons_succ]
                refine held_take 13 34 (v := ?_) rfl rfl (by kernel_rfl) (by kernel_rfl) (by kernel_rfl) (fun _ _ _ _ h => h) (by rfl) ?_ hHeld ?_
                rotate_left; · (intro w hSw; clear hSw; go_simp; first | done | with_reducible rfl)
                simp only [List.setIfInBounds_toArray, List.set_cons_zero, List.set_cons_succ]
                refine held_take 14 35 (v := ?_) rfl rfl (by kernel_rfl) (by kernel_rfl) (by kernel_rfl) (fun _ _ _ _ h => h) (by rfl) ?_ hHeld ?_
                rotate_left; · (intro w hSw; obtain ⟨hS0, hS1, hS2, hS3⟩ := hSw; go_simp; first | done | with_reducible rfl)
                simp only [List.setIfInBounds_toArray, List.set_cons_zero, List.set_cons_succ]
                refine held_take 15 36 (v := ?_) rfl rfl (by kernel_rfl) (by kernel_rfl) (by kernel_rfl) (fun _ _ _ _ h => h) (by rfl) ?_ hHeld ?_
                rotate_left; · (intro w hSw; clear hSw; go_simp; first | done | with_reducible rfl)
                simp only [List.setIfInBounds_toArray, List.set_cons_zero, List.set_cons_succ]
                refine held_take 16 37 (v := ?_) rfl rfl (by kernel_rfl) (by kernel_rfl) (by kernel_rfl) (fun _ _ _ _ h => h) (by rfl) ?_ hHeld ?_
                rotate_left; · (intro w hSw; clear hSw; go_simp; first | done | with_reducible rfl)
                simp only [List.setIfInBounds_toArray, List.set_cons_zero, List.set_cons_succ]
                refine held_take 17 38 (v := ?_) rfl rfl (by kernel_rfl) (by kernel_rfl) (by kernel_rfl) (fun _ _ _ _ h => h) (by rfl) ?_ hHeld ?_
                rotate_left; · (intro w hSw; clear hSw; go_simp; first | done | with_reducible rfl)
                simp only [List.setIfInBounds_toArray, List.set_cons_zero, List.set_cons_succ]
                refine held_take 18 39 (v := ?_) rfl rfl (by kernel_rfl) (by kernel_rfl) (by kernel_rfl) (fun _ _ _ _ h => h) (by rfl) ?_ hHeld ?_
                rotate_left; · (intro w hSw; clear hSw; go_simp; first | done | with_reducible rfl)
                simp only [List.setIfInBounds_toArray, List.set_cons_zero, List.set_cons_succ]
                refine held_take 19 40 (v := ?_) rfl rfl (by kernel_rfl) (by kernel_rfl) (by kernel_rfl) (fun _ _ _ _ h => h) (by rfl) ?_ hHeld ?_
                rotate_left; · (intro w hSw; clear hSw; go_simp; first | done | with_reducible rfl)
                simp only [List.setIfInBounds_toArray, List.set_cons_zero, List.set_cons_succ]
                refine held_take 20 41 (v := ?_) rfl rfl (by kernel_rfl) (by kernel_rfl) (by kernel_rfl) (fun _ _ _ _ h => h) (by rfl) ?_ hHeld ?_
                rotate_left; · (intro w hSw; clear hSw; go_simp; first | done | with_reducible rfl)
                simp only [List.setIfInBounds_toArray, List.set_cons_zero, List.set_cons_succ]
                refine held_take 21 42 (v := ?_) rfl rfl (by kernel_rfl) (by kernel_rfl) (by kernel_rfl) (fun _ _ _ _ h => h) (by rfl) ?_ hHeld ?_
                rotate_left; · (intro w hSw; clear hSw; go_simp; first | done | with_reducible rfl)
                simp only [List.setIfInBounds_toArray, List.set_cons_zero, List.set_cons_succ]
                refine held_take 22 43 (v := ?_) rfl rfl (by kernel_rfl) (by kernel_rfl) (by kernel_rfl) (fun _ _ _ _ h => h) (by rfl) ?_ hHeld ?_
                rotate_left; · (intro w hSw; obtain ⟨hS0, hS1, hS2, hS3⟩ := hSw; go_simp; first | done | with_reducible rfl)
                simp only [List.setIfInBounds_toArray, List.set_cons_zero, List.set_cons_succ]
                refine held_take 23 44 (v := ?_) rfl rfl (by kernel_rfl) (by kernel_rfl) (by kernel_rfl) (fun _ _ _ _ h => h) (by rfl) ?_ hHeld ?_
                rotate_left; · (intro w hSw; clear hSw; go_simp; first | done | with_reducible rfl)
                simp only [List.setIfInBounds_toArray, List.set_cons_zero, List.set_cons_succ]
                refine held_take 24 45 (v := ?_) rfl rfl (by kernel_rfl) (by kernel_rfl) (by kernel_rfl) (fun _ _ _ _ h => h) (by rfl) ?_ hHeld ?_
                rotate_left; · (intro w hSw; clear hSw; go_simp; first | done | with_reducible rfl)
                simp only [List.setIfInBounds_toArray, List.set_cons_zero, List.set_cons_succ]
                refine held_take 25 46 (v := ?_) rfl rfl (by kernel_rfl) (by kernel_rfl) (by kernel_rfl) (fun _ _ _ _ h => h) (by rfl) ?_ hHeld ?_
                rotate_left; · (intro w hSw; clear hSw; go_simp; first | done | with_reducible rfl)
                simp only [List.setIfInBounds_toArray, List.set_cons_zero, List.set_cons_succ]
                refine wpAnyH_done (by kernel_rfl) ?_ _
                have zz0 : (wk.alloc o).cell? ⟨b, off + k * 2, none⟩ = some (.int .i64 st) := hHeld.1
                obtain ⟨_, _, _, hm2⟩ := hHeld
                go_wp2_with fail
                go_roundw
                case rel => exact ⟨k + 1, by omega, by go_num, E2.out, hm2⟩
                case measure => simp [intOf]; omega
              · have e2 : Value.int .i64 r1 = .int .i64 (lastF z u (k + 1)) := by rw [← HR.out, h2, show mxI r1 st = r1 by unfold mxI; split <;> omega]
                have E2 := Lib.hid e2
                clear e2 h2
                have hd2 : decide (r1 < st) = false := by simpa using hlt2
                go_wp2_with fail
                refine wp_region_held_drew (S := (fun w' => w'.cell? ⟨b, off + k * 2, none⟩ = some (.int .i64 st) ∧ w'.cell? ⟨b, off + k * 2 + 1, none⟩ = some (.int .i64 sw) ∧ w'.cell? ⟨bb, boff + i, none⟩ = some (.int .i64 u) ∧ Mod (fun _ => False) w w')) (by kernel_rfl) ⟨z0, z1, u0, hmk.drew⟩ (fun hHeld => ?_)
                refine held_take 0 21 (v := ?_) rfl rfl (by kernel_rfl) (by kernel_rfl) (by kernel_rfl) (fun _ _ _ _ h => h) (by rfl) ?_ hHeld ?_
                rotate_left; · (intro w hSw; clear hSw; go_simp; first | done | with_reducible rfl)
                simp only [List.setIfInBounds_toArray, List.set_cons_zero, List.set_cons_succ]
                refine held_take 1 22 (v := ?_) rfl rfl (by kernel_rfl) (by kernel_rfl) (by kernel_rfl) (fun _ _ _ _ h => h) (by rfl) ?_ hHeld ?_
                rotate_left; · (intro w hSw; clear hSw; go_simp; first | done | with_reducible rfl)
                simp only [List.setIfInBounds_toArray, List.set_cons_zero, List.set_cons_succ]
                refine held_take 2 23 (v := ?_) rfl rfl (by kernel_rfl) (by kernel_rfl) (by kernel_rfl) (fun _ _ _ _ h => h) (by rfl) ?_ hHeld ?_
                rotate_left; · (intro w hSw; clear hSw; go_simp; first | done | with_reducible rfl)
                simp only [List.setIfInBounds_toArray, List.set_cons_zero, List.set_cons_succ]
                refine held_take 3 24 (v := ?_) rfl rfl (by kernel_rfl) (by kernel_rfl) (by kernel_rfl) (fun _ _ _ _ h => h) (by rfl) ?_ hHeld ?_
                rotate_left; · (intro w hSw; obtain ⟨hS0, hS1, hS2, hS3⟩ := hSw; go_simp; first | done | with_reducible rfl)
                simp only [List.setIfInBounds_toArray, List.set_cons_zero, List.set_cons_succ]
                refine held_call 4 25 rfl rfl (by kernel_rfl) (by rfl) (f := 23) (args := ?_) ?_ ?_
                rotate_left; · (go_simp; first | done | with_reducible rfl)
                refine (rmay_any _ _ _).mono ?_; rintro e w' ⟨rfl, o, rfl⟩
                have m : Mod (fun _ => False) wk.drew (wk.drew.alloc o) := (Mod.refl _ _).alloc _
                refine ⟨_, rfl, ⟨m.at hHeld.1, m.at hHeld.2.1, m.at hHeld.2.2.1, hHeld.2.2.2.tr m⟩, fun hNew => ?_⟩; clear hHeld; have hHeld := hNew; clear hNew
                simp only [List.setIfInBounds_toArray, List.set_cons_zero, List.set_cons_succ, hmb]
                refine held_take 5 26 (v := ?_) rfl rfl (by kernel_rfl) (by kernel_rfl) (by kernel_rfl) (fun _ _ _ _ h => h) (by rfl) ?_ hHeld ?_
                rotate_left; · (intro w hSw; clear hSw; go_simp; first | done | with_reducible rfl)
                simp only [List.setIfInBounds_toArray, List.set_cons_zero, List.set_cons_succ]
                refine held_take 6 27 (v := ?_) rfl rfl (by kernel_rfl) (by kernel_rfl) (by kernel_rfl) (fun _ _ _ _ h => h) (by rfl) ?_ hHeld ?_
                rotate_left; · (intro w hSw; clear hSw; go_simp; first | done | with_reducible rfl)
                simp only [List.setIfInBounds_toArray, List.set_cons_zero, List.set_cons_succ]
                refine held_take 7 28 (v := ?_) rfl rfl (by kernel_rfl) (by kernel_rfl) (by kernel_rfl) (fun _ _ _ _ h => h) (by rfl) ?_ hHeld ?_
                rotate_left; · (intro w hSw; clear hSw; go_simp; first | done | with_reducible rfl)
                simp only [List.setIfInBounds_toArray, List.set_cons_zero, List.set_cons_succ]
                refine held_take 8 29 (v := ?_) rfl rfl (by kernel_rfl) (by kernel_rfl) (by kernel_rfl) (fun _ _ _ _ h => h) (by rfl) ?_ hHeld ?_
                rotate_left; · (intro w hSw; clear hSw; go_simp; first | done | with_reducible rfl)
                simp only [List.setIfInBounds_toArray, List.set_cons_zero, List.set_cons_succ]
                refine held_take 9 30 (v := ?_) rfl rfl (by kernel_rfl) (by kernel_rfl) (by kernel_rfl) (fun _ _ _ _ h => h) (by rfl) ?_ hHeld ?_
                rotate_left; · (intro w hSw; clear hSw; go_simp; first | done | with_reducible rfl)
                simp only [List.setIfInBounds_toArray, List.set_cons_zero, List.set_cons_succ]
                refine held_take 10 31 (v := ?_) rfl rfl (by kernel_rfl) (by kernel_rfl) (by kernel_rfl) (fun _ _ _ _ h => h) (by rfl) ?_ hHeld ?_
                rotate_left; · (intro w hSw; obtain ⟨hS0, hS1, hS2, hS3⟩ := hSw; go_simp; first | done | with_reducible rfl)
                simp only [List.setIfInBounds_toArray, List.set_cons_zero, List.set_cons_succ]
                refine held_take 11 32 (v := ?_) rfl rfl (by kernel_rfl) (by kernel_rfl) (by kernel_rfl) (fun _ _ _ _ h => h) (by rfl) ?_ hHeld ?_
                rotate_left; · (intro w hSw; clear hSw; go_simp; first | done | with_reducible rfl)
                simp only [List.setIfInBounds_toArray, List.set_cons_zero, List.set_cons_succ]
                refine held_take 12 33 (v := ?_) rfl rfl (by kernel_rfl) (by kernel_rfl) (by kernel_rfl) (fun _ _ _ _ h => h) (by rfl) ?_ hHeld ?_
                rotate_left; · (intro w hSw; clear hSw; go_simp; first | done | with_reducible rfl)
                simp only [List.setIfInBounds_toArray, List.set_cons_zero, List.set_cons_succ]
                refine held_take 13 34 (v := ?_) rfl rfl (by kernel_rfl) (by kernel_rfl) (by kernel_rfl) (fun _ _ _ _ h => h) (by rfl) ?_ hHeld ?_
                rotate_left; · (intro w hSw; clear hSw; go_simp; first | done | with_reducible rfl)
                simp only [List.setIfInBounds_toArray, List.set_cons_zero, List.set_cons_succ]
                refine held_take 14 35 (v := ?_) rfl rfl (by kernel_rfl) (by kernel_rfl) (by kernel_rfl) (fun _ _ _ _ h => h) (by rfl) ?_ hHeld ?_
                rotate_left; · (intro w hSw; obtain ⟨hS0, hS1, hS2, hS3⟩ := hSw; go_simp; first | done | with_reducible rfl)
                simp only [List.setIfInBounds_toArray, List.set_cons_zero, List.set_cons_succ]
                refine held_take 15 36 (v := ?_) rfl rfl (by kernel_rfl) (by kernel_rfl) (by kernel_rfl) (fun _ _ _ _ h => h) (by rfl) ?_ hHeld ?_
                rotate_left; · (intro w hSw; clear hSw; go_simp; first | done | with_reducible rfl)
                simp only [List.setIfInBounds_toArray, List.set_cons_zero, List.set_cons_succ]
                refine held_take 16 37 (v := ?_) rfl rfl (by kernel_rfl) (by kernel_rfl) (by kernel_rfl) (fun _ _ _ _ h => h) (by rfl) ?_ hHeld ?_
                rotate_left; · (intro w hSw; clear hSw; go_simp; first | done | with_reducible rfl)
                simp only [List.setIfInBounds_toArray, List.set_cons_zero, List.set_cons_succ]
                refine held_take 17 38 (v := ?_) rfl rfl (by kernel_rfl) (by kernel_rfl) (by kernel_rfl) (fun _ _ _ _ h => h) (by rfl) ?_ hHeld ?_
                rotate_left; · (intro w hSw; clear hSw; go_simp; first | done | with_reducible rfl)
                simp only [List.setIfInBounds_toArray, List.set_cons_zero, List.set_cons_succ]
                refine held_take 18 39 (v := ?_) rfl rfl (by kernel_rfl) (by kernel_rfl) (by kernel_rfl) (fun _ _ _ _ h => h) (by rfl) ?_ hHeld ?_
                rotate_left; · (intro w hSw; clear hSw; go_simp; first | done | with_reducible rfl)
                simp only [List.setIfInBounds_toArray, List.set_cons_zero, List.set_cons_succ]
                refine held_take 19 40 (v := ?_) rfl rfl (by kernel_rfl) (by kernel_rfl) (by kernel_rfl) (fun _ _ _ _ h => h) (by rfl) ?_ hHeld ?_
                rotate_left; · (intro w hSw; clear hSw; go_simp; first | done | with_reducible rfl)
                simp only [List.setIfInBounds_toArray, List.set_cons_zero, List.set_cons_succ]
                refine held_take 20 41 (v := ?_) rfl rfl (by kernel_rfl) (by kernel_rfl) (by kernel_rfl) (fun _ _ _ _ h => h) (by rfl) ?_ hHeld ?_
                rotate_left; · (intro w hSw; clear hSw; go_simp; first | done | with_reducible rfl)
                simp only [List.setIfInBounds_toArray, List.set_cons_zero, List.set_cons_succ]
                refine held_take 21 42 (v := ?_) rfl rfl (by kernel_rfl) (by kernel_rfl) (by kernel_rfl) (fun _ _ _ _ h => h) (by rfl) ?_ hHeld ?_
                rotate_left; · (intro w hSw; clear hSw; go_simp; first | done | with_reducible rfl)
                simp only [List.setIfInBounds_toArray, List.set_cons_zero, List.set_cons_succ]
                refine held_take 22 43 (v := ?_) rfl rfl (by kernel_rfl) (by kernel_rfl) (by kernel_rfl) (fun _ _ _ _ h => h) (by rfl) ?_ hHeld ?_
                rotate_left; · (intro w hSw; obtain ⟨hS0, hS1, hS2, hS3⟩ := hSw; go_simp; first | done | with_reducible rfl)
                simp only [List.setIfInBounds_toArray, List.set_cons_zero, List.set_cons_succ]
                refine held_take 23 44 (v := ?_) rfl rfl (by kernel_rfl) (by kernel_rfl) (by kernel_rfl) (fun _ _ _ _ h => h) (by rfl) ?_ hHeld ?_
                rotate_left; · (intro w hSw; clear hSw; go_simp; first | done | with_reducible rfl)
                simp only [List.setIfInBounds_toArray, List.set_cons_zero, List.set_cons_succ]
                refine held_take 24 45 (v := ?_) rfl rfl (by kernel_rfl) (by kernel_rfl) (by kernel_rfl) (fun _ _ _ _ h => h) (by rfl) ?_ hHeld ?_
                rotate_left; · (intro w hSw; clear hSw; go_simp; first | done | with_reducible rfl)
                simp only [List.setIfInBounds_toArray, List.set_cons_zero, List.set_cons_succ]
                refine held_take 25 46 (v := ?_) rfl rfl (by kernel_rfl) (by kernel_rfl) (by kernel_rfl) (fun _ _ _ _ h => h) (by rfl) ?_ hHeld ?_
                rotate_left; · (intro w hSw; clear hSw; go_simp; first | done | with_reducible rfl)
                simp only [List.setIfInBounds_toArray, List.set_cons_zero, List.set_cons_succ]
                refine wpAnyH_done (by kernel_rfl) ?_ _
                obtain ⟨_, _, _, hm2⟩ := hHeld
                go_wp2_with fail
                go_roundw
                case rel => exact ⟨k + 1, by omega, by go_num, E2.out, hm2⟩
                case measure => simp [intOf]; omega
            · have hub : (sw == u) = false := by rw [beq_eq_false_iff_ne]; exact hus
              have e2 : Value.int .i64 r1 = .int .i64 (lastF z u (k + 1)) := by rw [← HR.out, HS.out, if_neg (fun e => hus e.2)]
              have E2 := Lib.hid e2
              clear e2 hus
              go_wp2_with fail
              refine wp_region_held_drew (S := (fun w' => w'.cell? ⟨b, off + k * 2, none⟩ = some (.int .i64 st) ∧ w'.cell? ⟨b, off + k * 2 + 1, none⟩ = some (.int .i64 sw) ∧ w'.cell? ⟨bb, boff + i, none⟩ = some (.int .i64 u) ∧ Mod (fun _ => False) w w')) (by kernel_rfl) ⟨z0, z1, u0, hmk.drew⟩ (fun hHeld => ?_)
              refine held_take 0 21 (v := ?_) rfl rfl (by kernel_rfl) (by kernel_rfl) (by kernel_rfl) (fun _ _ _ _ h => h) (by rfl) ?_ hHeld ?_
              rotate_left; · (intro w hSw; clear hSw; go_simp; first | done | with_reducible rfl)
              simp only [List.setIfInBounds_toArray, List.set_cons_zero, List.set_cons_succ]
              refine held_take 1 22 (v := ?_) rfl rfl (by kernel_rfl) (by kernel_rfl) (by kernel_rfl) (fun _ _ _ _ h => h) (by rfl) ?_ hHeld ?_
              rotate_left; · (intro w hSw; clear hSw; go_simp; first | done | with_reducible rfl)
              simp only [List.setIfInBounds_toArray, List.set_cons_zero, List.set_cons_succ]
              refine held_take 2 23 (v := ?_) rfl rfl (by kernel_rfl) (by kernel_rfl) (by kernel_rfl) (fun _ _ _ _ h => h) (by rfl) ?_ hHeld ?_
              rotate_left; · (intro w hSw; clear hSw; go_simp; first | done | with_reducible rfl)
              simp only [List.setIfInBounds_toArray, List.set_cons_zero, List.set_cons_succ]
              refine held_take 3 24 (v := ?_) rfl rfl (by kernel_rfl) (by kernel_rfl) (by kernel_rfl) (fun _ _ _ _ h => h) (by rfl) ?_ hHeld ?_
              rotate_left; · (intro w hSw; obtain ⟨hS0, hS1, hS2, hS3⟩ := hSw; go_simp; first | done | with_reducible rfl)
              simp only [List.setIfInBounds_toArray, List.set_cons_zero, List.set_cons_succ]
              refine held_call 4 25 rfl rfl (by kernel_rfl) (by rfl) (f := 23) (args := ?_) ?_ ?_
              rotate_left; · (go_simp; first | done | with_reducible rfl)
              refine (rmay_any _ _ _).mono ?_; rintro e w' ⟨rfl, o, rfl⟩
              have m : Mod (fun _ => False) wk.drew (wk.drew.alloc o) := (Mod.refl _ _).alloc _
              refine ⟨_, rfl, ⟨m.at hHeld.1, m.at hHeld.2.1, m.at hHeld.2.2.1, hHeld.2.2.2.tr m⟩, fun hNew => ?_⟩; clear hHeld; have hHeld := hNew; clear hNew
              simp only [List.setIfInBounds_toArray, List.set_cons_zero, List.set_cons_succ, hmb]
              refine held_take 5 26 (v := ?_) rfl rfl (by kernel_rfl) (by kernel_rfl) (by kernel_rfl) (fun _ _ _ _ h => h) (by rfl) ?_ hHeld ?_
              rotate_left; · (intro w hSw; clear hSw; go_simp; first | done | with_reducible rfl)
              simp only [List.setIfInBounds_toArray, List.set_cons_zero, List.set_cons_succ]
              refine held_take 6 27 (v := ?_) rfl rfl (by kernel_rfl) (by kernel_rfl) (by kernel_rfl) (fun _ _ _ _ h => h) (by rfl) ?_ hHeld ?_
              rotate_left; · (intro w hSw; clear hSw; go_simp; first | done | with_reducible rfl)
              simp only [List.setIfInBounds_toArray, List.set_cons_zero, List.set_cons_succ]
              refine held_take 7 28 (v := ?_) rfl rfl (by kernel_rfl) (by kernel_rfl) (by kernel_rfl) (fun _ _ _ _ h => h) (by rfl) ?_ hHeld ?_
              rotate_left; · (intro w hSw; clear hSw; go_simp; first | done | with_reducible rfl)
              simp only [List.setIfInBounds_toArray, List.set_cons_zero, List.set_cons_succ]
              refine held_take 8 29 (v := ?_) rfl rfl (by kernel_rfl) (by kernel_rfl) (by kernel_rfl) (fun _ _ _ _ h => h) (by rfl) ?_ hHeld ?_
              rotate_left; · (intro w hSw; clear hSw; go_simp; first | done | with_reducible rfl)
              simp only [List.setIfInBounds_toArray, List.set_cons_zero, List.set_cons_succ]
              refine held_take 9 30 (v := ?_) rfl rfl (by kernel_rfl) (by kernel_rfl) (by kernel_rfl) (fun _ _ _ _ h => h) (by rfl) ?_ hHeld ?_
              rotate_left; · (intro w hSw; clear hSw; go_simp; first | done | with_reducible rfl)
              simp only [List.setIfInBounds_toArray, List.set_cons_zero, List.set_cons_succ]
              refine held_take 10 31 (v := ?_) rfl rfl (by kernel_rfl) (by kernel_rfl) (by kernel_rfl) (fun _ _ _ _ h => h) (by rfl) ?_ hHeld ?_
              rotate_left; · (intro w hSw; obtain ⟨hS0, hS1, hS2, hS3⟩ := hSw; go_simp; first | done | with_reducible rfl)
              simp only [List.setIfInBounds_toArray, List.set_cons_zero, List.set_cons_succ]
              refine held_take 11 32 (v := ?_) rfl rfl (by kernel_rfl) (by kernel_rfl) (by kernel_rfl) (fun _ _ _ _ h => h) (by rfl) ?_ hHeld ?_
              rotate_left; · (intro w hSw; clear hSw; go_simp; first | done | with_reducible rfl)
              simp only [List.setIfInBounds_toArray, List.set_cons_zero, List.set_cons_succ]
              refine held_take 12 33 (v := ?_) rfl rfl (by kernel_rfl) (by kernel_rfl) (by kernel_rfl) (fun _ _ _ _ h => h) (by rfl) ?_ hHeld ?_
              rotate_left; · (intro w hSw; clear hSw; go_simp; first | done | with_reducible rfl)
              simp only [List.setIfInBounds_toArray, List.set_cons_zero, List.set_cons_succ]
              refine held_take 13 34 (v := ?_) rfl rfl (by kernel_rfl) (by kernel_rfl) (by kernel_rfl) (fun _ _ _ _ h => h) (by rfl) ?_ hHeld ?_
              rotate_left; · (intro w hSw; clear hSw; go_simp; first | done | with_reducible rfl)
              simp only [List.setIfInBounds_toArray, List.set_cons_zero, List.set_cons_succ]
              refine held_take 14 35 (v := ?_) rfl rfl (by kernel_rfl) (by kernel_rfl) (by kernel_rfl) (fun _ _ _ _ h => h) (by rfl) ?_ hHeld ?_
              rotate_left; · (intro w hSw; obtain ⟨hS0, hS1, hS2, hS3⟩ := hSw; go_simp; first | done | with_reducible rfl)
              simp only [List.setIfInBounds_toArray, List.set_cons_zero, List.set_cons_succ]
              refine held_take 15 36 (v := ?_) rfl rfl (by kernel_rfl) (by kernel_rfl) (by kernel_rfl) (fun _ _ _ _ h => h) (by rfl) ?_ hHeld ?_
              rotate_left; · (intro w hSw; clear hSw; go_simp; first | done | with_reducible rfl)
              simp only [List.setIfInBounds_toArray, List.set_cons_zero, List.set_cons_succ]
              refine held_take 16 37 (v := ?_) rfl rfl (by kernel_rfl) (by kernel_rfl) (by kernel_rfl) (fun _ _ _ _ h => h) (by rfl) ?_ hHeld ?_
              rotate_left; · (intro w hSw; clear hSw; go_simp; first | done | with_reducible rfl)
              simp only [List.setIfInBounds_toArray, List.set_cons_zero, List.set_cons_succ]
              refine held_take 17 38 (v := ?_) rfl rfl (by kernel_rfl) (by kernel_rfl) (by kernel_rfl) (fun _ _ _ _ h => h) (by rfl) ?_ hHeld ?_
              rotate_left; · (intro w hSw; clear hSw; go_simp; first | done | with_reducible rfl)
              simp only [List.setIfInBounds_toArray, List.set_cons_zero, List.set_cons_succ]
              refine held_skip 18 39 rfl rfl (by kernel_rfl) (by kernel_rfl) (by kernel_rfl) (fun _ _ _ _ h => h) (by rfl) hHeld ?_
              simp only [List.setIfInBounds_toArray, List.set_cons_zero, List.set_cons_succ]
              refine held_skip 19 40 rfl rfl (by kernel_rfl) (by kernel_rfl) (by kernel_rfl) (fun _ _ _ _ h => h) (by rfl) hHeld ?_
              simp only [List.setIfInBounds_toArray, List.set_cons_zero, List.set_cons_succ]
              refine held_skip 20 41 rfl rfl (by kernel_rfl) (by kernel_rfl) (by kernel_rfl) (fun _ _ _ _ h => h) (by rfl) hHeld ?_
              simp only [List.setIfInBounds_toArray, List.set_cons_zero, List.set_cons_succ]
              refine held_skip 21 42 rfl rfl (by kernel_rfl) (by kernel_rfl) (by kernel_rfl) (fun _ _ _ _ h => h) (by rfl) hHeld ?_
              simp only [List.setIfInBounds_toArray, List.set_cons_zero, List.set_cons_succ]
              refine held_skip 22 43 rfl rfl (by kernel_rfl) (by kernel_rfl) (by kernel_rfl) (fun _ _ _ _ h => h) (by rfl) hHeld ?_
              simp only [List.setIfInBounds_toArray, List.set_cons_zero, List.set_cons_succ]
              refine held_skip 23 44 rfl rfl (by kernel_rfl) (by kernel_rfl) (by kernel_rfl) (fun _ _ _ _ h => h) (by rfl) hHeld ?_
              simp only [List.setIfInBounds_toArray, List.set_cons_zero, List.set_cons_succ]
              refine held_skip 24 45 rfl rfl (by kernel_rfl) (by kernel_rfl) (by kernel_rfl) (fun _ _ _ _ h => h) (by rfl) hHeld ?_
              simp only [List.setIfInBounds_toArray, List.set_cons_zero, List.set_cons_succ]
              refine held_take 25 46 (v := ?_) rfl rfl (by kernel_rfl) (by kernel_rfl) (by kernel_rfl) (fun _ _ _ _ h => h) (by rfl) ?_ hHeld ?_
              rotate_left; · (intro w hSw; clear hSw; go_simp; first | done | with_reducible rfl)
              simp only [List.setIfInBounds_toArray, List.set_cons_zero, List.set_cons_succ]
              refine wpAnyH_done (by kernel_rfl) ?_ _
              obtain ⟨_, _, _, hm2⟩ := hHeld
              go_wp2_with fail
              go_roundw
              case rel => exact ⟨k + 1, by omega, by go_num, E2.out, hm2⟩
              case measure => simp [intOf]; omega
        · obtain rfl : k = n := by omega
          obtain ⟨q2, hq2⟩ : ∃ q2, q2 = leastF z k us (i + 1) := ⟨_, rfl⟩
          obtain ⟨ul, hul⟩ : ∃ ul, ul = lastF z u k := ⟨_, rfl⟩
          have HQ : Hid (Value.int .i64 q2 = .int .i64 (leastF z k us (i + 1))) := by rw [hq2]; rfl
          rw [← hq2, ← hul] at hle
          rw [← hul]
          clear hq2 hul hz hmr
          by_cases h0 : i = 0
          · have h0b : ((i : Int) == 0) = true := by rw [beq_iff_eq]; omega
            have e2 : Value.int .i64 ul = .int .i64 (leastF z k us (i + 1)) := by rw [← HQ.out, hle.out, if_pos (.inl h0)]
            have E2 := Lib.hid e2
            clear e2 h0 hle HQ
            go_wp2_with fail
            go_roundw
            case rel => exact ⟨i + 1, by omega, by go_num, E2.out, hmk⟩
            case measure => simp [intOf]; omega
          · have h0b : ((i : Int) == 0) = false := by rw [beq_eq_false_iff_ne]; omega
            by_cases hlt3 : ul < lst
            · have e2 : Value.int .i64 ul = .int .i64 (leastF z k us (i + 1)) := by rw [← HQ.out, hle.out, if_pos (.inr hlt3)]
              have E2 := Lib.hid e2
              have hd3 : decide (ul < lst) = true := by simpa using hlt3
              clear e2 h0 hle HQ
              go_wp2_with fail
              go_roundw
              case rel => exact ⟨i + 1, by omega, by go_num, E2.out, hmk⟩
              case measure => simp [intOf]; omega
            · have e2 : Value.int .i64 lst = .int .i64 (leastF z k us (i + 1)) := by rw [← HQ.out, hle.out, if_neg (fun e => by rcases e with e | e; exact h0 e; exact hlt3 e)]
              have E2 := Lib.hid e2
              have hd3 : decide (ul < lst) = false := by simpa using hlt3
              clear e2 h0 hle HQ
              go_wp2_with fail
              go_roundw
              case rel => exact ⟨i + 1, by omega, by go_num, E2.out, hmk⟩
              case measure => simp [intOf]; omega
    · obtain rfl : i = m := by omega
      go_wp2_with fail
      go_ret
      exact ⟨rfl, hmr⟩
end Go.Proofs.Ytlphfkigjkebfaa
