/- WholeSeals: the law walked. -/
import Derived.Test.YtpnpmploaaenlaaMSw
namespace Go.Proofs.Ytpnpmploaaenlaa
open Go.RowKit
set_option linter.unusedSimpArgs false
set_option linter.unusedVariables false
set_option maxRecDepth 100000 in
set_option maxHeartbeats 2000000 in
theorem law_big (a0 a1 a2 : ByteArray) (h : 512 < a0.size ∨ 512 < a1.size ∨ 512 < a2.size) (w : World) :
    Calls Try.prog 3 #[.string a0, .string a1, .string a2] w fun e w' => e = .returned (.bool true) ∧ Mod (fun _ => False) w w' := by
  have hh : ((512 : Int) < (a0.size : Int)) ∨ (¬ ((512 : Int) < (a0.size : Int)) ∧ ((512 : Int) < (a1.size : Int))) ∨ (¬ ((512 : Int) < (a0.size : Int)) ∧ ¬ ((512 : Int) < (a1.size : Int)) ∧ ((512 : Int) < (a2.size : Int))) := by omega
  rcases hh with h1 | ⟨h1, h2⟩ | ⟨h1, h2, h3⟩
  · go_enter Try.func3, Try.ntmps3
    go_wp2_with fail
    go_ret
    exact ⟨rfl, Mod.refl _ _⟩
  · go_enter Try.func3, Try.ntmps3
    go_wp2_with fail
    go_ret
    exact ⟨rfl, Mod.refl _ _⟩
  · go_enter Try.func3, Try.ntmps3
    go_wp2_with fail
    go_ret
    exact ⟨rfl, Mod.refl _ _⟩
set_option maxRecDepth 100000 in
set_option maxHeartbeats 4000000 in
theorem law_walk (a0 a1 a2 U D Z : ByteArray) (k n m : Nat) (h1 : a0.size ≤ 512) (h2 : a1.size ≤ 512) (h3 : a2.size ≤ 512)
    (hk : k ≤ a0.size) (hkk : min (32 : Int) (a0.size : Int) = (k : Int)) (hm : Int.tmod (a2.size : Int) 200 = (m : Int))
    (hs : ∀ w, Calls Try.prog 4 #[.string (a0.extract 0 k), .string (a0.extract k a0.size), .string a1, .string a2] w fun e w' => e = .returned (.tuple #[.string U, .int .i64 (n : Int)]) ∧ Mod (fun _ => False) w w')
    (hrs : ∀ w, Calls Try.prog 5 #[.string (a0.extract 0 k), .string (a0.extract k a0.size), .string a1, .string a2] w fun e w' => e = .returned (.tuple #[.string U, .int .i64 (n : Int)]) ∧ Mod (fun _ => False) w w')
    (hd : ∀ w, Calls Try.prog 6 #[.string a1, .string a0, .string a2, .int .i64 (m : Int)] w fun e w' => e = .returned (.tuple #[.string D, .int .i64 0]) ∧ Mod (fun _ => False) w w')
    (hrd : ∀ w, Calls Try.prog 7 #[.string a1, .string a0, .string a2, .int .i64 (m : Int)] w fun e w' => e = .returned (.tuple #[.string D, .int .i64 0]) ∧ Mod (fun _ => False) w w')
    (hz : ∀ w, Calls Try.prog 8 #[.string ⟨#[107]⟩, .string ⟨#[]⟩, .int .i64 32] w fun e w' => e = .returned (.tuple #[.string Z, .int .i64 0]) ∧ Mod (fun _ => False) w w')
    (hZ : Z.size = 32) (w : World) :
    Calls Try.prog 3 #[.string a0, .string a1, .string a2] w fun e w' => e = .returned (.bool true) ∧ Mod (fun _ => False) w w' := by
  have HS := Lib.hid hs
  have HRS := Lib.hid hrs
  have HD := Lib.hid hd
  have HRD := Lib.hid hrd
  have HZ := Lib.hid hz
  clear hs hrs hd hrd hz
  have e1 : ¬ ((512 : Int) < (a0.size : Int)) := by omega
  have e2 : ¬ ((512 : Int) < (a1.size : Int)) := by omega
  have e3 : ¬ ((512 : Int) < (a2.size : Int)) := by omega
  go_enter Try.func3, Try.ntmps3
  go_wp2_with fail
  refine wp_region_held_any (S := fun w' => Mod (fun _ => False) w.drew w') (by kernel_rfl) (fun wd hwd => ?_)
  rw [hwd]
  refine ⟨Mod.refl _ _, fun hHeld => ?_⟩
  have hmd : Mod (fun _ => False) w wd := by subst hwd; exact (Mod.refl _ _).drew
  clear hwd
  refine held_take 0 35 (v := ?_) rfl rfl (by kernel_rfl) (by kernel_rfl) (by kernel_rfl) (fun _ _ _ _ h => h) (by rfl) ?_ hHeld ?_
  rotate_left; · (intro w hSw; clear hSw; go_simp; first | done | with_reducible rfl)
  simp only [List.setIfInBounds_toArray, List.set_cons_zero, List.set_cons_succ]
  refine held_take 1 36 (v := ?_) rfl rfl (by kernel_rfl) (by kernel_rfl) (by kernel_rfl) (fun _ _ _ _ h => h) (by rfl) ?_ hHeld ?_
  rotate_left; · (intro w hSw; clear hSw; go_simp; first | done | with_reducible rfl)
  simp only [List.setIfInBounds_toArray, List.set_cons_zero, List.set_cons_succ]
  refine held_take 2 37 (v := ?_) rfl rfl (by kernel_rfl) (by kernel_rfl) (by kernel_rfl) (fun _ _ _ _ h => h) (by rfl) ?_ hHeld ?_
  rotate_left; · (intro w hSw; clear hSw; go_simp; first | done | with_reducible rfl)
  simp only [List.setIfInBounds_toArray, List.set_cons_zero, List.set_cons_succ]
  refine held_take 3 38 (v := ?_) rfl rfl (by kernel_rfl) (by kernel_rfl) (by kernel_rfl) (fun _ _ _ _ h => h) (by rfl) ?_ hHeld ?_
  rotate_left; · (intro w hSw; clear hSw; go_simp; first | done | with_reducible rfl)
  simp only [List.setIfInBounds_toArray, List.set_cons_zero, List.set_cons_succ]
  refine held_take 4 39 (v := ?_) rfl rfl (by kernel_rfl) (by kernel_rfl) (by kernel_rfl) (fun _ _ _ _ h => h) (by rfl) ?_ hHeld ?_
  rotate_left; · (intro w hSw; clear hSw; go_simp; first | done | with_reducible rfl)
  simp only [List.setIfInBounds_toArray, List.set_cons_zero, List.set_cons_succ]
  refine held_take 5 40 (v := ?_) rfl rfl (by kernel_rfl) (by kernel_rfl) (by kernel_rfl) (fun _ _ _ _ h => h) (by rfl) ?_ hHeld ?_
  rotate_left; · (intro w hSw; clear hSw; go_simp; first | done | with_reducible rfl)
  simp only [List.setIfInBounds_toArray, List.set_cons_zero, List.set_cons_succ]
  refine held_take 6 41 (v := ?_) rfl rfl (by kernel_rfl) (by kernel_rfl) (by kernel_rfl) (fun _ _ _ _ h => h) (by rfl) ?_ hHeld ?_
  rotate_left; · (intro w hSw; clear hSw; go_simp; first | done | with_reducible rfl)
  simp only [List.setIfInBounds_toArray, List.set_cons_zero, List.set_cons_succ]
  refine held_take 7 42 (v := ?_) rfl rfl (by kernel_rfl) (by kernel_rfl) (by kernel_rfl) (fun _ _ _ _ h => h) (by rfl) ?_ hHeld ?_
  rotate_left; · (intro w hSw; clear hSw; go_simp; first | done | with_reducible rfl)
  simp only [List.setIfInBounds_toArray, List.set_cons_zero, List.set_cons_succ]
  refine held_call 8 43 rfl rfl (by kernel_rfl) (by rfl) (f := 4) (args := ?_) ?_ ?_
  rotate_left; · (go_simp; first | done | with_reducible rfl)
  refine (HS.out _).mono ?_
  rintro er w1 ⟨rfl, hm1⟩
  refine ⟨_, rfl, (hHeld.tr hm1), fun hNew => ?_⟩; clear hHeld; have hHeld := hNew; clear hNew
  simp only [List.setIfInBounds_toArray, List.set_cons_zero, List.set_cons_succ]
  refine held_take 9 34 (v := ?_) rfl rfl (by kernel_rfl) (by kernel_rfl) (by kernel_rfl) (fun _ _ _ _ h => h) (by rfl) ?_ hHeld ?_
  rotate_left; · (intro w hSw; clear hSw; go_simp; first | done | with_reducible rfl)
  simp only [List.setIfInBounds_toArray, List.set_cons_zero, List.set_cons_succ]
  refine held_take 10 44 (v := ?_) rfl rfl (by kernel_rfl) (by kernel_rfl) (by kernel_rfl) (fun _ _ _ _ h => h) (by rfl) ?_ hHeld ?_
  rotate_left; · (intro w hSw; clear hSw; go_simp; first | done | with_reducible rfl)
  simp only [List.setIfInBounds_toArray, List.set_cons_zero, List.set_cons_succ]
  refine held_take 11 45 (v := ?_) rfl rfl (by kernel_rfl) (by kernel_rfl) (by kernel_rfl) (fun _ _ _ _ h => h) (by rfl) ?_ hHeld ?_
  rotate_left; · (intro w hSw; clear hSw; go_simp; first | done | with_reducible rfl)
  simp only [List.setIfInBounds_toArray, List.set_cons_zero, List.set_cons_succ]
  refine held_take 12 8 (v := ?_) rfl rfl (by kernel_rfl) (by kernel_rfl) (by kernel_rfl) (fun _ _ _ _ h => h) (by rfl) ?_ hHeld ?_
  rotate_left; · (intro w hSw; clear hSw; go_simp; first | done | with_reducible rfl)
  simp only [List.setIfInBounds_toArray, List.set_cons_zero, List.set_cons_succ]
  refine held_take 13 9 (v := ?_) rfl rfl (by kernel_rfl) (by kernel_rfl) (by kernel_rfl) (fun _ _ _ _ h => h) (by rfl) ?_ hHeld ?_
  rotate_left; · (intro w hSw; clear hSw; go_simp; first | done | with_reducible rfl)
  simp only [List.setIfInBounds_toArray, List.set_cons_zero, List.set_cons_succ]
  refine wpAnyH_done (by kernel_rfl) ?_ _
  have hmA := hmd.tr hHeld
  clear hHeld
  go_wp2_with fail
  refine wp_region_held_any (S := fun w' => Mod (fun _ => False) w1.drew w') (by kernel_rfl) (fun wd hwd => ?_)
  rw [hwd]
  refine ⟨Mod.refl _ _, fun hHeld => ?_⟩
  have hmd2 : Mod (fun _ => False) w wd := by subst hwd; exact hmA.drew
  clear hwd
  refine held_take 0 47 (v := ?_) rfl rfl (by kernel_rfl) (by kernel_rfl) (by kernel_rfl) (fun _ _ _ _ h => h) (by rfl) ?_ hHeld ?_
  rotate_left; · (intro w hSw; clear hSw; go_simp; first | done | with_reducible rfl)
  simp only [List.setIfInBounds_toArray, List.set_cons_zero, List.set_cons_succ]
  refine held_take 1 48 (v := ?_) rfl rfl (by kernel_rfl) (by kernel_rfl) (by kernel_rfl) (fun _ _ _ _ h => h) (by rfl) ?_ hHeld ?_
  rotate_left; · (intro w hSw; clear hSw; go_simp; first | done | with_reducible rfl)
  simp only [List.setIfInBounds_toArray, List.set_cons_zero, List.set_cons_succ]
  refine held_take 2 49 (v := ?_) rfl rfl (by kernel_rfl) (by kernel_rfl) (by kernel_rfl) (fun _ _ _ _ h => h) (by rfl) ?_ hHeld ?_
  rotate_left; · (intro w hSw; clear hSw; go_simp; first | done | with_reducible rfl)
  simp only [List.setIfInBounds_toArray, List.set_cons_zero, List.set_cons_succ]
  refine held_take 3 50 (v := ?_) rfl rfl (by kernel_rfl) (by kernel_rfl) (by kernel_rfl) (fun _ _ _ _ h => h) (by rfl) ?_ hHeld ?_
  rotate_left; · (intro w hSw; clear hSw; go_simp; first | done | with_reducible rfl)
  simp only [List.setIfInBounds_toArray, List.set_cons_zero, List.set_cons_succ]
  refine held_take 4 51 (v := ?_) rfl rfl (by kernel_rfl) (by kernel_rfl) (by kernel_rfl) (fun _ _ _ _ h => h) (by rfl) ?_ hHeld ?_
  rotate_left; · (intro w hSw; clear hSw; go_simp; first | done | with_reducible rfl)
  simp only [List.setIfInBounds_toArray, List.set_cons_zero, List.set_cons_succ]
  refine held_take 5 52 (v := ?_) rfl rfl (by kernel_rfl) (by kernel_rfl) (by kernel_rfl) (fun _ _ _ _ h => h) (by rfl) ?_ hHeld ?_
  rotate_left; · (intro w hSw; clear hSw; go_simp; first | done | with_reducible rfl)
  simp only [List.setIfInBounds_toArray, List.set_cons_zero, List.set_cons_succ]
  refine held_take 6 53 (v := ?_) rfl rfl (by kernel_rfl) (by kernel_rfl) (by kernel_rfl) (fun _ _ _ _ h => h) (by rfl) ?_ hHeld ?_
  rotate_left; · (intro w hSw; clear hSw; go_simp; first | done | with_reducible rfl)
  simp only [List.setIfInBounds_toArray, List.set_cons_zero, List.set_cons_succ]
  refine held_take 7 54 (v := ?_) rfl rfl (by kernel_rfl) (by kernel_rfl) (by kernel_rfl) (fun _ _ _ _ h => h) (by rfl) ?_ hHeld ?_
  rotate_left; · (intro w hSw; clear hSw; go_simp; first | done | with_reducible rfl)
  simp only [List.setIfInBounds_toArray, List.set_cons_zero, List.set_cons_succ]
  refine held_call 8 55 rfl rfl (by kernel_rfl) (by rfl) (f := 5) (args := ?_) ?_ ?_
  rotate_left; · (go_simp; first | done | with_reducible rfl)
  refine (HRS.out _).mono ?_
  rintro er w2 ⟨rfl, hm2⟩
  refine ⟨_, rfl, (hHeld.tr hm2), fun hNew => ?_⟩; clear hHeld; have hHeld := hNew; clear hNew
  simp only [List.setIfInBounds_toArray, List.set_cons_zero, List.set_cons_succ]
  refine held_take 9 46 (v := ?_) rfl rfl (by kernel_rfl) (by kernel_rfl) (by kernel_rfl) (fun _ _ _ _ h => h) (by rfl) ?_ hHeld ?_
  rotate_left; · (intro w hSw; clear hSw; go_simp; first | done | with_reducible rfl)
  simp only [List.setIfInBounds_toArray, List.set_cons_zero, List.set_cons_succ]
  refine held_take 10 56 (v := ?_) rfl rfl (by kernel_rfl) (by kernel_rfl) (by kernel_rfl) (fun _ _ _ _ h => h) (by rfl) ?_ hHeld ?_
  rotate_left; · (intro w hSw; clear hSw; go_simp; first | done | with_reducible rfl)
  simp only [List.setIfInBounds_toArray, List.set_cons_zero, List.set_cons_succ]
  refine held_take 11 57 (v := ?_) rfl rfl (by kernel_rfl) (by kernel_rfl) (by kernel_rfl) (fun _ _ _ _ h => h) (by rfl) ?_ hHeld ?_
  rotate_left; · (intro w hSw; clear hSw; go_simp; first | done | with_reducible rfl)
  simp only [List.setIfInBounds_toArray, List.set_cons_zero, List.set_cons_succ]
  refine held_take 12 10 (v := ?_) rfl rfl (by kernel_rfl) (by kernel_rfl) (by kernel_rfl) (fun _ _ _ _ h => h) (by rfl) ?_ hHeld ?_
  rotate_left; · (intro w hSw; clear hSw; go_simp; first | done | with_reducible rfl)
  simp only [List.setIfInBounds_toArray, List.set_cons_zero, List.set_cons_succ]
  refine held_take 13 11 (v := ?_) rfl rfl (by kernel_rfl) (by kernel_rfl) (by kernel_rfl) (fun _ _ _ _ h => h) (by rfl) ?_ hHeld ?_
  rotate_left; · (intro w hSw; clear hSw; go_simp; first | done | with_reducible rfl)
  simp only [List.setIfInBounds_toArray, List.set_cons_zero, List.set_cons_succ]
  refine wpAnyH_done (by kernel_rfl) ?_ _
  go_wp2_with first
    | (go_at_call 6; refine (HD.out _).mono ?_; rintro er w3 ⟨rfl, hm3⟩)
    | (go_at_call 7; refine (HRD.out _).mono ?_; rintro er w4 ⟨rfl, hm4⟩)
    | (go_at_call 8; refine (HZ.out _).mono ?_; rintro er w5 ⟨rfl, hm5⟩)
  go_ret
  exact ⟨rfl, ((((hmd2.tr hHeld).tr hm3).tr hm4).tr hm5)⟩
theorem law_any (a0 a1 a2 : ByteArray) (w : World) :
    Calls Try.prog 3 #[.string a0, .string a1, .string a2] w fun e w' => e = .returned (.bool true) ∧ Mod (fun _ => False) w w' := by
  by_cases h : 512 < a0.size ∨ 512 < a1.size ∨ 512 < a2.size
  · exact law_big a0 a1 a2 h w
  · have h1 : a0.size ≤ 512 := by omega
    have h2 : a1.size ≤ 512 := by omega
    have h3 : a2.size ≤ 512 := by omega
    obtain ⟨U, n, h4, h5⟩ := seal_both (a0.extract 0 (min 32 a0.size)) (a0.extract (min 32 a0.size) a0.size) a1 a2 h2 h3
    exact law_walk a0 a1 a2 U _ _ (min 32 a0.size) n (a2.size % 200) h1 h2 h3 (Nat.min_le_right _ _) (by omega)
      (by rw [Int.tmod_eq_emod_of_nonneg (by omega)]; omega) h4 h5
      (fun w => derive_any a1 a0 a2 (a2.size % 200) (by omega) (by omega) (by omega) (by omega) w)
      (fun w => rderive_any a1 a0 a2 (a2.size % 200) (by omega) (by omega) (by omega) (by omega) w)
      (fun w => expand_any ⟨#[107]⟩ ⟨#[]⟩ 32 (by decide) (by decide) (by decide) w) exp32_size w
end Go.Proofs.Ytpnpmploaaenlaa
