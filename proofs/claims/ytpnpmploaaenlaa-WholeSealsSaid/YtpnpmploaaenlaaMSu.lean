/- Tags: the walks on both sides. -/
import Derived.Test.YtpnpmploaaenlaaMSs
namespace Go.Proofs.Ytpnpmploaaenlaa
open Go.RowKit
set_option linter.unusedSimpArgs false
set_option linter.unusedVariables false
set_option maxRecDepth 100000 in
set_option maxHeartbeats 4000000 in
theorem tag_walk (key nonce bound c BK LS FS TG : ByteArray) (hBK : BK.size = 64)
    (hblk : ∀ w, Calls Try.prog 23 #[.string key, .string nonce, .int .i64 0] w fun e w' => e = .returned (.tuple #[.string BK, .int .i64 0]) ∧ Mod (fun _ => False) w w')
    (hls : ∀ (w : World) (g : Nat), w.heap[g]? = some (.cells #[.int .i64 (bound.size : Int), .int .i64 0, .int .i64 (c.size : Int), .int .i64 0] 3 (0, 0)) → Calls Try.prog 26 #[.slice (some ⟨g, 0, none⟩) 4 4] w fun e w' => e = .returned (.string LS) ∧ Mod (fun _ => False) w w')
    (hfs : ∀ (w : World) (g : Nat), w.heap[g]? = some (.cells #[.string bound, .string c, .string LS] 9 (0, 0)) → Calls Try.prog 25 #[.slice (some ⟨g, 0, none⟩) 3 3] w fun e w' => e = .returned (.string FS) ∧ Mod (fun _ => False) w w')
    (hmc : ∀ w, Calls Try.prog 24 #[.string (BK.extract 0 32), .string FS] w fun e w' => e = .returned (.tuple #[.string TG, .int .i64 0]) ∧ Mod (fun _ => False) w w') (w : World) :
    Calls Try.prog 11 #[.string key, .string nonce, .string bound, .string c] w fun e w' => e = .returned (.string TG) ∧ Mod (fun _ => False) w w' := by
  have HBL := Lib.hid hblk
  have HLS := Lib.hid hls
  have HFS := Lib.hid hfs
  have HMC := Lib.hid hmc
  clear hblk hls hfs hmc
  go_enter Try.func11, Try.ntmps11
  go_wp2_with (go_at_call 23; refine (HBL.out _).mono ?_; rintro er w0 ⟨rfl, hm0⟩)
  refine wp_region_held_any (S := fun w' => Mod (fun _ => False) w0.drew w') (by kernel_rfl) (fun wd hwd => ?_)
  rw [hwd]
  refine ⟨Mod.refl _ _, fun hHeld => ?_⟩
  have hmd : Mod (fun _ => False) w wd := by subst hwd; exact hm0.drew
  clear hwd hm0
  refine held_take 0 20 (v := ?_) rfl rfl (by kernel_rfl) (by kernel_rfl) (by kernel_rfl) (fun _ _ _ _ h => h) (by rfl) ?_ hHeld ?_
  rotate_left; · (intro w hSw; clear hSw; go_simp; first | done | with_reducible rfl)
  simp only [List.setIfInBounds_toArray, List.set_cons_zero, List.set_cons_succ]
  refine held_take 1 21 (v := ?_) rfl rfl (by kernel_rfl) (by kernel_rfl) (by kernel_rfl) (fun _ _ _ _ h => h) (by rfl) ?_ hHeld ?_
  rotate_left; · (intro w hSw; clear hSw; go_simp; first | done | with_reducible rfl)
  simp only [List.setIfInBounds_toArray, List.set_cons_zero, List.set_cons_succ]
  refine held_take 2 22 (v := ?_) rfl rfl (by kernel_rfl) (by kernel_rfl) (by kernel_rfl) (fun _ _ _ _ h => h) (by rfl) ?_ hHeld ?_
  rotate_left; · (intro w hSw; clear hSw; go_simp; first | done | with_reducible rfl)
  simp only [List.setIfInBounds_toArray, List.set_cons_zero, List.set_cons_succ]
  refine held_take 3 23 (v := ?_) rfl rfl (by kernel_rfl) (by kernel_rfl) (by kernel_rfl) (fun _ _ _ _ h => h) (by rfl) ?_ hHeld ?_
  rotate_left; · (intro w hSw; clear hSw; go_simp; first | done | with_reducible rfl)
  simp only [List.setIfInBounds_toArray, List.set_cons_zero, List.set_cons_succ]
  refine held_take 4 24 (v := ?_) rfl rfl (by kernel_rfl) (by kernel_rfl) (by kernel_rfl) (fun _ _ _ _ h => h) (by rfl) ?_ hHeld ?_
  rotate_left; · (intro w hSw; clear hSw; go_simp; first | done | with_reducible rfl)
  simp only [List.setIfInBounds_toArray, List.set_cons_zero, List.set_cons_succ]
  refine held_take 5 25 (v := ?_) rfl rfl (by kernel_rfl) (by kernel_rfl) (by kernel_rfl) (fun _ _ _ _ h => h) (by rfl) ?_ hHeld ?_
  rotate_left; · (intro w hSw; clear hSw; go_simp; first | done | with_reducible rfl)
  simp only [List.setIfInBounds_toArray, List.set_cons_zero, List.set_cons_succ]
  refine held_take 6 26 (v := ?_) rfl rfl (by kernel_rfl) (by kernel_rfl) (by kernel_rfl) (fun _ _ _ _ h => h) (by rfl) ?_ hHeld ?_
  rotate_left; · (intro w hSw; clear hSw; go_simp; first | done | with_reducible rfl)
  simp only [List.setIfInBounds_toArray, List.set_cons_zero, List.set_cons_succ]
  refine held_take 7 27 (v := ?_) rfl rfl (by kernel_rfl) (by kernel_rfl) (by kernel_rfl) (fun _ _ _ _ h => h) (by rfl) ?_ hHeld ?_
  rotate_left; · (intro w hSw; clear hSw; go_simp; first | done | with_reducible rfl)
  simp only [List.setIfInBounds_toArray, List.set_cons_zero, List.set_cons_succ]
  refine held_make 8 28 rfl rfl (by kernel_rfl) (by rfl) (v := ?_) (w' := ?_) ?_ ?_ (fun hNew => ?_)
  rotate_left 2; · (go_simp; first | done | with_reducible rfl | (constructor <;> with_reducible rfl))
  · exact hHeld.alloc _
  clear hHeld; have hHeld := hNew; clear hNew
  simp only [List.setIfInBounds_toArray, List.set_cons_zero, List.set_cons_succ]
  refine held_call 9 29 rfl rfl (by kernel_rfl) (by rfl) (f := 26) (args := ?_) ?_ ?_
  rotate_left; · (go_simp; first | done | with_reducible rfl)
  refine (HLS.out _ _ (new_block _ _ _ _ rfl)).mono ?_
  rintro er w1 ⟨rfl, hm1⟩
  refine ⟨_, rfl, (hHeld.tr hm1), fun hNew => ?_⟩; clear hHeld; have hHeld := hNew; clear hNew
  simp only [List.setIfInBounds_toArray, List.set_cons_zero, List.set_cons_succ]
  refine held_make 10 30 rfl rfl (by kernel_rfl) (by rfl) (v := ?_) (w' := ?_) ?_ ?_ (fun hNew => ?_)
  rotate_left 2; · (go_simp; first | done | with_reducible rfl | (constructor <;> with_reducible rfl))
  · exact hHeld.alloc _
  clear hHeld; have hHeld := hNew; clear hNew
  simp only [List.setIfInBounds_toArray, List.set_cons_zero, List.set_cons_succ]
  refine held_call 11 31 rfl rfl (by kernel_rfl) (by rfl) (f := 25) (args := ?_) ?_ ?_
  rotate_left; · (go_simp; first | done | with_reducible rfl)
  refine (HFS.out _ _ (new_block _ _ _ _ rfl)).mono ?_
  rintro er w2 ⟨rfl, hm2⟩
  refine ⟨_, rfl, (hHeld.tr hm2), fun hNew => ?_⟩; clear hHeld; have hHeld := hNew; clear hNew
  simp only [List.setIfInBounds_toArray, List.set_cons_zero, List.set_cons_succ]
  refine held_call 12 32 rfl rfl (by kernel_rfl) (by rfl) (f := 24) (args := ?_) ?_ ?_
  rotate_left; · (go_simp; first | done | with_reducible rfl)
  refine (HMC.out _).mono ?_
  rintro er w3 ⟨rfl, hm3⟩
  refine ⟨_, rfl, (hHeld.tr hm3), fun hNew => ?_⟩; clear hHeld; have hHeld := hNew; clear hNew
  simp only [List.setIfInBounds_toArray, List.set_cons_zero, List.set_cons_succ]
  refine held_take 13 19 (v := ?_) rfl rfl (by kernel_rfl) (by kernel_rfl) (by kernel_rfl) (fun _ _ _ _ h => h) (by rfl) ?_ hHeld ?_
  rotate_left; · (intro w hSw; clear hSw; go_simp; first | done | with_reducible rfl)
  simp only [List.setIfInBounds_toArray, List.set_cons_zero, List.set_cons_succ]
  refine held_take 14 33 (v := ?_) rfl rfl (by kernel_rfl) (by kernel_rfl) (by kernel_rfl) (fun _ _ _ _ h => h) (by rfl) ?_ hHeld ?_
  rotate_left; · (intro w hSw; clear hSw; go_simp; first | done | with_reducible rfl)
  simp only [List.setIfInBounds_toArray, List.set_cons_zero, List.set_cons_succ]
  refine held_take 15 34 (v := ?_) rfl rfl (by kernel_rfl) (by kernel_rfl) (by kernel_rfl) (fun _ _ _ _ h => h) (by rfl) ?_ hHeld ?_
  rotate_left; · (intro w hSw; clear hSw; go_simp; first | done | with_reducible rfl)
  simp only [List.setIfInBounds_toArray, List.set_cons_zero, List.set_cons_succ]
  refine held_take 16 11 (v := ?_) rfl rfl (by kernel_rfl) (by kernel_rfl) (by kernel_rfl) (fun _ _ _ _ h => h) (by rfl) ?_ hHeld ?_
  rotate_left; · (intro w hSw; clear hSw; go_simp; first | done | with_reducible rfl)
  simp only [List.setIfInBounds_toArray, List.set_cons_zero, List.set_cons_succ]
  refine held_take 17 12 (v := ?_) rfl rfl (by kernel_rfl) (by kernel_rfl) (by kernel_rfl) (fun _ _ _ _ h => h) (by rfl) ?_ hHeld ?_
  rotate_left; · (intro w hSw; clear hSw; go_simp; first | done | with_reducible rfl)
  simp only [List.setIfInBounds_toArray, List.set_cons_zero, List.set_cons_succ]
  refine wpAnyH_done (by kernel_rfl) ?_ _
  go_wp2_with fail
  go_ret
  exact ⟨rfl, hmd.tr hHeld⟩
set_option maxRecDepth 100000 in
set_option maxHeartbeats 8000000 in
theorem rtag_walk (key nonce bound c BK LS TG : ByteArray) (FI : ByteArray → ByteArray) (hBK : BK.size = 64)
    (hblk : ∀ w, Calls Try.prog 27 #[.string key, .string nonce, .int .i64 0] w fun e w' => e = .returned (.tuple #[.string BK, .int .i64 0]) ∧ Mod (fun _ => False) w w')
    (hls : ∀ (w : World) (g : Nat), w.heap[g]? = some (.cells #[.int .i64 (bound.size : Int), .int .i64 0, .int .i64 (c.size : Int), .int .i64 0] 3 (0, 0)) → Calls Try.prog 31 #[.slice (some ⟨g, 0, none⟩) 4 4] w fun e w' => e = .returned (.string LS) ∧ Mod (fun _ => False) w w')
    (hfi : ∀ (t : ByteArray) (w : World), t.size ≤ 20000 → Calls Try.prog 30 #[.string t] w fun e w' => e = .returned (.string (FI t)) ∧ Mod (fun _ => False) w w')
    (hbs : bound.size ≤ 20000) (hcs : c.size ≤ 20000) (hbig1 : ¬ (9223372036854775807 < (FI bound).size + (FI c).size)) (hbig2 : ¬ (9223372036854775807 < (FI bound).size + (FI c).size + LS.size))
    (hmc : ∀ w, Calls Try.prog 29 #[.string (BK.extract 0 32), .string (FI bound ++ FI c ++ LS)] w fun e w' => e = .returned (.tuple #[.string TG, .int .i64 0]) ∧ Mod (fun _ => False) w w') (w : World) :
    Calls Try.prog 14 #[.string key, .string nonce, .string bound, .string c] w fun e w' => e = .returned (.string TG) ∧ Mod (fun _ => False) w w' := by
  have HBL := Lib.hid hblk
  have HLS := Lib.hid hls
  have HFI := Lib.hid hfi
  have HMC := Lib.hid hmc
  clear hblk hls hfi hmc
  go_enter Try.func14, Try.ntmps14
  go_wp2_with (go_at_call 27; refine (HBL.out _).mono ?_; rintro er w0 ⟨rfl, hm0⟩)
  refine wp_region_held_any (S := fun w' => Mod (fun _ => False) w0.drew w') (by kernel_rfl) (fun wd hwd => ?_)
  rw [hwd]
  refine ⟨Mod.refl _ _, fun hHeld => ?_⟩
  have hmd : Mod (fun _ => False) w wd := by subst hwd; exact hm0.drew
  clear hwd hm0
  refine held_take 0 23 (v := ?_) rfl rfl (by kernel_rfl) (by kernel_rfl) (by kernel_rfl) (fun _ _ _ _ h => h) (by rfl) ?_ hHeld ?_
  rotate_left; · (intro w hSw; clear hSw; go_simp; first | done | with_reducible rfl)
  simp only [List.setIfInBounds_toArray, List.set_cons_zero, List.set_cons_succ]
  refine held_take 1 24 (v := ?_) rfl rfl (by kernel_rfl) (by kernel_rfl) (by kernel_rfl) (fun _ _ _ _ h => h) (by rfl) ?_ hHeld ?_
  rotate_left; · (intro w hSw; clear hSw; go_simp; first | done | with_reducible rfl)
  simp only [List.setIfInBounds_toArray, List.set_cons_zero, List.set_cons_succ]
  refine held_take 2 25 (v := ?_) rfl rfl (by kernel_rfl) (by kernel_rfl) (by kernel_rfl) (fun _ _ _ _ h => h) (by rfl) ?_ hHeld ?_
  rotate_left; · (intro w hSw; clear hSw; go_simp; first | done | with_reducible rfl)
  simp only [List.setIfInBounds_toArray, List.set_cons_zero, List.set_cons_succ]
  refine held_take 4 27 (v := ?_) rfl rfl (by kernel_rfl) (by kernel_rfl) (by kernel_rfl) (fun _ _ _ _ h => h) (by rfl) ?_ hHeld ?_
  rotate_left; · (intro w hSw; clear hSw; go_simp; first | done | with_reducible rfl)
  simp only [List.setIfInBounds_toArray, List.set_cons_zero, List.set_cons_succ]
  refine held_take 7 30 (v := ?_) rfl rfl (by kernel_rfl) (by kernel_rfl) (by kernel_rfl) (fun _ _ _ _ h => h) (by rfl) ?_ hHeld ?_
  rotate_left; · (intro w hSw; clear hSw; go_simp; first | done | with_reducible rfl)
  simp only [List.setIfInBounds_toArray, List.set_cons_zero, List.set_cons_succ]
  refine held_take 8 31 (v := ?_) rfl rfl (by kernel_rfl) (by kernel_rfl) (by kernel_rfl) (fun _ _ _ _ h => h) (by rfl) ?_ hHeld ?_
  rotate_left; · (intro w hSw; clear hSw; go_simp; first | done | with_reducible rfl)
  simp only [List.setIfInBounds_toArray, List.set_cons_zero, List.set_cons_succ]
  refine held_take 9 32 (v := ?_) rfl rfl (by kernel_rfl) (by kernel_rfl) (by kernel_rfl) (fun _ _ _ _ h => h) (by rfl) ?_ hHeld ?_
  rotate_left; · (intro w hSw; clear hSw; go_simp; first | done | with_reducible rfl)
  simp only [List.setIfInBounds_toArray, List.set_cons_zero, List.set_cons_succ]
  refine held_take 10 33 (v := ?_) rfl rfl (by kernel_rfl) (by kernel_rfl) (by kernel_rfl) (fun _ _ _ _ h => h) (by rfl) ?_ hHeld ?_
  rotate_left; · (intro w hSw; clear hSw; go_simp; first | done | with_reducible rfl)
  simp only [List.setIfInBounds_toArray, List.set_cons_zero, List.set_cons_succ]
  refine wpAnyH_ready (rs := [3, 11]) (by kernel_rfl) (by simp) ?_
  refine all_call 3 26 rfl rfl (by rfl) (f := 30) (args := ?_) ?_ ?_ ?_
  rotate_left; · (go_simp; first | done | with_reducible rfl)
  ·
    refine (HFI.out _ _ hbs).mono ?_
    rintro er wX ⟨rfl, hmX⟩
    refine ⟨_, rfl, (hHeld.tr hmX), fun hNew => ?_⟩; clear hHeld; have hHeld := hNew; clear hNew
    simp only [List.setIfInBounds_toArray, List.set_cons_zero, List.set_cons_succ]
    refine wpAnyH_ready (rs := [5, 11]) (by kernel_rfl) (by simp) ?_
    refine all_call 5 28 rfl rfl (by rfl) (f := 30) (args := ?_) ?_ ?_ ?_
    rotate_left; · (go_simp; first | done | with_reducible rfl)
    ·
      refine (HFI.out _ _ hcs).mono ?_
      rintro er wY ⟨rfl, hmY⟩
      refine ⟨_, rfl, (hHeld.tr hmY), fun hNew => ?_⟩; clear hHeld; have hHeld := hNew; clear hNew
      simp only [List.setIfInBounds_toArray, List.set_cons_zero, List.set_cons_succ]
      refine held_take 6 29 (v := ?_) rfl rfl (by kernel_rfl) (by kernel_rfl) (by kernel_rfl) (fun _ _ _ _ h => h) (by rfl) ?_ hHeld ?_
      rotate_left; · (intro w hSw; clear hSw; go_simp; first | done | with_reducible rfl)
      simp only [List.setIfInBounds_toArray, List.set_cons_zero, List.set_cons_succ]
      refine held_make 11 34 rfl rfl (by kernel_rfl) (by rfl) (v := ?_) (w' := ?_) ?_ ?_ (fun hNew => ?_)
      rotate_left 2; · (go_simp; first | done | with_reducible rfl | (constructor <;> with_reducible rfl))
      · exact hHeld.alloc _
      clear hHeld; have hHeld := hNew; clear hNew
      simp only [List.setIfInBounds_toArray, List.set_cons_zero, List.set_cons_succ]
      refine held_call 12 35 rfl rfl (by kernel_rfl) (by rfl) (f := 31) (args := ?_) ?_ ?_
      rotate_left; · (go_simp; first | done | with_reducible rfl)
      refine (HLS.out _ _ ?_).mono ?_
      · first | exact new_block _ _ _ _ rfl | exact hmY.blk (new_block _ _ _ _ rfl) (fun e => e) | exact hmY.blk (hmX.blk (new_block _ _ _ _ rfl) (fun e => e)) (fun e => e)
      rintro er w1 ⟨rfl, hm1⟩
      refine ⟨_, rfl, (hHeld.tr hm1), fun hNew => ?_⟩; clear hHeld; have hHeld := hNew; clear hNew
      simp only [List.setIfInBounds_toArray, List.set_cons_zero, List.set_cons_succ]
      refine held_take 13 36 (v := ?_) rfl rfl (by kernel_rfl) (by kernel_rfl) (by kernel_rfl) (fun _ _ _ _ h => h) (by rfl) ?_ hHeld ?_
      rotate_left; · (intro w hSw; clear hSw; go_simp; first | done | with_reducible rfl)
      simp only [List.setIfInBounds_toArray, List.set_cons_zero, List.set_cons_succ]
      refine held_call 14 37 rfl rfl (by kernel_rfl) (by rfl) (f := 29) (args := ?_) ?_ ?_
      rotate_left; · (go_simp; first | done | with_reducible rfl)
      refine (HMC.out _).mono ?_
      rintro er w3 ⟨rfl, hm3⟩
      refine ⟨_, rfl, (hHeld.tr hm3), fun hNew => ?_⟩; clear hHeld; have hHeld := hNew; clear hNew
      simp only [List.setIfInBounds_toArray, List.set_cons_zero, List.set_cons_succ]
      refine held_take 15 22 (v := ?_) rfl rfl (by kernel_rfl) (by kernel_rfl) (by kernel_rfl) (fun _ _ _ _ h => h) (by rfl) ?_ hHeld ?_
      rotate_left; · (intro w hSw; clear hSw; go_simp; first | done | with_reducible rfl)
      simp only [List.setIfInBounds_toArray, List.set_cons_zero, List.set_cons_succ]
      refine held_take 16 38 (v := ?_) rfl rfl (by kernel_rfl) (by kernel_rfl) (by kernel_rfl) (fun _ _ _ _ h => h) (by rfl) ?_ hHeld ?_
      rotate_left; · (intro w hSw; clear hSw; go_simp; first | done | with_reducible rfl)
      simp only [List.setIfInBounds_toArray, List.set_cons_zero, List.set_cons_succ]
      refine held_take 17 39 (v := ?_) rfl rfl (by kernel_rfl) (by kernel_rfl) (by kernel_rfl) (fun _ _ _ _ h => h) (by rfl) ?_ hHeld ?_
      rotate_left; · (intro w hSw; clear hSw; go_simp; first | done | with_reducible rfl)
      simp only [List.setIfInBounds_toArray, List.set_cons_zero, List.set_cons_succ]
      refine held_take 18 11 (v := ?_) rfl rfl (by kernel_rfl) (by kernel_rfl) (by kernel_rfl) (fun _ _ _ _ h => h) (by rfl) ?_ hHeld ?_
      rotate_left; · (intro w hSw; clear hSw; go_simp; first | done | with_reducible rfl)
      simp only [List.setIfInBounds_toArray, List.set_cons_zero, List.set_cons_succ]
      refine held_take 19 12 (v := ?_) rfl rfl (by kernel_rfl) (by kernel_rfl) (by kernel_rfl) (fun _ _ _ _ h => h) (by rfl) ?_ hHeld ?_
      rotate_left; · (intro w hSw; clear hSw; go_simp; first | done | with_reducible rfl)
      simp only [List.setIfInBounds_toArray, List.set_cons_zero, List.set_cons_succ]
      refine wpAnyH_done (by kernel_rfl) ?_ _
      go_wp2_with fail
      go_ret
      exact ⟨rfl, hmd.tr hHeld⟩
    refine all_make 11 34 rfl rfl (by rfl) (v := ?_) (w' := ?_) ?_ ?_ (fun hNew => ?_) AllReadyH.nil
    rotate_left 2; · (go_simp; first | done | with_reducible rfl | (constructor <;> with_reducible rfl))
    · exact hHeld.alloc _
    clear hHeld; have hHeld := hNew; clear hNew
    simp only [List.setIfInBounds_toArray, List.set_cons_zero, List.set_cons_succ]
    refine held_call 5 28 rfl rfl (by kernel_rfl) (by rfl) (f := 30) (args := ?_) ?_ ?_
    rotate_left; · (go_simp; first | done | with_reducible rfl)
    refine (HFI.out _ _ hcs).mono ?_
    rintro er wY ⟨rfl, hmY⟩
    refine ⟨_, rfl, (hHeld.tr hmY), fun hNew => ?_⟩; clear hHeld; have hHeld := hNew; clear hNew
    simp only [List.setIfInBounds_toArray, List.set_cons_zero, List.set_cons_succ]
    refine held_take 6 29 (v := ?_) rfl rfl (by kernel_rfl) (by kernel_rfl) (by kernel_rfl) (fun _ _ _ _ h => h) (by rfl) ?_ hHeld ?_
    rotate_left; · (intro w hSw; clear hSw; go_simp; first | done | with_reducible rfl)
    simp only [List.setIfInBounds_toArray, List.set_cons_zero, List.set_cons_succ]
    refine held_call 12 35 rfl rfl (by kernel_rfl) (by rfl) (f := 31) (args := ?_) ?_ ?_
    rotate_left; · (go_simp; first | done | with_reducible rfl)
    refine (HLS.out _ _ ?_).mono ?_
    · first | exact new_block _ _ _ _ rfl | exact hmY.blk (new_block _ _ _ _ rfl) (fun e => e) | exact hmY.blk (hmX.blk (new_block _ _ _ _ rfl) (fun e => e)) (fun e => e)
    rintro er w1 ⟨rfl, hm1⟩
    refine ⟨_, rfl, (hHeld.tr hm1), fun hNew => ?_⟩; clear hHeld; have hHeld := hNew; clear hNew
    simp only [List.setIfInBounds_toArray, List.set_cons_zero, List.set_cons_succ]
    refine held_take 13 36 (v := ?_) rfl rfl (by kernel_rfl) (by kernel_rfl) (by kernel_rfl) (fun _ _ _ _ h => h) (by rfl) ?_ hHeld ?_
    rotate_left; · (intro w hSw; clear hSw; go_simp; first | done | with_reducible rfl)
    simp only [List.setIfInBounds_toArray, List.set_cons_zero, List.set_cons_succ]
    refine held_call 14 37 rfl rfl (by kernel_rfl) (by rfl) (f := 29) (args := ?_) ?_ ?_
    rotate_left; · (go_simp; first | done | with_reducible rfl)
    refine (HMC.out _).mono ?_
    rintro er w3 ⟨rfl, hm3⟩
    refine ⟨_, rfl, (hHeld.tr hm3), fun hNew => ?_⟩; clear hHeld; have hHeld := hNew; clear hNew
    simp only [List.setIfInBounds_toArray, List.set_cons_zero, List.set_cons_succ]
    refine held_take 15 22 (v := ?_) rfl rfl (by kernel_rfl) (by kernel_rfl) (by kernel_rfl) (fun _ _ _ _ h => h) (by rfl) ?_ hHeld ?_
    rotate_left; · (intro w hSw; clear hSw; go_simp; first | done | with_reducible rfl)
    simp only [List.setIfInBounds_toArray, List.set_cons_zero, List.set_cons_succ]
    refine held_take 16 38 (v := ?_) rfl rfl (by kernel_rfl) (by kernel_rfl) (by kernel_rfl) (fun _ _ _ _ h => h) (by rfl) ?_ hHeld ?_
    rotate_left; · (intro w hSw; clear hSw; go_simp; first | done | with_reducible rfl)
    simp only [List.setIfInBounds_toArray, List.set_cons_zero, List.set_cons_succ]
    refine held_take 17 39 (v := ?_) rfl rfl (by kernel_rfl) (by kernel_rfl) (by kernel_rfl) (fun _ _ _ _ h => h) (by rfl) ?_ hHeld ?_
    rotate_left; · (intro w hSw; clear hSw; go_simp; first | done | with_reducible rfl)
    simp only [List.setIfInBounds_toArray, List.set_cons_zero, List.set_cons_succ]
    refine held_take 18 11 (v := ?_) rfl rfl (by kernel_rfl) (by kernel_rfl) (by kernel_rfl) (fun _ _ _ _ h => h) (by rfl) ?_ hHeld ?_
    rotate_left; · (intro w hSw; clear hSw; go_simp; first | done | with_reducible rfl)
    simp only [List.setIfInBounds_toArray, List.set_cons_zero, List.set_cons_succ]
    refine held_take 19 12 (v := ?_) rfl rfl (by kernel_rfl) (by kernel_rfl) (by kernel_rfl) (fun _ _ _ _ h => h) (by rfl) ?_ hHeld ?_
    rotate_left; · (intro w hSw; clear hSw; go_simp; first | done | with_reducible rfl)
    simp only [List.setIfInBounds_toArray, List.set_cons_zero, List.set_cons_succ]
    refine wpAnyH_done (by kernel_rfl) ?_ _
    go_wp2_with fail
    go_ret
    exact ⟨rfl, hmd.tr hHeld⟩
  refine all_make 11 34 rfl rfl (by rfl) (v := ?_) (w' := ?_) ?_ ?_ (fun hNew => ?_) AllReadyH.nil
  rotate_left 2; · (go_simp; first | done | with_reducible rfl | (constructor <;> with_reducible rfl))
  · exact hHeld.alloc _
  clear hHeld; have hHeld := hNew; clear hNew
  simp only [List.setIfInBounds_toArray, List.set_cons_zero, List.set_cons_succ]
  refine held_call 3 26 rfl rfl (by kernel_rfl) (by rfl) (f := 30) (args := ?_) ?_ ?_
  rotate_left; · (go_simp; first | done | with_reducible rfl)
  refine (HFI.out _ _ hbs).mono ?_
  rintro er wX ⟨rfl, hmX⟩
  refine ⟨_, rfl, (hHeld.tr hmX), fun hNew => ?_⟩; clear hHeld; have hHeld := hNew; clear hNew
  simp only [List.setIfInBounds_toArray, List.set_cons_zero, List.set_cons_succ]
  refine held_call 5 28 rfl rfl (by kernel_rfl) (by rfl) (f := 30) (args := ?_) ?_ ?_
  rotate_left; · (go_simp; first | done | with_reducible rfl)
  refine (HFI.out _ _ hcs).mono ?_
  rintro er wY ⟨rfl, hmY⟩
  refine ⟨_, rfl, (hHeld.tr hmY), fun hNew => ?_⟩; clear hHeld; have hHeld := hNew; clear hNew
  simp only [List.setIfInBounds_toArray, List.set_cons_zero, List.set_cons_succ]
  refine held_take 6 29 (v := ?_) rfl rfl (by kernel_rfl) (by kernel_rfl) (by kernel_rfl) (fun _ _ _ _ h => h) (by rfl) ?_ hHeld ?_
  rotate_left; · (intro w hSw; clear hSw; go_simp; first | done | with_reducible rfl)
  simp only [List.setIfInBounds_toArray, List.set_cons_zero, List.set_cons_succ]
  refine held_call 12 35 rfl rfl (by kernel_rfl) (by rfl) (f := 31) (args := ?_) ?_ ?_
  rotate_left; · (go_simp; first | done | with_reducible rfl)
  refine (HLS.out _ _ ?_).mono ?_
  · first | exact new_block _ _ _ _ rfl | exact hmY.blk (new_block _ _ _ _ rfl) (fun e => e) | exact hmY.blk (hmX.blk (new_block _ _ _ _ rfl) (fun e => e)) (fun e => e)
  rintro er w1 ⟨rfl, hm1⟩
  refine ⟨_, rfl, (hHeld.tr hm1), fun hNew => ?_⟩; clear hHeld; have hHeld := hNew; clear hNew
  simp only [List.setIfInBounds_toArray, List.set_cons_zero, List.set_cons_succ]
  refine held_take 13 36 (v := ?_) rfl rfl (by kernel_rfl) (by kernel_rfl) (by kernel_rfl) (fun _ _ _ _ h => h) (by rfl) ?_ hHeld ?_
  rotate_left; · (intro w hSw; clear hSw; go_simp; first | done | with_reducible rfl)
  simp only [List.setIfInBounds_toArray, List.set_cons_zero, List.set_cons_succ]
  refine held_call 14 37 rfl rfl (by kernel_rfl) (by rfl) (f := 29) (args := ?_) ?_ ?_
  rotate_left; · (go_simp; first | done | with_reducible rfl)
  refine (HMC.out _).mono ?_
  rintro er w3 ⟨rfl, hm3⟩
  refine ⟨_, rfl, (hHeld.tr hm3), fun hNew => ?_⟩; clear hHeld; have hHeld := hNew; clear hNew
  simp only [List.setIfInBounds_toArray, List.set_cons_zero, List.set_cons_succ]
  refine held_take 15 22 (v := ?_) rfl rfl (by kernel_rfl) (by kernel_rfl) (by kernel_rfl) (fun _ _ _ _ h => h) (by rfl) ?_ hHeld ?_
  rotate_left; · (intro w hSw; clear hSw; go_simp; first | done | with_reducible rfl)
  simp only [List.setIfInBounds_toArray, List.set_cons_zero, List.set_cons_succ]
  refine held_take 16 38 (v := ?_) rfl rfl (by kernel_rfl) (by kernel_rfl) (by kernel_rfl) (fun _ _ _ _ h => h) (by rfl) ?_ hHeld ?_
  rotate_left; · (intro w hSw; clear hSw; go_simp; first | done | with_reducible rfl)
  simp only [List.setIfInBounds_toArray, List.set_cons_zero, List.set_cons_succ]
  refine held_take 17 39 (v := ?_) rfl rfl (by kernel_rfl) (by kernel_rfl) (by kernel_rfl) (fun _ _ _ _ h => h) (by rfl) ?_ hHeld ?_
  rotate_left; · (intro w hSw; clear hSw; go_simp; first | done | with_reducible rfl)
  simp only [List.setIfInBounds_toArray, List.set_cons_zero, List.set_cons_succ]
  refine held_take 18 11 (v := ?_) rfl rfl (by kernel_rfl) (by kernel_rfl) (by kernel_rfl) (fun _ _ _ _ h => h) (by rfl) ?_ hHeld ?_
  rotate_left; · (intro w hSw; clear hSw; go_simp; first | done | with_reducible rfl)
  simp only [List.setIfInBounds_toArray, List.set_cons_zero, List.set_cons_succ]
  refine held_take 19 12 (v := ?_) rfl rfl (by kernel_rfl) (by kernel_rfl) (by kernel_rfl) (fun _ _ _ _ h => h) (by rfl) ?_ hHeld ?_
  rotate_left; · (intro w hSw; clear hSw; go_simp; first | done | with_reducible rfl)
  simp only [List.setIfInBounds_toArray, List.set_cons_zero, List.set_cons_succ]
  refine wpAnyH_done (by kernel_rfl) ?_ _
  go_wp2_with fail
  go_ret
  exact ⟨rfl, hmd.tr hHeld⟩
end Go.Proofs.Ytpnpmploaaenlaa
