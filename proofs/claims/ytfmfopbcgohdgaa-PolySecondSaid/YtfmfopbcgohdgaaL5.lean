/- PolySecond: the walk of the law. -/
import Derived.Test.YtfmfopbcgohdgaaL2
namespace Go.Proofs.Ytfmfopbcgohdgaa
open Go.RowKit
set_option linter.unusedSimpArgs false
set_option linter.unusedVariables false

theorem exec_make {w w' : World} {a : Act} {o : Oper} {v : Value} {n : Int} (hrun : (Instr.makeSlice 29 (.int .i64 n) (.int .i64 n)).run Try.prog w = .ok v w') (x : Operand) (ho : o.op = .makeSlice 29 x x) (hx : a.eval x = .int .i64 n) : (execOp a.eval o).run Try.prog w = .ok (.value v) w' := by
  unfold execOp
  simp only [ho, hx, Sem.run_bind, Sem.run_pure, Result.andThen_ok, hrun]
theorem exec_conv {w w' : World} {a : Act} {o : Oper} {v u : Value} (x : Operand) (hrun : (convert 29 9 u).run Try.prog w = .ok v w') (ho : o.op = .convert 29 9 x) (hx : a.eval x = u) : (execOp a.eval o).run Try.prog w = .ok (.value v) w' := by
  unfold execOp
  simp only [ho, hx, Sem.run_bind, Sem.run_pure, Result.andThen_ok, hrun]
theorem z16_range : (⟨((List.range 16).map fun _ => (0 : UInt8)).toArray⟩ : ByteArray) = Z16 := by decide +kernel
set_option maxRecDepth 100000 in
set_option maxHeartbeats 2000000 in
theorem second_out (key s : ByteArray) (w : World) (h : key.size ≠ 32 ∨ 512 < s.size) :
    Calls Try.prog 5 #[.string key, .string s] w fun e w' => e = .returned (.bool true) ∧ Mod (fun _ => False) w w' := by
  by_cases h1 : key.size = 32
  · have hc : (((key.size : Nat) : Int) != 32) = false := by rw [bne_eq_false_iff_eq]; omega
    have hd : (512 : Int) < ((s.size : Nat) : Int) := by omega
    clear h
    go_enter Try.func5, Try.ntmps5
    go_wp2_with fail
    refine (awake_any _).mono ?_
    rintro e w2 ⟨rfl, m2⟩
    go_wp2_with fail
    go_ret
    exact ⟨rfl, m2⟩
  · have hc : (((key.size : Nat) : Int) != 32) = true := by rw [bne_iff_ne]; omega
    clear h
    go_enter Try.func5, Try.ntmps5
    go_wp2_with fail
    refine (awake_any _).mono ?_
    rintro e w2 ⟨rfl, m2⟩
    go_wp2_with fail
    go_ret
    exact ⟨rfl, m2⟩
set_option maxRecDepth 100000 in
set_option maxHeartbeats 2000000 in
theorem second_in (key s : ByteArray) (w : World) (hk : key.size = 32) (hs : s.size ≤ 512) :
    Calls Try.prog 5 #[.string key, .string s] w fun e w' => e = .returned (.bool true) ∧ Mod (fun _ => False) w w' := by
  obtain ⟨Z, hmk0, hrow⟩ := make_bytes 16 (by omega) w.drew
  have hmk : (Instr.makeSlice 29 (.int .i64 16) (.int .i64 16)).run Try.prog w.drew = .ok (.slice (some ⟨w.heap.size, 0, none⟩) 16 16) ((w.drew).alloc (.cells Z 5)) := hmk0
  clear hmk0
  have hcv : (convert 29 9 (.slice (some ⟨w.heap.size, 0, none⟩) 16 16)).run Try.prog ((w.drew).alloc (.cells Z 5)) = .ok (.string Z16) ((w.drew).alloc (.cells Z 5)) := by
    have := row_str 16 (C := 16) hrow
    rw [z16_range] at this
    exact this
  clear hrow
  have hc : (((key.size : Nat) : Int) != 32) = false := by rw [bne_eq_false_iff_eq]; omega
  have hd : ¬ (512 : Int) < ((s.size : Nat) : Int) := by omega
  have hk16 : (16 : Int) ≤ ((key.size : Nat) : Int) := by omega
  have HKE : Hid ((key.extract 0 16).size = 16) := by show _ = _; simp; omega
  obtain ⟨K2, HK2⟩ : ∃ K2, Hid (key.extract 16 key.size = K2) := ⟨_, rfl⟩
  have HK2S : Hid (K2.size = 16) := by show _ = _; rw [← HK2.out]; simp; omega
  obtain ⟨k1, HK1⟩ : ∃ k1, Hid (Z16 ++ K2 = k1) := ⟨_, rfl⟩
  have HK1S : Hid (k1.size = 32) := by show _ = _; rw [← HK1.out, app_size, HK2S.out]; rfl
  have HMK1 : Hid (macS k1 s = K2) := by show _ = _; rw [← HK1.out, second_zero K2 s HK2S.out]
  obtain ⟨cl, HCL⟩ : ∃ cl, Hid (clS (key.extract 0 16) = cl) := ⟨_, rfl⟩
  obtain ⟨k3, HK3⟩ : ∃ k3, Hid (cl ++ K2 = k3) := ⟨_, rfl⟩
  have HK3S : Hid (k3.size = 32) := by show _ = _; rw [← HK3.out, app_size, HK2S.out, ← HCL.out, clS_size]
  obtain ⟨T, HMK⟩ : ∃ T, Hid (macS key s = T) := ⟨_, rfl⟩
  have HMK3 : Hid (macS k3 s = T) := by show _ = _; rw [← HK3.out, ← HCL.out, ← HK2.out, second_clamped key s hk, HMK.out]
  have HK := Lib.hid hk
  have HS0 : Hid (Mod (fun _ => False) w w.drew) := (Mod.refl _ _).drew
  have HSA : Hid (Mod (fun _ => False) w ((w.drew).alloc (.cells Z 5))) := HS0.out.alloc _
  have hk2s : ((key.size : Nat)) - 16 = 16 := by omega
  have hbd : ¬ 9223372036854775807 < Z16.size + K2.size := by rw [HK2S.out, show Z16.size = 16 from rfl]; omega
  have hk2 := HK2.out
  have hbd3 : ¬ 9223372036854775807 < cl.size + K2.size := by rw [HK2S.out, ← HCL.out, clS_size]; omega
  clear hk
  go_enter Try.func5, Try.ntmps5
  go_upto_region 3 with fail
  refine wp_region_held_drew (S := (fun W => Mod (fun _ => False) w W)) (by kernel_rfl) HS0.out (fun hHeld => ?_)
  refine held_take 2 25 (v := ?_) rfl rfl (by kernel_rfl) (by kernel_rfl) (by kernel_rfl) (fun _ _ _ _ h => h) (by rfl) ?_ hHeld ?_
  rotate_left; · (intro w hSw; clear hSw; go_simp; first | done | with_reducible rfl)
  simp only [List.setIfInBounds_toArray, List.set_cons_zero, List.set_cons_succ]
  refine held_take 3 26 (v := .string K2) rfl rfl (by kernel_rfl) (by kernel_rfl) (by kernel_rfl) (fun _ _ _ _ h => h) (by rfl) ?_ hHeld ?_
  · (intro W hSW; clear hSW; go_simp; first | done | with_reducible rfl)
  simp only [List.setIfInBounds_toArray, List.set_cons_zero, List.set_cons_succ]
  refine held_take 5 28 (v := ?_) rfl rfl (by kernel_rfl) (by kernel_rfl) (by kernel_rfl) (fun _ _ _ _ h => h) (by rfl) ?_ hHeld ?_
  rotate_left; · (intro w hSw; clear hSw; go_simp; first | done | with_reducible rfl)
  simp only [List.setIfInBounds_toArray, List.set_cons_zero, List.set_cons_succ]
  refine held_make 0 23 rfl rfl (by kernel_rfl) (by rfl) (v := .slice (some ⟨w.heap.size, 0, none⟩) 16 16) (w' := (w.drew).alloc (.cells Z 5)) ?_ ?_ (fun hNew => ?_)
  · (first | exact exec_make hmk _ rfl rfl | (unfold execOp; simp only [hmk]; rfl))
  · exact HSA.out
  clear hHeld; have hHeld := hNew; clear hNew
  simp only [List.setIfInBounds_toArray, List.set_cons_zero, List.set_cons_succ]
  refine held_make 1 24 rfl rfl (by kernel_rfl) (by rfl) (v := .string Z16) (w' := (w.drew).alloc (.cells Z 5)) ?_ ?_ (fun hNew => ?_)
  · (first | exact exec_conv _ hcv rfl rfl | (unfold execOp; simp only [hcv]; rfl))
  · exact HSA.out
  clear hHeld; have hHeld := hNew; clear hNew
  simp only [List.setIfInBounds_toArray, List.set_cons_zero, List.set_cons_succ]
  refine held_take 4 27 (v := .string k1) rfl rfl (by kernel_rfl) (by kernel_rfl) (by kernel_rfl) (fun _ _ _ _ h => h) (by rfl) ?_ hHeld ?_
  · (intro W hSW; clear hSW; go_simp; first | done | (exact HK1.out) | (rw [if_neg hbd, HK1.out]; done))
  simp only [List.setIfInBounds_toArray, List.set_cons_zero, List.set_cons_succ]
  refine held_call 6 29 rfl rfl (by kernel_rfl) (by rfl) (f := 9) (args := ?_) ?_ ?_
  rotate_left; · (go_simp; first | done | with_reducible rfl)
  refine (mac_ok k1 s _ HK1S.out (by omega)).mono ?_
  rintro e w1 ⟨rfl, m29⟩
  rw [HMK1.out]
  refine ⟨_, rfl, hHeld.tr m29, fun hNew => ?_⟩; clear hHeld; have hHeld := hNew; clear hNew
  simp only [List.setIfInBounds_toArray, List.set_cons_zero, List.set_cons_succ]
  refine held_take 7 22 (v := ?_) rfl rfl (by kernel_rfl) (by kernel_rfl) (by kernel_rfl) (fun _ _ _ _ h => h) (by rfl) ?_ hHeld ?_
  rotate_left; · (intro w hSw; clear hSw; go_simp; first | done | with_reducible rfl)
  simp only [List.setIfInBounds_toArray, List.set_cons_zero, List.set_cons_succ]
  refine held_take 8 30 (v := ?_) rfl rfl (by kernel_rfl) (by kernel_rfl) (by kernel_rfl) (fun _ _ _ _ h => h) (by rfl) ?_ hHeld ?_
  rotate_left; · (intro w hSw; clear hSw; go_simp; first | done | with_reducible rfl)
  simp only [List.setIfInBounds_toArray, List.set_cons_zero, List.set_cons_succ]
  refine held_take 9 31 (v := ?_) rfl rfl (by kernel_rfl) (by kernel_rfl) (by kernel_rfl) (fun _ _ _ _ h => h) (by rfl) ?_ hHeld ?_
  rotate_left; · (intro w hSw; clear hSw; go_simp; first | done | with_reducible rfl)
  simp only [List.setIfInBounds_toArray, List.set_cons_zero, List.set_cons_succ]
  refine held_take 10 5 (v := ?_) rfl rfl (by kernel_rfl) (by kernel_rfl) (by kernel_rfl) (fun _ _ _ _ h => h) (by rfl) ?_ hHeld ?_
  rotate_left; · (intro w hSw; clear hSw; go_simp; first | done | with_reducible rfl)
  simp only [List.setIfInBounds_toArray, List.set_cons_zero, List.set_cons_succ]
  refine held_take 11 6 (v := ?_) rfl rfl (by kernel_rfl) (by kernel_rfl) (by kernel_rfl) (fun _ _ _ _ h => h) (by rfl) ?_ hHeld ?_
  rotate_left; · (intro w hSw; clear hSw; go_simp; first | done | with_reducible rfl)
  simp only [List.setIfInBounds_toArray, List.set_cons_zero, List.set_cons_succ]
  refine wpAnyH_done (by kernel_rfl) ?_ _
  have HM1 := Lib.hid hHeld
  clear hHeld
  go_wp2_with fail
  refine (clamp_ok _ _ HKE.out).mono ?_
  rintro e w4 ⟨rfl, m4⟩
  have HM4 := Lib.hid (HM1.out.tr m4)
  clear m4
  rw [HCL.out]
  go_wp2_with fail
  refine (mac_ok key s _ HK.out (by omega)).mono ?_
  rintro e w5 ⟨rfl, m5⟩
  have HM5 := Lib.hid (HM4.out.tr m5)
  clear m5
  rw [HMK.out]
  go_wp2_with fail
  rw [HK3.out]
  refine (mac_ok k3 s _ HK3S.out (by omega)).mono ?_
  rintro e w6 ⟨rfl, m6⟩
  have HM6 := Lib.hid (HM5.out.tr m6)
  clear m6
  rw [HMK3.out]
  go_wp2_with fail
  refine (awake_any _).mono ?_
  rintro e w7 ⟨rfl, m7⟩
  go_wp2_with fail
  go_ret
  exact ⟨rfl, HM6.out.tr m7⟩
theorem second_any (key s : ByteArray) (w : World) : Calls Try.prog 5 #[.string key, .string s] w fun e w' => e = .returned (.bool true) ∧ Mod (fun _ => False) w w' := by
  by_cases h : key.size ≠ 32 ∨ 512 < s.size
  · exact second_out key s w h
  · exact second_in key s w (by omega) (by omega)
end Go.Proofs.Ytfmfopbcgohdgaa
