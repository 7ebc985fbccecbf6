/- The reference's schedule: the walk. -/
import Derived.Test.YtpnpmploaaenlaaMS8
namespace Go.Proofs.Ytpnpmploaaenlaa
open Go.RowKit
set_option linter.unusedSimpArgs false
set_option linter.unusedVariables false
structure SchedWord (b : ByteArray) (X : Nat → Nat) : Prop where
  x0 : ∀ k, k < 16 → X k = Wd.wordAt true b k
  x1 : ∀ k m, k = m + 16 → X k = (X m + sg0 (X (m + 1)) + X (m + 9) + sg1 (X (m + 14))) % 4294967296
  xl : ∀ j, X j < 4294967296
set_option maxRecDepth 100000 in
set_option maxHeartbeats 4000000 in
theorem schedule_walk (b : ByteArray) (X : Nat → Nat) (hX : SchedWord b X) (hb : b.size = 64) (w : World) :
    Calls Try.prog 90 #[.string b] w fun e w' => ∃ v, e = .returned v ∧ AccI w w' v 64 X := by
  have HX := Lib.hid hX
  clear hX
  go_enter Try.func90, Try.ntmps90
  go_wp2_with (first | (go_at_call 71; refine (Wd.rbig_ok b _ (by omega) 16 hb).mono ?_; rintro e w1 ⟨v, rfl, own, hm1⟩))
  have hacc : AccI w w1 v 16 X := by
    refine ⟨?_, hm1⟩
    have e : natL 16 X = Wd.wordsL true b 16 := by
      unfold natL Wd.wordsL
      apply List.map_congr_left
      intro j hj
      rw [HX.out.x0 j (by simpa using hj)]
    rw [e]; exact own
  clear own hm1
  go_loopw [3, 5] (fun v i wr => ∃ k : Nat, 16 ≤ k ∧ k ≤ 64 ∧ i = .int .i64 (k : Int) ∧ AccI w wr v k X) (fun _ i _ => 64 - (intOf i).toNat)
  case atStart => exact ⟨16, by omega, by omega, rfl, hacc⟩
  case round =>
    obtain ⟨k, h16, hk, rfl, acc⟩ := hrel
    obtain ⟨a, cap, rfl⟩ := own_form acc.1
    obtain ⟨g, rfl, hg, hd⟩ := acc.dg (by omega)
    by_cases hlt : k < 64
    · obtain ⟨m, hm16⟩ : ∃ m, k = m + 16 := ⟨k - 16, by omega⟩
      have c0 := hd m (by omega)
      have c1 := hd (m + 1) (by omega)
      have c9 := hd (m + 9) (by omega)
      have c14 := hd (m + 14) (by omega)
      have hs := HX.out.x1 k m hm16
      have l0 := HX.out.xl m
      have l1 := HX.out.xl (m + 1)
      have l9 := HX.out.xl (m + 9)
      have l14 := HX.out.xl (m + 14)
      have HS := Lib.hid hs
      clear hs
      obtain ⟨x0, hx0⟩ : ∃ x, X m = x := ⟨_, rfl⟩
      rw [hx0] at c0 l0 HS
      obtain ⟨x1, hx1⟩ : ∃ x, X (m + 1) = x := ⟨_, rfl⟩
      rw [hx1] at c1 l1 HS
      obtain ⟨x9, hx9⟩ : ∃ x, X (m + 9) = x := ⟨_, rfl⟩
      rw [hx9] at c9 l9 HS
      obtain ⟨x14, hx14⟩ : ∃ x, X (m + 14) = x := ⟨_, rfl⟩
      rw [hx14] at c14 l14 HS
      clear hx1 hx14
      have hlt2 : (k : Int) < 64 := by omega
      have b0 : ((m : Nat) : Int) < (k : Int) := by omega
      have b1 : ((m + 1 : Nat) : Int) < (k : Int) := by omega
      have b9 : ((m + 9 : Nat) : Int) < (k : Int) := by omega
      have b14 : ((m + 14 : Nat) : Int) < (k : Int) := by omega
      have b9' : (m : Int) + 9 < (k : Int) := by omega
      have b1' : (m : Int) + 1 < (k : Int) := by omega
      have b14' : (m : Int) + 14 < (k : Int) := by omega
      have p9 : 0 ≤ (m : Int) + 9 := by omega
      have t9 : ((m : Int) + 9).toNat = m + 9 := by omega
      have w15 : IntKind.i64.wrap ((k : Int) - 15) = ((m + 1 : Nat) : Int) := by rw [IntKind.wrap_i64]; omega
      have w2 : IntKind.i64.wrap ((k : Int) - 2) = ((m + 14 : Nat) : Int) := by rw [IntKind.wrap_i64]; omega
      have w16 : IntKind.i64.wrap ((k : Int) - 16) = ((m : Nat) : Int) := by rw [IntKind.wrap_i64]; omega
      have w7 : IntKind.i64.wrap ((k : Int) - 7) = ((m + 9 : Nat) : Int) := by rw [IntKind.wrap_i64]; omega
      have HK := Lib.hid hm16
      have HA := Lib.hid acc
      clear hm16 acc hd
      go_wp2_with fail
      go_quiet (fail)
      go_wp2_with (go_at_call 92; refine (rright_c _ (by assumption) _ (by decide) _).mono ?_; rintro e w' ⟨rfl, n1, rfl⟩)
      rw [sg0_r x1 l1, sg1_r x14 l14]
      obtain ⟨A, hA⟩ : ∃ A, sg0 x1 = A := ⟨_, rfl⟩
      obtain ⟨B, hB⟩ : ∃ B, sg1 x14 = B := ⟨_, rfl⟩
      have hAl : A < 4294967296 := by rw [← hA]; exact xor_lt32 (xor_lt32 (Wd.rotN_lt _ _ l1) (Wd.rotN_lt _ _ l1)) (by omega)
      have hBl : B < 4294967296 := by rw [← hB]; exact xor_lt32 (xor_lt32 (Wd.rotN_lt _ _ l14) (Wd.rotN_lt _ _ l14)) (by omega)
      rw [hA, hB] at HS ⊢
      clear hA hB
      have hv : IntKind.i64.wrap (IntKind.i64.wrap (IntKind.i64.wrap ((x0 : Int) + (A : Int)) + (x9 : Int)) + (B : Int)) % 4294967296 = (X k : Int) := by rw [HS.out]; exact sch_r x0 A x9 B l0 hAl l9 hBl
      refine wp_region_held_any (S := (fun w' => w'.cell? ⟨g, m, none⟩ = some (.int .i64 (x0 : Int)) ∧ w'.cell? ⟨g, m + 9, none⟩ = some (.int .i64 (x9 : Int)))) (by kernel_rfl) (fun wd hwd => ?_)
      have HA2 : Hid (AccI w wd (.slice (some ⟨g, 0, none⟩) k cap) k X) := by subst hwd; exact (HA.out.drewN _).drew
      have c0' : wd.cell? ⟨g, m, none⟩ = some (.int .i64 (x0 : Int)) := by subst hwd; exact c0
      have c9' : wd.cell? ⟨g, m + 9, none⟩ = some (.int .i64 (x9 : Int)) := by subst hwd; exact c9
      clear hwd c0 c1 c9 c14 HA
      obtain ⟨v', w3, hrun, acc3, dg3⟩ := pushI HA2.out (by omega) (by omega) _ rfl
      have HS2 : Hid ((wd.alloc (.cells #[.int .i64 (X k : Int)] 3)).cell? ⟨g, m, none⟩ = some (.int .i64 (x0 : Int)) ∧ (wd.alloc (.cells #[.int .i64 (X k : Int)] 3)).cell? ⟨g, m + 9, none⟩ = some (.int .i64 (x9 : Int))) :=
        ⟨((Mod.refl _ wd).alloc _).at c0', ((Mod.refl _ wd).alloc _).at c9'⟩
      have HS3 : Hid (w3.cell? ⟨g, m, none⟩ = some (.int .i64 (x0 : Int)) ∧ w3.cell? ⟨g, m + 9, none⟩ = some (.int .i64 (x9 : Int))) :=
        ⟨by rw [dg3 m (by omega), hx0], by rw [dg3 (m + 9) (by omega), hx9]⟩
      refine ⟨⟨c0', c9'⟩, fun hHeld => ?_⟩
      refine held_take 0 45 (v := ?_) rfl rfl (by kernel_rfl) (by kernel_rfl) (by kernel_rfl) (fun _ _ _ _ h => h) (by rfl) ?_ hHeld ?_
      rotate_left; · (intro w hSw; clear hSw; go_simp; first | done | with_reducible rfl)
      simp only [List.setIfInBounds_toArray, List.set_cons_zero, List.set_cons_succ]
      refine held_take 1 46 (v := ?_) rfl rfl (by kernel_rfl) (by kernel_rfl) (by kernel_rfl) (fun _ _ _ _ h => h) (by rfl) ?_ hHeld ?_
      rotate_left; · (intro w hSw; clear hSw; go_simp; first | done | with_reducible rfl)
      simp only [List.setIfInBounds_toArray, List.set_cons_zero, List.set_cons_succ]
      refine held_take 2 47 (v := ?_) rfl rfl (by kernel_rfl) (by kernel_rfl) (by kernel_rfl) (fun _ _ _ _ h => h) (by rfl) ?_ hHeld ?_
      rotate_left; · (intro w hSw; clear hSw; go_simp; first | done | with_reducible rfl)
      simp only [List.setIfInBounds_toArray, List.set_cons_zero, List.set_cons_succ]
      refine held_take 3 48 (v := ?_) rfl rfl (by kernel_rfl) (by kernel_rfl) (by kernel_rfl) (fun _ _ _ _ h => h) (by rfl) ?_ hHeld ?_
      rotate_left; · (intro w hSw; clear hSw; go_simp; first | done | with_reducible rfl)
      simp only [List.setIfInBounds_toArray, List.set_cons_zero, List.set_cons_succ]
      refine held_take 4 49 (v := ?_) rfl rfl (by kernel_rfl) (by kernel_rfl) (by kernel_rfl) (fun _ _ _ _ h => h) (by rfl) ?_ hHeld ?_
      rotate_left; · (intro w hSw; clear hSw; go_simp; first | done | with_reducible rfl)
      simp only [List.setIfInBounds_toArray, List.set_cons_zero, List.set_cons_succ]
      refine held_take 5 50 (v := ?_) rfl rfl (by kernel_rfl) (by kernel_rfl) (by kernel_rfl) (fun _ _ _ _ h => h) (by rfl) ?_ hHeld ?_
      rotate_left; · (intro w hSw; obtain ⟨hS0, hS1⟩ := hSw; go_simp; first | done | with_reducible rfl)
      simp only [List.setIfInBounds_toArray, List.set_cons_zero, List.set_cons_succ]
      refine held_take 6 51 (v := ?_) rfl rfl (by kernel_rfl) (by kernel_rfl) (by kernel_rfl) (fun _ _ _ _ h => h) (by rfl) ?_ hHeld ?_
      rotate_left; · (intro w hSw; clear hSw; go_simp; first | done | with_reducible rfl)
      simp only [List.setIfInBounds_toArray, List.set_cons_zero, List.set_cons_succ]
      refine held_take 7 52 (v := ?_) rfl rfl (by kernel_rfl) (by kernel_rfl) (by kernel_rfl) (fun _ _ _ _ h => h) (by rfl) ?_ hHeld ?_
      rotate_left; · (intro w hSw; clear hSw; go_simp; first | done | with_reducible rfl)
      simp only [List.setIfInBounds_toArray, List.set_cons_zero, List.set_cons_succ]
      refine held_take 8 53 (v := ?_) rfl rfl (by kernel_rfl) (by kernel_rfl) (by kernel_rfl) (fun _ _ _ _ h => h) (by rfl) ?_ hHeld ?_
      rotate_left; · (intro w hSw; clear hSw; go_simp; first | done | with_reducible rfl)
      simp only [List.setIfInBounds_toArray, List.set_cons_zero, List.set_cons_succ]
      refine held_take 9 54 (v := ?_) rfl rfl (by kernel_rfl) (by kernel_rfl) (by kernel_rfl) (fun _ _ _ _ h => h) (by rfl) ?_ hHeld ?_
      rotate_left; · (intro w hSw; clear hSw; go_simp; first | done | with_reducible rfl)
      simp only [List.setIfInBounds_toArray, List.set_cons_zero, List.set_cons_succ]
      refine held_take 10 55 (v := ?_) rfl rfl (by kernel_rfl) (by kernel_rfl) (by kernel_rfl) (fun _ _ _ _ h => h) (by rfl) ?_ hHeld ?_
      rotate_left; · (intro w hSw; clear hSw; go_simp; first | done | with_reducible rfl)
      simp only [List.setIfInBounds_toArray, List.set_cons_zero, List.set_cons_succ]
      refine held_take 11 56 (v := ?_) rfl rfl (by kernel_rfl) (by kernel_rfl) (by kernel_rfl) (fun _ _ _ _ h => h) (by rfl) ?_ hHeld ?_
      rotate_left; · (intro w hSw; clear hSw; go_simp; first | done | with_reducible rfl)
      simp only [List.setIfInBounds_toArray, List.set_cons_zero, List.set_cons_succ]
      refine held_take 12 57 (v := ?_) rfl rfl (by kernel_rfl) (by kernel_rfl) (by kernel_rfl) (fun _ _ _ _ h => h) (by rfl) ?_ hHeld ?_
      rotate_left; · (intro w hSw; obtain ⟨hS0, hS1⟩ := hSw; go_simp; first | done | with_reducible rfl)
      simp only [List.setIfInBounds_toArray, List.set_cons_zero, List.set_cons_succ]
      refine held_take 13 58 (v := ?_) rfl rfl (by kernel_rfl) (by kernel_rfl) (by kernel_rfl) (fun _ _ _ _ h => h) (by rfl) ?_ hHeld ?_
      rotate_left; · (intro w hSw; clear hSw; go_simp; first | done | with_reducible rfl)
      simp only [List.setIfInBounds_toArray, List.set_cons_zero, List.set_cons_succ]
      refine held_take 14 59 (v := ?_) rfl rfl (by kernel_rfl) (by kernel_rfl) (by kernel_rfl) (fun _ _ _ _ h => h) (by rfl) ?_ hHeld ?_
      rotate_left; · (intro w hSw; clear hSw; go_simp; first | done | with_reducible rfl)
      simp only [List.setIfInBounds_toArray, List.set_cons_zero, List.set_cons_succ]
      refine held_take 15 60 (v := ?_) rfl rfl (by kernel_rfl) (by kernel_rfl) (by kernel_rfl) (fun _ _ _ _ h => h) (by rfl) ?_ hHeld ?_
      rotate_left; · (intro w hSw; clear hSw; go_simp; first | done | with_reducible rfl)
      simp only [List.setIfInBounds_toArray, List.set_cons_zero, List.set_cons_succ]
      refine held_call 16 61 rfl rfl (by kernel_rfl) (by rfl) (f := 77) (args := ?_) ?_ ?_
      rotate_left; · (go_simp; first | done | with_reducible rfl)
      refine (Wd.word_any _ _).mono ?_
      rintro e w' ⟨rfl, rfl⟩
      refine ⟨_, rfl, hHeld, fun hNew => ?_⟩; clear hHeld; have hHeld := hNew; clear hNew
      simp only [List.setIfInBounds_toArray, List.set_cons_zero, List.set_cons_succ]
      refine held_make 17 62 rfl rfl (by kernel_rfl) (by rfl) (v := .slice (some ⟨wd.heap.size, 0, none⟩) 1 1) (w' := wd.alloc (.cells #[.int .i64 (X k : Int)] 3)) ?_ ?_ (fun hNew => ?_)
      · (go_simp; first | done | rw [hv])
      · exact HS2.out
      clear hHeld; have hHeld := hNew; clear hNew
      simp only [List.setIfInBounds_toArray, List.set_cons_zero, List.set_cons_succ]
      refine held_make 18 63 rfl rfl (by kernel_rfl) (by rfl) (v := v') (w' := w3) ?_ ?_ (fun hNew => ?_)
      · (exact Wd.op_append (.tmp 45) (.tmp 62) 47 47 rfl rfl rfl rfl hrun)
      · exact HS3.out
      clear hHeld; have hHeld := hNew; clear hNew
      simp only [List.setIfInBounds_toArray, List.set_cons_zero, List.set_cons_succ]
      refine held_take 19 3 (v := ?_) rfl rfl (by kernel_rfl) (by kernel_rfl) (by kernel_rfl) (fun _ _ _ _ h => h) (by rfl) ?_ hHeld ?_
      rotate_left; · (intro w hSw; clear hSw; go_simp; first | done | with_reducible rfl)
      simp only [List.setIfInBounds_toArray, List.set_cons_zero, List.set_cons_succ]
      refine wpAnyH_done (by kernel_rfl) ?_ _
      skip
      go_wp2_with fail
      go_roundw
      case rel => exact ⟨k + 1, by omega, by omega, by go_num, acc3⟩
      case measure => simp [intOf]; omega
    · obtain rfl : k = 64 := by omega
      go_wp2_with fail
      go_ret
      exact ⟨_, rfl, acc⟩
theorem sched_word (b : ByteArray) : SchedWord b (sched (wordB b)) :=
  ⟨fun k hk => sched_low _ k hk, fun k m e => by subst e; exact sched_high (wordB b) (m + 16) (by omega), sched_lt _ (wordAt_lt b)⟩
theorem schedule_any (b : ByteArray) (hb : b.size = 64) (w : World) :
    Calls Try.prog 90 #[.string b] w fun e w' => (∃ g c, e = .returned (.slice (some ⟨g, 0, none⟩) 64 c) ∧ w.heap.size ≤ g ∧ Dg w' g 64 (sched (wordB b))) ∧ Mod (fun _ => False) w w' := by
  refine (schedule_walk b _ (sched_word b) hb w).mono ?_
  rintro e w' ⟨v, rfl, acc⟩
  obtain ⟨a, c, rfl⟩ := own_form acc.1
  obtain ⟨g, rfl, hg, hd⟩ := acc.dg (by decide)
  exact ⟨⟨g, c, rfl, hg, hd⟩, acc.2⟩
end Go.Proofs.Ytpnpmploaaenlaa
