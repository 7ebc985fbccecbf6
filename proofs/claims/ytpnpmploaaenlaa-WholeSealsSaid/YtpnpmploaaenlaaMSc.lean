/- The reference's block: the walk. -/
import Derived.Test.YtpnpmploaaenlaaMSa
import Derived.Test.YtpnpmploaaenlaaMSv
namespace Go.Proofs.Ytpnpmploaaenlaa
open Go.RowKit
set_option linter.unusedSimpArgs false
set_option linter.unusedVariables false
theorem rbig_dg (s : ByteArray) (w : World) (hs : s.size ≤ 100000) (m : Nat) (hm : s.size = 4 * m) (h0 : 0 < m) (z : Nat → Nat) (hz : ∀ j, j < m → wordB s j = z j) :
    Calls Try.prog 71 #[.string s] w fun e w' => (∃ g c, e = .returned (.tuple #[.slice (some ⟨g, 0, none⟩) m c, .int .i64 0]) ∧ w.heap.size ≤ g ∧ Dg w' g m z) ∧ Mod (fun _ => False) w w' := by
  refine (Wd.rbig_ok s w hs m hm).mono ?_
  rintro e w' ⟨v, rfl, own, mm⟩
  obtain ⟨a, c, rfl⟩ := own_form own
  obtain ⟨g, rfl, hg, hc⟩ := own_dg own h0
  refine ⟨⟨g, c, rfl, hg, fun k hk => hc k _ hk ?_⟩, mm⟩
  unfold Wd.wordsL
  rw [List.getElem?_map, List.getElem?_range hk, ← hz k hk]
  rfl
set_option maxRecDepth 100000 in
set_option maxHeartbeats 8000000 in
theorem rblock_walk (h : Nat → Nat) (b : ByteArray) (R X K : Nat → Nat) (Y : Nat → Nat → Nat) (hS : StepWord h b R X K Y)
    (sc : ∀ w, Calls Try.prog 90 #[.string b] w fun e w' => (∃ g c, e = .returned (.slice (some ⟨g, 0, none⟩) 64 c) ∧ w.heap.size ≤ g ∧ Dg w' g 64 X) ∧ Mod (fun _ => False) w w')
    (kc : ∀ w, Calls Try.prog 91 #[] w fun e w' => e = .returned (.slice (some ⟨w.heap.size, 0, none⟩) 64 64) ∧ Dg w' w.heap.size 64 K ∧ Mod (fun _ => False) w w')
    (st : ByteArray) (hst : st.size = 32) (hw : ∀ j, j < 8 → wordB st j = h j) (hb : b.size = 64) (w : World) :
    Calls Try.prog 84 #[.string st, .string b] w fun e w' => e = .returned (.tuple #[.string ⟨(Wd.putL (fun j => (R j : Int)) 8).toArray⟩, .int .i64 0]) ∧ Mod (fun _ => False) w w' := by
  have HS := Lib.hid hS
  have HW := Lib.hid hw
  clear hS hw
  go_enter Try.func84, Try.ntmps84
  go_upto_region 4 with (go_at_call 90; refine (sc _).mono ?_; rintro e w1 ⟨⟨g6, c6, rfl, hg6, d6⟩, hm1⟩)
  have D6 := Lib.hid d6
  clear d6 hg6
  go_upto_region 5 with (go_at_call 91; refine (kc _).mono ?_; rintro e w2 ⟨rfl, d7, hm2⟩)
  obtain ⟨g7, hg7⟩ : ∃ g, w1.heap.size = g := ⟨_, rfl⟩
  rw [hg7] at d7 ⊢
  have D7 := Lib.hid d7
  have D6b := Lib.hid (D6.out.mod hm2)
  have M2 := Lib.hid (hm1.tr hm2)
  clear d7 hg7 D6 hm1 hm2
  go_upto_region 6 with (go_at_call 71; refine (rbig_dg st _ (by omega) 8 hst (by decide) h HW.out).mono ?_; rintro e w3 ⟨⟨g8, c8, rfl, hg8, d8⟩, hm3⟩)
  have D8 := Lib.hid d8
  have D6c := Lib.hid (D6b.out.mod hm3)
  have D7c := Lib.hid (D7.out.mod hm3)
  have M3 := Lib.hid (M2.out.tr hm3)
  clear d8 D6b D7 M2 hm3 hg8
  go_upto_region 7 with (go_at_call 71; refine (rbig_dg st _ (by omega) 8 hst (by decide) h HW.out).mono ?_; rintro e w4 ⟨⟨g10, c10, rfl, hg10, d10⟩, hm4⟩)
  have HD := Lib.hid (And.intro (D6c.out.mod hm4) (And.intro (D7c.out.mod hm4) (And.intro (D8.out.mod hm4) (And.intro (M3.out.tr hm4) d10))))
  clear d10 D6c D7c D8 M3 hm4 hg10
  go_wp2_with fail
  go_loopw [10, 12] (fun x i wr => ∃ k g c : Nat, k ≤ 64 ∧ i = .int .i64 (k : Int) ∧ x = .slice (some ⟨g, 0, none⟩) 8 c ∧ Dg wr g6 64 X ∧ Dg wr g7 64 K ∧ Dg wr g8 8 h ∧ Mod (fun _ => False) w wr ∧ Dg wr g 8 (Y k)) (fun _ i _ => 64 - (intOf i).toNat)
  case atStart => exact ⟨0, g10, c10, by omega, rfl, rfl, HD.out.1, HD.out.2.1, HD.out.2.2.1, HD.out.2.2.2.1, by rw [HS.out.y0]; exact HD.out.2.2.2.2⟩
  case round =>
    obtain ⟨k, g, c, hk, rfl, rfl, e6, e7, e8, hm, ex⟩ := hrel
    clear HD
    by_cases hlt : k < 64
    · have hi0 : (0 : Int) ≤ (k : Int) := by omega
      have hlt2 : (k : Int) < 64 := by omega
      have v0 := ex 0 (by decide)
      have v1 := ex 1 (by decide)
      have v2 := ex 2 (by decide)
      have v3 := ex 3 (by decide)
      have v4 := ex 4 (by decide)
      have v5 := ex 5 (by decide)
      have v6 := ex 6 (by decide)
      have v7 := ex 7 (by decide)
      have ck := e7 k hlt
      have cx := e6 k hlt
      have hv := HS.out.yl k
      have HR := Lib.hid (show Y (k + 1) = rnd (Y k) (K k) (X k) from HS.out.y1 k)
      have HN := Lib.hid (And.intro e6 (And.intro e7 (And.intro e8 hm)))
      clear e6 e7 e8 hm ex
      obtain ⟨y, hy⟩ : ∃ y, Y k = y := ⟨_, rfl⟩
      rw [hy] at v0 v1 v2 v3 v4 v5 v6 v7 hv HR
      clear hy
      have lX := HS.out.xl k
      have lK := HS.out.kl k
      obtain ⟨XX, hXX⟩ : ∃ x, X k = x := ⟨_, rfl⟩
      rw [hXX] at cx lX HR
      clear hXX
      obtain ⟨KK, hKK⟩ : ∃ x, K k = x := ⟨_, rfl⟩
      rw [hKK] at ck lK HR
      clear hKK
      have y0 := hv 0
      have y1 := hv 1
      have y2 := hv 2
      have y3 := hv 3
      have y4 := hv 4
      have y5 := hv 5
      have y6 := hv 6
      have y7 := hv 7
      clear hv
      have hsg : (IntKind.i64.signed = true) = True := by simp [IntKind.signed]
      go_wp2_with fail
      go_quiet (fail)
      go_wp2_with fail
      go_quiet (fail)
      go_wp2_with fail
      refine wp_world (fun wq hwq => ?_)
      have u3 : wq.cell? ⟨g, 3, none⟩ = some (.int .i64 (y 3 : Int)) := by subst hwq; exact v3
      have u7 : wq.cell? ⟨g, 7, none⟩ = some (.int .i64 (y 7 : Int)) := by subst hwq; exact v7
      have uk : wq.cell? ⟨g7, k, none⟩ = some (.int .i64 (KK : Int)) := by subst hwq; exact ck
      have ux : wq.cell? ⟨g6, k, none⟩ = some (.int .i64 (XX : Int)) := by subst hwq; exact cx
      have HN2 : Hid (Dg wq g6 64 X ∧ Dg wq g7 64 K ∧ Dg wq g8 8 h ∧ Mod (fun _ => False) w wq) := by
        subst hwq
        obtain ⟨e6, e7, e8, hm⟩ := HN.out
        exact ⟨e6, e7, e8, (hm.tr (Mod.drewN _ _)).tr (Mod.drewN _ _)⟩
      clear hwq HN v0 v1 v2 v3 v4 v5 v6 v7 ck cx
      go_quiet (first | (go_at_call 92; refine Calls.quiet_of (rright_c _ ?_ _ ?_ _); (· assumption); (· decide)) | (go_at_call 77; exact Calls.quiet_of_same (Wd.word_same _ _)))
      go_wp2_with (first | (go_at_call 92; refine (rright_c _ (by assumption) _ (by decide) _).mono ?_; rintro e w' ⟨rfl, n1, rfl⟩) | (go_at_call 77; refine (Wd.word_same _ _).mono ?_; rintro e w' ⟨rfl, rfl⟩))
      rw [t_r y KK XX lK lX y4 y5 y6 y7, u_r y y0 y1 y2]
      obtain ⟨t, ht⟩ : ∃ t, rndT y KK XX % 4294967296 = t := ⟨_, rfl⟩
      obtain ⟨u, hu⟩ : ∃ u, rndU y % 4294967296 = u := ⟨_, rfl⟩
      rw [ht, hu]
      have HRo := Lib.hid ((rnd_pick y KK XX t u ht hu).trans HR.out.symm)
      have htl : t < 4294967296 := by rw [← ht]; exact Nat.mod_lt _ (by decide)
      have hul : u < 4294967296 := by rw [← hu]; exact Nat.mod_lt _ (by decide)
      clear ht hu HR
      have h14 : IntKind.i64.wrap ((t : Int) + (u : Int)) % 4294967296 = (((t + u) % 4294967296 : Nat) : Int) := sum2w t u htl hul
      have h15 : IntKind.i64.wrap ((y 3 : Int) + (t : Int)) % 4294967296 = (((y 3 + t) % 4294967296 : Nat) : Int) := sum2w (y 3) t y3 htl
      obtain ⟨p14, h14'⟩ : ∃ p, ((t + u) % 4294967296 : Nat) = p := ⟨_, rfl⟩
      obtain ⟨p15, h15'⟩ : ∃ p, ((y 3 + t) % 4294967296 : Nat) = p := ⟨_, rfl⟩
      rw [h14'] at h14 HRo
      rw [h15'] at h15 HRo
      clear h14' h15'
      refine wp_still_tail_any 16 (by kernel_rfl) (by kernel_rfl) (fun wd hwd => ?_)
      have x3 : wd.cell? ⟨g, 3, none⟩ = some (.int .i64 (y 3 : Int)) := by subst hwd; exact u3
      have HN3 : Hid (Dg wd g6 64 X ∧ Dg wd g7 64 K ∧ Dg wd g8 8 h ∧ Mod (fun _ => False) w wd) := by
        subst hwd
        obtain ⟨e6, e7, e8, hm⟩ := HN2.out
        exact ⟨e6, e7, e8, (hm.tr (Mod.drewN _ _)).drew⟩
      clear hwd HN2 u3 u7 uk ux
      simp only [List.take_succ_cons, List.take_zero, List.drop_succ_cons, List.drop_zero]
      repeat still_step
      still_call (Wd.word_same _ _)
      repeat still_step
      still_call (Wd.word_same _ _)
      repeat still_step
      refine wpStill_nil ?_
      go_wp2_with fail
      obtain ⟨e6, e7, e8, hm⟩ := HN3.out
      go_roundw
      case rel =>
        refine ⟨k + 1, _, _, by omega, by go_num, rfl, e6.mod ((Mod.refl _ _).alloc _), e7.mod ((Mod.refl _ _).alloc _), e8.mod ((Mod.refl _ _).alloc _), hm.alloc _, ?_⟩
        rw [← HRo.out]
        exact dg_new wd 8 _ _ (pick8_int _ _ _ _ _ _ _ _)
      case measure => simp [intOf]; omega
    · have h64 : k = 64 := by omega
      have hge : ¬ ((k : Int) < 64) := by omega
      obtain ⟨V, hV⟩ : ∃ V, V = Y k := ⟨_, rfl⟩
      rw [← hV] at ex
      have hVl : ∀ j, V j < 4294967296 := by rw [hV]; exact HS.out.yl k
      have HV := Lib.hid (show ∀ j, R j = (h j + V j) % 4294967296 by intro j; rw [hV, h64]; exact HS.out.r j)
      have HN := Lib.hid (And.intro e8 (And.intro ex hm))
      clear hV e6 e7 e8 ex hm
      go_wp2_with fail
      go_loopw [21, 22] (fun v i wx => ∃ k : Nat, k ≤ 8 ∧ i = .int .i64 (k : Int) ∧ AccI wr wx v k R) (fun _ i _ => 8 - (intOf i).toNat)
      case atStart => exact ⟨0, by omega, rfl, AccI.nil wr R⟩
      case round =>
        clear hge h64 hlt hk
        obtain ⟨k, hk, rfl, acc⟩ := hrel
        by_cases hlt : k < 8
        · have hi0 : (0 : Int) ≤ (k : Int) := by omega
          have hlt2 : (k : Int) < 8 := by omega
          have e8 := (HN.out.1.mod acc.2) k hlt
          have ex := (HN.out.2.1.mod acc.2) k hlt
          have hv : IntKind.i64.wrap ((h k : Int) + (V k : Int)) % 4294967296 = (R k : Int) := by rw [HV.out k]; exact sum2w _ _ (HS.out.hl k) (hVl k)
          have HA := Lib.hid acc
          clear acc
          go_wp2_with fail
          refine wp_region_held_any (S := (fun w' => w'.cell? ⟨g8, k, none⟩ = some (.int .i64 (h k : Int)) ∧ w'.cell? ⟨g, k, none⟩ = some (.int .i64 (V k : Int)))) (by kernel_rfl) (fun wd hwd => ?_)
          have HA2 := Lib.hid HA.out.drew
          rw [hwd] at HA2
          have e8' : wd.cell? ⟨g8, k, none⟩ = some (.int .i64 (h k : Int)) := by subst hwd; exact e8
          have ex' : wd.cell? ⟨g, k, none⟩ = some (.int .i64 (V k : Int)) := by subst hwd; exact ex
          clear hwd HA e8 ex
          obtain ⟨v', w3, hrun, acc3⟩ := pushI0 HA2.out (by omega) _ rfl
          have HS2 : Hid ((wd.alloc (.cells #[.int .i64 (R k : Int)] 3)).cell? ⟨g8, k, none⟩ = some (.int .i64 (h k : Int)) ∧ (wd.alloc (.cells #[.int .i64 (R k : Int)] 3)).cell? ⟨g, k, none⟩ = some (.int .i64 (V k : Int))) :=
            ⟨((Mod.refl _ wd).alloc _).at e8', ((Mod.refl _ wd).alloc _).at ex'⟩
          have HS3 : Hid (w3.cell? ⟨g8, k, none⟩ = some (.int .i64 (h k : Int)) ∧ w3.cell? ⟨g, k, none⟩ = some (.int .i64 (V k : Int))) :=
            ⟨(HN.out.1.mod acc3.2) k hlt, (HN.out.2.1.mod acc3.2) k hlt⟩
          refine ⟨⟨e8', ex'⟩, fun hHeld => ?_⟩
          refine held_take 0 141 (v := ?_) rfl rfl (by kernel_rfl) (by kernel_rfl) (by kernel_rfl) (fun _ _ _ _ h => h) (by rfl) ?_ hHeld ?_
          rotate_left; · (intro w hSw; clear hSw; go_simp; first | done | with_reducible rfl)
          simp only [List.setIfInBounds_toArray, List.set_cons_zero, List.set_cons_succ]
          refine held_take 1 142 (v := ?_) rfl rfl (by kernel_rfl) (by kernel_rfl) (by kernel_rfl) (fun _ _ _ _ h => h) (by rfl) ?_ hHeld ?_
          rotate_left; · (intro w hSw; clear hSw; go_simp; first | done | with_reducible rfl)
          simp only [List.setIfInBounds_toArray, List.set_cons_zero, List.set_cons_succ]
          refine held_take 2 143 (v := ?_) rfl rfl (by kernel_rfl) (by kernel_rfl) (by kernel_rfl) (fun _ _ _ _ h => h) (by rfl) ?_ hHeld ?_
          rotate_left; · (intro w hSw; clear hSw; go_simp; first | done | with_reducible rfl)
          simp only [List.setIfInBounds_toArray, List.set_cons_zero, List.set_cons_succ]
          refine held_take 3 144 (v := ?_) rfl rfl (by kernel_rfl) (by kernel_rfl) (by kernel_rfl) (fun _ _ _ _ h => h) (by rfl) ?_ hHeld ?_
          rotate_left; · (intro w hSw; clear hSw; go_simp; first | done | with_reducible rfl)
          simp only [List.setIfInBounds_toArray, List.set_cons_zero, List.set_cons_succ]
          refine held_take 4 145 (v := ?_) rfl rfl (by kernel_rfl) (by kernel_rfl) (by kernel_rfl) (fun _ _ _ _ h => h) (by rfl) ?_ hHeld ?_
          rotate_left; · (intro w hSw; obtain ⟨hS0, hS1⟩ := hSw; go_simp; first | done | with_reducible rfl)
          simp only [List.setIfInBounds_toArray, List.set_cons_zero, List.set_cons_succ]
          refine held_take 5 146 (v := ?_) rfl rfl (by kernel_rfl) (by kernel_rfl) (by kernel_rfl) (fun _ _ _ _ h => h) (by rfl) ?_ hHeld ?_
          rotate_left; · (intro w hSw; clear hSw; go_simp; first | done | with_reducible rfl)
          simp only [List.setIfInBounds_toArray, List.set_cons_zero, List.set_cons_succ]
          refine held_take 6 147 (v := ?_) rfl rfl (by kernel_rfl) (by kernel_rfl) (by kernel_rfl) (fun _ _ _ _ h => h) (by rfl) ?_ hHeld ?_
          rotate_left; · (intro w hSw; clear hSw; go_simp; first | done | with_reducible rfl)
          simp only [List.setIfInBounds_toArray, List.set_cons_zero, List.set_cons_succ]
          refine held_take 7 148 (v := ?_) rfl rfl (by kernel_rfl) (by kernel_rfl) (by kernel_rfl) (fun _ _ _ _ h => h) (by rfl) ?_ hHeld ?_
          rotate_left; · (intro w hSw; clear hSw; go_simp; first | done | with_reducible rfl)
          simp only [List.setIfInBounds_toArray, List.set_cons_zero, List.set_cons_succ]
          refine held_take 8 149 (v := ?_) rfl rfl (by kernel_rfl) (by kernel_rfl) (by kernel_rfl) (fun _ _ _ _ h => h) (by rfl) ?_ hHeld ?_
          rotate_left; · (intro w hSw; obtain ⟨hS0, hS1⟩ := hSw; go_simp; first | done | with_reducible rfl)
          simp only [List.setIfInBounds_toArray, List.set_cons_zero, List.set_cons_succ]
          refine held_take 9 150 (v := ?_) rfl rfl (by kernel_rfl) (by kernel_rfl) (by kernel_rfl) (fun _ _ _ _ h => h) (by rfl) ?_ hHeld ?_
          rotate_left; · (intro w hSw; clear hSw; go_simp; first | done | with_reducible rfl)
          simp only [List.setIfInBounds_toArray, List.set_cons_zero, List.set_cons_succ]
          refine held_call 10 151 rfl rfl (by kernel_rfl) (by rfl) (f := 77) (args := ?_) ?_ ?_
          rotate_left; · (go_simp; first | done | with_reducible rfl)
          refine (Wd.word_any _ _).mono ?_
          rintro e w' ⟨rfl, rfl⟩
          refine ⟨_, rfl, hHeld, fun hNew => ?_⟩; clear hHeld; have hHeld := hNew; clear hNew
          simp only [List.setIfInBounds_toArray, List.set_cons_zero, List.set_cons_succ]
          refine held_make 11 152 rfl rfl (by kernel_rfl) (by rfl) (v := .slice (some ⟨wd.heap.size, 0, none⟩) 1 1) (w' := wd.alloc (.cells #[.int .i64 (R k : Int)] 3)) ?_ ?_ (fun hNew => ?_)
          · (go_simp; first | done | rw [hv])
          · exact HS2.out
          clear hHeld; have hHeld := hNew; clear hNew
          simp only [List.setIfInBounds_toArray, List.set_cons_zero, List.set_cons_succ]
          refine held_make 12 153 rfl rfl (by kernel_rfl) (by rfl) (v := v') (w' := w3) ?_ ?_ (fun hNew => ?_)
          · (exact Wd.op_append (.tmp 141) (.tmp 152) 47 47 rfl rfl rfl rfl hrun)
          · exact HS3.out
          clear hHeld; have hHeld := hNew; clear hNew
          simp only [List.setIfInBounds_toArray, List.set_cons_zero, List.set_cons_succ]
          refine held_take 13 21 (v := ?_) rfl rfl (by kernel_rfl) (by kernel_rfl) (by kernel_rfl) (fun _ _ _ _ h => h) (by rfl) ?_ hHeld ?_
          rotate_left; · (intro w hSw; clear hSw; go_simp; first | done | with_reducible rfl)
          simp only [List.setIfInBounds_toArray, List.set_cons_zero, List.set_cons_succ]
          refine wpAnyH_done (by kernel_rfl) ?_ _
          skip
          go_wp2_with fail
          go_roundw
          case rel => exact ⟨k + 1, by omega, by go_num, acc3⟩
          case measure => simp [intOf]; omega
        · obtain rfl : k = 8 := by omega
          obtain ⟨a, c2, rfl⟩ := own_form acc.1
          have HI := Lib.hid (acc.ints (by decide))
          have HM := Lib.hid (HN.out.2.2.tr acc.2)
          clear acc
          go_wp2_with (go_at_call 54; refine (Wd.rputbig_any _ 8 _ _ _ (by decide) HI.out).mono ?_; rintro e w5 ⟨rfl, hm5⟩)
          go_ret2
          exact ⟨rfl, HM.out.tr hm5⟩
end Go.Proofs.Ytpnpmploaaenlaa
