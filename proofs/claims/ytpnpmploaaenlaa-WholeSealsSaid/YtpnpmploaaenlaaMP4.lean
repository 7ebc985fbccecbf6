/- A number below 2^130 - 5: the walk. -/
import Derived.Test.YtpnpmploaaenlaaMP3
import Derived.Test.YtpnpmploaaenlaaMN2
namespace Go.Proofs.Ytpnpmploaaenlaa
open Go.RowKit
set_option linter.unusedSimpArgs false
set_option linter.unusedVariables false

theorem whM_upd (f : Nat → Nat) (k x y : Nat) (hx : x = wh f (k + 1)) (hy : y = wh f k % 67108864) (j : Nat) : upd (upd (whM f k) (k + 1) x) k y j = whM f (k + 1) j := by
  unfold upd whM
  by_cases e : j = k
  · subst e; rw [if_pos rfl, if_pos (by omega), hy]
  · rw [if_neg e]
    by_cases e1 : j = k + 1
    · subst e1; rw [if_pos rfl, if_neg (by omega), if_pos rfl, hx]
    · rw [if_neg e1, if_neg e, if_neg e1]
      by_cases e2 : j < k
      · rw [if_pos e2, if_pos (by omega)]
      · rw [if_neg e2, if_neg (by omega)]
/-- How many rounds are still to come. -/
def left1 (w : World) (g : Nat) : Nat := match w.cell? ⟨g, 1, none⟩ with
  | some (.int _ n) => n.toNat / 67108864
  | _ => 0
theorem left1_num {w : World} {g : Nat} {f : Nat → Nat} (h : Num w g f) : left1 w g = f 1 / 67108864 := by
  unfold left1
  rw [h.cell 1 (by omega)]
  simp
set_option maxRecDepth 100000 in
set_option maxHeartbeats 2000000 in
theorem whole_any (f : Nat → Nat) (hf : ∀ j, j < 5 → f j < 134217728) (w : World) :
    Calls Try.prog 43 #[.agg (fiveV f)] w fun e w' => (∃ F, e = .returned (.agg (fiveV F)) ∧ val F = val f % P130 ∧ ∀ j, j < 5 → F j < 67108864) ∧ Mod (fun _ => False) w w' := by
  have HB := Lib.hid hf
  clear hf
  go_enter Try.func43, Try.ntmps43
  have HN : Hid (Num ((w.alloc (.cells (fiveV f) 61)).alloc (.cells (fiveV fun _ => 0) 61)) w.heap.size f) := (Num.new w f _ rfl).alloc _
  have HZ : Hid (Num ((w.alloc (.cells (fiveV f) 61)).alloc (.cells (fiveV fun _ => 0) 61)) (w.heap.size + 1) (fun _ => 0)) := Num.new _ (fun _ => 0) _ (by simp)
  go_wp2_with (refine wpList_load_row rfl 61 (.tmp 1) rfl _ rfl _ _ _ _ HN.out Try.underlying61 rfl (by kernel_rfl) ?_)
  refine (carried_any f (fun j hj => by have := HB.out j hj; omega) _).mono ?_
  rintro e w2 ⟨rfl, m2⟩
  have HM2 := Lib.hid (((Mod.refl (fun _ => False) w).alloc (.cells (fiveV f) 61)).alloc (.cells (fiveV fun _ => 0) 61) |>.tr m2)
  have HN2 := Lib.hid (HN.out.kept m2 (fun e => e))
  have HZ2 := Lib.hid (HZ.out.kept m2 (fun e => e))
  have HL := Lib.hid (car_once f HB.out)
  clear m2 HN HZ
  go_wp2_with (refine wpList_store_row rfl 61 (.tmp 1) (.tmp 6) rfl _ _ rfl rfl _ _ HN2.out (by kernel_rfl) rfl (five_one _) ?_)
  go_frame
  go_loopw [10] (fun v wr => (∃ F, Num wr w.heap.size F ∧ Lim F 2 ∧ val F % P130 = val f % P130) ∧ Num wr (w.heap.size + 1) (fun _ => 0) ∧ Mod (fun _ => False) w wr) (fun _ wr => left1 wr w.heap.size)
  case atStart =>
    refine ⟨⟨carR f, HN2.out.row _, HL.out, car_mod f⟩, ?_, HM2.out.row (fun hh => absurd hh (Nat.lt_irrefl _)) _⟩
    exact (setRow_other _ _ _ _ (by omega)).trans HZ2.out
  case round =>
    obtain ⟨⟨F, n0, lim, hmod⟩, n1, hm⟩ := hrel
    have hc1 := n0.cell 1 (by omega)
    have HLF := Lib.hid (left1_num n0)
    have h1 := lim.2.1
    by_cases hbig : 67108864 ≤ F 1
    · have HN3 := Lib.hid n0
      have HZ3 := Lib.hid n1
      have HM3 := Lib.hid hm
      have HMo := Lib.hid hmod
      have HLi := Lib.hid lim
      have hd : (0 : Int) < ((F 1 : Nat) : Int) / 67108864 := by omega
      have Hbig := Lib.hid hbig
      clear n0 n1 hm hmod lim
      go_wp2_with (refine wpList_load_row rfl 61 (.tmp 1) rfl _ rfl _ _ _ _ HN3.out Try.underlying61 rfl (by kernel_rfl) ?_)
      refine (carried_any F (fun j hj => by have := HLi.out.all j hj; omega) _).mono ?_
      rintro e w4 ⟨rfl, m4⟩
      have HM4 := Lib.hid (HM3.out.tr m4)
      have HN4 := Lib.hid (HN3.out.kept m4 (fun e => e))
      have HZ4 := Lib.hid (HZ3.out.kept m4 (fun e => e))
      clear m4
      go_wp2_with (refine wpList_store_row rfl 61 (.tmp 1) (.tmp 12) rfl _ _ rfl rfl _ _ HN4.out (by kernel_rfl) rfl (five_one _) ?_)
      go_frame
      have hl2 := car_twice F HLi.out Hbig.out
      have hm1 := left1_num (HN4.out.row (carR F))
      go_roundw
      case rel => exact ⟨⟨carR F, HN4.out.row _, ⟨hl2.1, by have := hl2.2.1; omega, hl2.2.2⟩, (car_mod F).trans HMo.out⟩, (setRow_other _ _ _ _ (by omega)).trans HZ4.out, HM4.out.row (fun hh => absurd hh (Nat.lt_irrefl _)) _⟩
      case measure =>
        have := hl2.2.1; have := HLF.out; have := Hbig.out
        omega
    · have hd : ((F 1 : Nat) : Int) / 67108864 = 0 := by omega
      have HN3 := Lib.hid n0
      have HZ3 := Lib.hid n1
      have HM3 := Lib.hid hm
      have HMo := Lib.hid hmod
      have hall : ∀ j, j < 5 → F j < 67108864 := by
        obtain ⟨l0, l1, l2, l3, l4⟩ := lim
        intro j hj
        have hc : j = 0 ∨ j = 1 ∨ j = 2 ∨ j = 3 ∨ j = 4 := by omega
        rcases hc with rfl | rfl | rfl | rfl | rfl <;> omega
      have HA := Lib.hid hall
      have h00 := hall 0 (by omega)
      have hlt0 := n0.lt
      have hlt1 := n1.lt
      clear n0 n1 hm hmod lim hall
      go_wp2_with (refine wpList_load_row rfl 61 (.tmp 1) rfl _ rfl _ _ _ _ HN3.out Try.underlying61 rfl (by kernel_rfl) ?_)
      obtain ⟨G, hG⟩ : ∃ G, G = wr.heap.size := ⟨_, rfl⟩
      rw [← hG]
      have HG := Lib.hid hG
      have hlt0' : w.heap.size < G := by omega
      have hlt1' : w.heap.size + 1 < G := by omega
      clear hG
      go_loopw [18] (fun v wi => ∃ k : Nat, k ≤ 4 ∧ v = .int .i64 (k : Int) ∧ Num wi G (whM F k) ∧ Num wi w.heap.size F ∧ Num wi (w.heap.size + 1) (fun _ => 0) ∧ Mod (fun _ => False) w wi) (fun v _ => 4 - (intOf v).toNat)
      case atStart =>
        refine ⟨0, by omega, rfl, ?_, HN3.out.alloc _, HZ3.out.alloc _, HM3.out.alloc _⟩
        exact Num.new wr (whM F 0) _ HG.out
      case round =>
        obtain ⟨k, hk, rfl, m0, m1, m2, hmi⟩ := hrel
        by_cases hlt : k < 4
        · have hk0 : (0 : Int) ≤ (k : Int) := by omega
          have hk2 : (k : Int) < 4 := by omega
          have hk5 : (k : Int) + 1 < 5 := by omega
          have hX := m0.cell k (by omega)
          rw [show whM F k k = wh F k by unfold whM; rw [if_neg (by omega), if_pos rfl]] at hX
          have hY := m0.cell (k + 1) (by omega)
          rw [show whM F k (k + 1) = F (k + 1) by unfold whM; rw [if_neg (by omega), if_neg (by omega)]] at hY
          have hF := m0.free k
          have hF2 := m0.free (k + 1)
          have hx := wh_lt F HA.out k (by omega)
          have hy := HA.out (k + 1) (by omega)
          have hup : ∀ x y, x = F (k + 1) + wh F k / 67108864 → y = wh F k % 67108864 → ∀ j, upd (upd (whM F k) (k + 1) x) k y j = whM F (k + 1) j := fun x y hx hy j => whM_upd F k x y hx hy j
          have Hup := Lib.hid hup
          clear hup
          generalize hfx : wh F k = X at *
          generalize hfy : F (k + 1) = Y at *
          clear hfx hfy
          have hand : bits BinOp.and IntKind.u64 (X : Int) 67108863 = ((X % 67108864 : Nat) : Int) := u64_mask X (by omega)
          obtain ⟨M, HM⟩ : ∃ M, Hid (X % 67108864 = M) := ⟨_, rfl⟩
          rw [HM.out] at hand
          obtain ⟨D, HD⟩ : ∃ D, Hid (X / 67108864 = D) := ⟨_, rfl⟩
          have hDi : (X : Int) / 67108864 = (D : Int) := by have := HD.out; omega
          have hD2 : D ≤ 2 := by have := HD.out; omega
          have HW : Hid (Num (((wr.setCell ⟨G, k + 1, none⟩ (.int .u64 ((Y : Int) + (D : Int)))).setCell ⟨G, k, none⟩ (.int .u64 (M : Int))).drew) G (whM F (k + 1)) ∧
              Num (((wr.setCell ⟨G, k + 1, none⟩ (.int .u64 ((Y : Int) + (D : Int)))).setCell ⟨G, k, none⟩ (.int .u64 (M : Int))).drew) w.heap.size F ∧
              Num (((wr.setCell ⟨G, k + 1, none⟩ (.int .u64 ((Y : Int) + (D : Int)))).setCell ⟨G, k, none⟩ (.int .u64 (M : Int))).drew) (w.heap.size + 1) (fun _ => 0) ∧
              Mod (fun _ => False) w (((wr.setCell ⟨G, k + 1, none⟩ (.int .u64 ((Y : Int) + (D : Int)))).setCell ⟨G, k, none⟩ (.int .u64 (M : Int))).drew)) := by
            refine ⟨?_, ((m1.other (by show G ≠ _; omega) _).other (by show G ≠ _; omega) _).drew, ((m2.other (by show G ≠ _; omega) _).other (by show G ≠ _; omega) _).drew, ((hmi.setCell (fun hh => absurd hh (by show ¬ G < _; omega)) _).setCell (fun hh => absurd hh (by show ¬ G < _; omega)) _).drew⟩
            exact (((m0.set' (k + 1) (Y + D) (by omega) _ (by omega)).set' k M (by omega) _ rfl).eq (fun j _ => Hup.out _ _ (by rw [HD.out]) HM.out.symm j)).drew
          clear m0 m1 m2 hmi
          go_wp2_with fail
          go_region
          go_wp2_with fail
          go_roundw
          case rel => exact ⟨k + 1, by omega, by go_num, HW.out⟩
          case measure => simp [intOf]; omega
        · obtain rfl : k = 4 := by omega
          have hc4 := m0.cell 4 (by omega)
          rw [show whM F 4 4 = wh F 4 from rfl] at hc4
          have hF4 := m0.free 4
          have hx := wh_lt F HA.out 4 (by omega)
          have HN4 := Lib.hid m0
          have HF4 := Lib.hid m1
          have HZ4 := Lib.hid m2
          have HM4 := Lib.hid hmi
          have HS := Lib.hid (wh_small F HA.out)
          have HBg := Lib.hid (wh_big F HA.out)
          have HE : Hid (∀ y, y = wh F 4 % 67108864 → ∀ j, j < 5 → upd (whM F 4) 4 y j = whR F j) := by
            show ∀ y, _
            intro y hy j hj
            unfold upd whM whR
            by_cases e : j = 4
            · subst e; rw [if_pos rfl, hy]
            · rw [if_neg e, if_pos (by omega)]
          clear m0 m1 m2 hmi
          generalize wh F 4 = X at *
          by_cases h0 : X / 67108864 = 0
          · have hd0 : (X : Int) / 67108864 = 0 := by omega
            have HS2 := Lib.hid (HS.out h0)
            clear h0 HS HBg
            go_wp2_with (first | (refine wpList_load_row rfl 61 (.tmp 1) rfl _ rfl _ _ _ _ HF4.out Try.underlying61 rfl (by kernel_rfl) ?_) | (refine wpList_store_row rfl 61 (.tmp 2) (.tmp 41) rfl _ _ rfl rfl _ _ HZ4.out (by kernel_rfl) rfl (five_one _) ?_))
            exact bodyPost_ret (v := .agg (fiveV F)) (results_cell_row (P := Try.prog) (fn := Try.f43) (p := 2) (ty := 61) rfl _ _ _ _ _ _ _ rfl (HZ4.out.row _) Try.underlying61 rfl (by kernel_rfl)) rfl ⟨⟨F, rfl, HS2.out.trans HMo.out, HA.out⟩, HM4.out.row (fun hh => by omega) _⟩
          · have hd1 : (((X : Int) / 67108864) == 0) = false := by rw [beq_eq_false_iff_ne]; omega
            have HS2 := Lib.hid (HBg.out h0)
            have hand : bits BinOp.and IntKind.u64 (X : Int) 67108863 = ((X % 67108864 : Nat) : Int) := u64_mask X (by omega)
            obtain ⟨M, HM⟩ : ∃ M, Hid (X % 67108864 = M) := ⟨_, rfl⟩
            rw [HM.out] at hand
            have HN5 : Hid (Num (wr.setCell ⟨G, 4, none⟩ (.int .u64 (M : Int))) G (whR F) ∧ Num (wr.setCell ⟨G, 4, none⟩ (.int .u64 (M : Int))) (w.heap.size + 1) (fun _ => 0) ∧ Mod (fun _ => False) w (wr.setCell ⟨G, 4, none⟩ (.int .u64 (M : Int)))) :=
              ⟨(HN4.out.set 4 M (by omega)).eq (HE.out M HM.out.symm), HZ4.out.other (by show G ≠ _; omega) _, HM4.out.setCell (fun hh => absurd hh (by show ¬ G < _; omega)) _⟩
            clear h0 HS HBg
            go_upto_region 15 with fail
            generalize (wr.setCell ⟨G, 4, none⟩ (.int .u64 (M : Int))) = wx at HN5 ⊢
            have HK1 := Lib.hid HN5.out.1
            have HK2 := Lib.hid HN5.out.2.1
            have HK3 := Lib.hid HN5.out.2.2
            go_wp2_with (first | (refine wpList_load_row rfl 61 (.tmp 3) rfl _ rfl _ _ _ _ HK1.out Try.underlying61 rfl (by kernel_rfl) ?_) | (refine wpList_store_row rfl 61 (.tmp 2) (.tmp 46) rfl _ _ rfl rfl _ _ HK2.out (by kernel_rfl) rfl (five_one _) ?_))
            exact bodyPost_ret (v := .agg (fiveV (whR F))) (results_cell_row (P := Try.prog) (fn := Try.f43) (p := 2) (ty := 61) rfl _ _ _ _ _ _ _ rfl (HK2.out.row _) Try.underlying61 rfl (by kernel_rfl)) rfl ⟨⟨whR F, rfl, HS2.out.trans HMo.out, fun j _ => whR_lt F j⟩, HK3.out.row (fun hh => by omega) _⟩
end Go.Proofs.Ytpnpmploaaenlaa
