/- What stands above and below bit 130; whether all is nought: the walks. -/
import Derived.Test.YtpnpmploaaenlaaMQ2
namespace Go.Proofs.Ytpnpmploaaenlaa
open Go.RowKit
set_option linter.unusedSimpArgs false
set_option linter.unusedVariables false

theorem i64_or_nat (a b : Nat) (ha : a < 2 ^ 63) (hb : b < 2 ^ 63) : bits .or .i64 (a : Int) (b : Int) = ((a ||| b : Nat) : Int) :=
  (bits_nat .i64 63 (by decide) (fun n h0 h1 => by rw [IntKind.wrap_i64]; omega) a b ha hb).2
theorem i64_and3 (n : Nat) (h : n < 256) : bits BinOp.and IntKind.i64 (n : Int) 3 = ((n % 4 : Nat) : Int) := by
  have := (bits_nat .i64 63 (by decide) (fun n h0 h1 => by rw [IntKind.wrap_i64]; omega) n 3 (by omega) (by omega)).1
  rw [show (3 : Int) = ((3 : Nat) : Int) from rfl, this, show (3 : Nat) = 2 ^ 2 - 1 from rfl, Nat.and_two_pow_sub_one_eq_mod]
theorem i64_64_255 (Y : Nat) (h : Y < 256) : bits BinOp.and IntKind.i64 ((Y : Int) * 64) 255 = ((Y * 64 % 256 : Nat) : Int) := by
  rw [i64_and255]; omega
theorem i64_high (X Y : Nat) (hX : X < 256) (hY : Y < 256) : bits BinOp.or IntKind.i64 ((X : Int) / 4) ((Y * 64 % 256 : Nat) : Int) = ((X / 4 + Y * 64 % 256 : Nat) : Int) := by
  rw [show (X : Int) / 4 = ((X / 4 : Nat) : Int) by omega, i64_or_nat _ _ (by omega) (by omega), or_high X Y hX hY]
set_option maxRecDepth 100000 in
set_option maxHeartbeats 2000000 in
theorem high_any (b n c V : Nat) (hn : n ≤ 1000) (h16 : 16 ≤ n) (hV : V < 256 ^ n) (w : World) (hd : Dg w b n (dgt V)) :
    Calls Try.prog 74 #[.slice (some ⟨b, 0, none⟩) n c] w fun e w' => (∃ g, e = .returned (.slice (some ⟨g, 0, none⟩) n n) ∧ IRow w' g n (dgt (V / T130)) ∧ w.heap.size ≤ g) ∧ Mod (fun _ => False) w w' := by
  obtain ⟨Z, hmk, hrow⟩ := make_ints n (by omega) w
  have HR := Lib.hid hrow
  have HD := Lib.hid hd
  have HV := Lib.hid hV
  clear hrow hd hV
  go_enter Try.func74, Try.ntmps74
  go_wp2_with fail
  clear hmk
  go_loopw [4] (fun v wr => ∃ i : Nat, 16 ≤ i ∧ i ≤ n ∧ v = .int .i64 (i : Int) ∧ IRow wr w.heap.size n (upTo (dgt (V / T130)) (i - 16)) ∧ Mod (fun _ => False) w wr) (fun v _ => n - (intOf v).toNat)
  case atStart => exact ⟨16, by omega, by omega, rfl, HR.out.eq (fun j _ => (if_neg (by omega)).symm), (Mod.refl _ _).alloc _⟩
  case round =>
    obtain ⟨i, hi16, hi, rfl, row, hmr⟩ := hrel
    by_cases hlt : i < n
    · have hi0 : (0 : Int) ≤ (i : Int) - 16 := by omega
      have hi1 : (16 : Int) ≤ (i : Int) := by omega
      have hi2 : (i : Int) < (n : Int) := by omega
      have hi3 : (i : Int) - 16 < (n : Int) := by omega
      have hin : ((i : Int) - 16).toNat = i - 16 := by omega
      have hX := (HD.out.kept hmr) i hlt
      have hxb := dgt_lt V i
      have hF := row.free (i - 16)
      have hC := row.cell (i - 16) (by omega)
      rw [upTo_self] at hC
      have HDG := Lib.hid (dgt_high V i hi16)
      have HI : Hid (i + 1 - 16 = (i - 16) + 1) := by show _ = _; omega
      have HROW := Lib.hid row
      have HM := Lib.hid hmr
      clear row hmr
      by_cases hnx : i + 1 < n
      · have hnx2 : (i : Int) + 1 < (n : Int) := by omega
        have hY := (HD.out.kept HM.out) (i + 1) hnx
        have hyb := dgt_lt V (i + 1)
        generalize dgt V i = X at *
        generalize dgt V (i + 1) = Y at *
        have hand := i64_64_255 Y hyb
        have hor := i64_high X Y hxb hyb
        obtain ⟨S, HS⟩ : ∃ S, Hid (X / 4 + Y * 64 % 256 = S) := ⟨_, rfl⟩
        rw [HS.out] at hor HDG
        obtain ⟨Q, HQ⟩ : ∃ Q, Hid (Y * 64 % 256 = Q) := ⟨_, rfl⟩
        rw [HQ.out] at hand hor
        go_wp2_with fail
        go_region
        go_wp2_with fail
        go_roundw
        case rel => exact ⟨i + 1, by omega, by omega, by go_num, ((HROW.out.set' (i - 16) (X / 4) (by omega) _ (by omega)).set' (i - 16) S (by omega) _ (by omega)).eq (fun j _ => by rw [HI.out]; exact upTo_upd2 _ _ _ _ HDG.out.symm j), ((HM.out.setCell (fun hh => absurd hh (Nat.lt_irrefl _)) _).setCell (fun hh => absurd hh (Nat.lt_irrefl _)) _).drew⟩
        case measure => simp [intOf]; omega
      · have hnx2 : ¬ (i : Int) + 1 < (n : Int) := by omega
        have HY : Hid (dgt V (i + 1) = 0) := dgt_big V n (i + 1) HV.out (by omega)
        rw [HY.out] at HDG
        generalize dgt V i = X at *
        go_wp2_with fail
        go_roundw
        case rel => exact ⟨i + 1, by omega, by omega, by go_num, (HROW.out.set' (i - 16) (X / 4) (by omega) _ (by omega)).eq (fun j _ => by rw [HI.out]; exact upTo_upd _ _ _ (by rw [HDG.out, Nat.zero_mul, Nat.zero_mod, Nat.add_zero]) j), HM.out.setCell (fun hh => absurd hh (Nat.lt_irrefl _)) _⟩
        case measure => simp [intOf]; omega
    · obtain rfl : i = n := by omega
      have HROW := Lib.hid (row.eq (f' := dgt (V / T130)) (fun j hj => by
        unfold upTo
        by_cases e : j < i - 16
        · rw [if_pos e]
        · rw [if_neg e, dgt_high_out V i j HV.out (by omega)]))
      have HM := Lib.hid hmr
      clear row hmr
      go_wp2_with fail
      go_ret
      exact ⟨⟨_, rfl, HROW.out, Nat.le_refl _⟩, HM.out⟩
set_option maxRecDepth 100000 in
set_option maxHeartbeats 2000000 in
theorem low_any (b n c V : Nat) (hn : n ≤ 1000) (h17 : 17 ≤ n) (w : World) (hd : Dg w b n (dgt V)) :
    Calls Try.prog 75 #[.slice (some ⟨b, 0, none⟩) n c] w fun e w' => (∃ g, e = .returned (.slice (some ⟨g, 0, none⟩) 17 17) ∧ IRow w' g 17 (dgt (V % T130)) ∧ w.heap.size ≤ g) ∧ Mod (fun _ => False) w w' := by
  obtain ⟨Z, hmk0, hrow⟩ := make_ints 17 (by omega) w
  have hmk : (Instr.makeSlice 47 (.int .i64 17) (.int .i64 17)).run Try.prog w = .ok (.slice (some ⟨w.heap.size, 0, none⟩) 17 17) (w.alloc (.cells Z 3)) := hmk0
  clear hmk0
  have HR := Lib.hid hrow
  have HD := Lib.hid hd
  clear hrow hd
  go_enter Try.func75, Try.ntmps75
  go_wp2_with fail
  clear hmk
  go_loopw [4] (fun v wr => ∃ i : Nat, i ≤ 17 ∧ v = .int .i64 (i : Int) ∧ IRow wr w.heap.size 17 (upTo (dgt V) i) ∧ Mod (fun _ => False) w wr) (fun v _ => 17 - (intOf v).toNat)
  case atStart => exact ⟨0, by omega, rfl, HR.out.eq (fun j _ => (if_neg (by omega)).symm), (Mod.refl _ _).alloc _⟩
  case round =>
    obtain ⟨i, hi, rfl, row, hmr⟩ := hrel
    by_cases hlt : i < 17
    · have hi0 : (0 : Int) ≤ (i : Int) := by omega
      have hi1 : (i : Int) < 17 := by omega
      have hi2 : (i : Int) < (n : Int) := by omega
      have hX := (HD.out.kept hmr) i (by omega)
      have hF := row.free i
      have hC := row.cell i hlt
      have HROW := Lib.hid row
      have HM := Lib.hid hmr
      clear row hmr
      have HUP := Lib.hid (fun x hx j => upTo_upd (dgt V) i x hx j)
      generalize hx : dgt V i = X at *
      have HX := Lib.hid hx
      clear hx
      go_wp2_with fail
      go_roundw
      case rel => exact ⟨i + 1, by omega, by go_num, (HROW.out.set' i X hlt _ rfl).eq (fun j _ => HUP.out X rfl j), HM.out.setCell (fun hh => absurd hh (Nat.lt_irrefl _)) _⟩
      case measure => simp [intOf]; omega
    · obtain rfl : i = 17 := by omega
      have hF := row.free 16
      have hC := row.cell 16 (by omega)
      rw [show upTo (dgt V) 17 16 = dgt V 16 from if_pos (by omega)] at hC
      have hand := i64_and3 (dgt V 16) (dgt_lt V 16)
      have HROW := Lib.hid row
      have HM := Lib.hid hmr
      have HE : Hid (∀ x, x = dgt V 16 % 4 → ∀ j, j < 17 → upd (upTo (dgt V) 17) 16 x j = dgt (V % T130) j) := by
        show ∀ x, _
        intro x hx j hj
        unfold upd upTo
        by_cases e : j = 16
        · subst e; rw [if_pos rfl, hx, dgt_low16]
        · rw [if_neg e, if_pos hj, dgt_low V j (by omega)]
      clear row hmr
      generalize dgt V 16 = X at *
      obtain ⟨M, HMM⟩ : ∃ M, Hid (X % 4 = M) := ⟨_, rfl⟩
      rw [HMM.out] at hand
      go_wp2_with fail
      go_ret
      exact ⟨⟨_, rfl, (HROW.out.set' 16 M (by omega) _ rfl).eq (HE.out M HMM.out.symm), Nat.le_refl _⟩, HM.out.setCell (fun hh => absurd hh (Nat.lt_irrefl _)) _⟩
set_option maxRecDepth 100000 in
set_option maxHeartbeats 2000000 in
theorem zero_any (b n c V : Nat) (hn : n ≤ 1000) (hV : V < 256 ^ n) (w : World) (hd : Dg w b n (dgt V)) (r : Bool) (hr : decide (V = 0) = r) :
    Calls Try.prog 73 #[.slice (some ⟨b, 0, none⟩) n c] w fun e w' => e = .returned (.bool r) ∧ Mod (fun _ => False) w w' := by
  have HD := Lib.hid hd
  have HV := Lib.hid hV
  have HR := Lib.hid hr
  clear hd hV hr
  go_enter Try.func73, Try.ntmps73
  go_wp2_with fail
  go_loopw [3] (fun v wr => ∃ i : Nat, i ≤ n ∧ v = .int .i64 (i : Int) ∧ (∀ j, j < i → dgt V j = 0) ∧ Mod (fun _ => False) w wr) (fun v _ => n - (intOf v).toNat)
  case atStart => exact ⟨0, by omega, rfl, fun j hj => by omega, Mod.refl _ _⟩
  case round =>
    obtain ⟨i, hi, rfl, hall, hmr⟩ := hrel
    have HALL := Lib.hid hall
    have HM := Lib.hid hmr
    clear hall hmr
    by_cases hlt : i < n
    · have hi0 : (0 : Int) ≤ (i : Int) := by omega
      have hi2 : (i : Int) < (n : Int) := by omega
      have hX := (HD.out.kept HM.out) i hlt
      obtain ⟨X, HX⟩ : ∃ X, Hid (dgt V i = X) := ⟨_, rfl⟩
      rw [HX.out] at hX
      by_cases h0 : X = 0
      · have hz : ((X : Int) != 0) = false := by rw [bne_eq_false_iff_eq]; omega
        have H0 := Lib.hid h0
        clear h0
        go_wp2_with fail
        go_roundw
        case rel =>
          refine ⟨i + 1, by omega, by go_num, fun j hj => ?_, HM.out⟩
          by_cases e : j = i
          · subst e; rw [HX.out, H0.out]
          · exact HALL.out j (by omega)
        case measure => simp [intOf]; omega
      · have hz : ((X : Int) != 0) = true := by rw [bne_iff_ne]; omega
        have HF : Hid (false = r) := by
          show _ = _
          rw [← HR.out, eq_comm, decide_eq_false_iff_not]
          intro e
          subst e
          apply h0
          rw [← HX.out]; unfold dgt; rw [Nat.zero_div]
        clear h0
        go_wp2_with fail
        go_ret
        exact ⟨by rw [← HF.out]; rfl, HM.out⟩
    · obtain rfl : i = n := by omega
      have HF : Hid (true = r) := by
        show _ = _
        rw [← HR.out, eq_comm, decide_eq_true_eq]
        exact (zero_iff V i HV.out).1 HALL.out
      go_wp2_with fail
      go_ret
      exact ⟨by rw [← HF.out]; rfl, HM.out⟩
end Go.Proofs.Ytpnpmploaaenlaa
