/- PolyOne: the walk of the law. -/
import Derived.Test.YtfmfopbcgohdgaaL2
namespace Go.Proofs.Ytfmfopbcgohdgaa
open Go.RowKit
set_option linter.unusedSimpArgs false
set_option linter.unusedVariables false

def O16 : ByteArray := ⟨#[1, 0, 0, 0, 0, 0, 0, 0, 0, 0, 0, 0, 0, 0, 0, 0]⟩
theorem o16_num : leN (clS O16) 16 = 1 := by decide +kernel
/-- What is added at digit i. -/
def zo (half s : ByteArray) (i : Nat) : Nat := byteAt half i + zx (s.size + 1) (bl s 0) i
theorem bn_zero (s : ByteArray) (h : s.size ≤ 15) : bn s 0 = s.size := by unfold bn; omega
theorem blkN_zero (s : ByteArray) (h : s.size ≤ 15) : blkN s 0 = le (bl s 0) (s.size + 1) := by unfold blkN; rw [bn_zero s h]
theorem blkN_16 (s : ByteArray) (h : s.size ≤ 15) : blkN s 0 < P130 := by
  have h1 := le_lt (bl s 0) (bn s 0 + 1) (fun i _ => by unfold bl; split; exact byteAt_lt _ _; omega)
  have h2 : (256 : Nat) ^ (bn s 0 + 1) ≤ 256 ^ 16 := Nat.pow_le_pow_right (by decide) (by rw [bn_zero s h]; omega)
  have h3 : 256 ^ 16 < P130 := by decide +kernel
  exact Nat.lt_trans (Nat.lt_of_lt_of_le h1 h2) h3
theorem zo_num (half s : ByteArray) (h : s.size ≤ 15) : le (zo half s) 16 = blkN s 0 + leN half 16 := by
  have e : le (zo half s) 16 = le (byteAt half) 16 + le (zx (s.size + 1) (bl s 0)) 16 := le_add _ _ 16
  rw [e, le_zx_ge _ _ 16 (by omega), ← blkN_zero s h, ← leN_le, Nat.add_comm]
theorem one_tag (half s : ByteArray) (hh : half.size = 16) (h : s.size ≤ 15) (h0 : 0 < s.size) : macS (O16 ++ half) s = leS (le (zo half s) 16) 16 := by
  have hb : blocks s = 1 := by unfold blocks; omega
  rw [macS_app _ _ _ rfl hh, o16_num, hb, zo_num half s h]
  congr 2
  show (0 + blkN s 0) * 1 % P130 = blkN s 0
  rw [Nat.zero_add, Nat.mul_one, Nat.mod_eq_of_lt (blkN_16 s h)]
theorem zo_lt (half s : ByteArray) (i : Nat) : zo half s i ≤ 255 * 2 := by
  have h1 := byteAt_lt half i
  have h2 : zx (s.size + 1) (bl s 0) i ≤ 255 := by
    unfold zx bl
    split
    · split
      · have := byteAt_lt s (16 * 0 + i); omega
      · omega
    · omega
  unfold zo; omega
theorem zo_in (half s : ByteArray) (i : Nat) (h : s.size ≤ 15) (hi : i < s.size) : zo half s i = byteAt half i + byteAt s i := by
  unfold zo
  rw [show zx (s.size + 1) (bl s 0) i = bl s 0 i from if_pos (by omega), show bl s 0 i = byteAt s (16 * 0 + i) from if_pos (by rw [bn_zero s h]; exact hi), Nat.mul_zero, Nat.zero_add]
theorem zo_at (half s : ByteArray) (h : s.size ≤ 15) : zo half s s.size = byteAt half s.size + 1 := by
  unfold zo
  rw [show zx (s.size + 1) (bl s 0) s.size = bl s 0 s.size from if_pos (by omega), show bl s 0 s.size = 1 from if_neg (by rw [bn_zero s h]; omega)]
theorem zo_out (half s : ByteArray) (i : Nat) (hi : s.size < i) : zo half s i = byteAt half i := by
  unfold zo
  rw [show zx (s.size + 1) (bl s 0) i = 0 from if_neg (by omega), Nat.add_zero]
set_option maxRecDepth 100000 in
set_option maxHeartbeats 2000000 in
theorem one_out (half s : ByteArray) (w : World) (h : half.size ≠ 16 ∨ 15 < s.size ∨ s.size = 0) :
    Calls Try.prog 6 #[.string half, .string s] w fun e w' => e = .returned (.bool true) ∧ Mod (fun _ => False) w w' := by
  by_cases h1 : half.size = 16
  · have hc : (((half.size : Nat) : Int) != 16) = false := by rw [bne_eq_false_iff_eq]; omega
    by_cases h2 : 15 < s.size
    · have hd : (15 : Int) < ((s.size : Nat) : Int) := by omega
      clear h h1
      go_enter Try.func6, Try.ntmps6
      go_wp2_with fail
      refine (awake_any _).mono ?_
      rintro e w2 ⟨rfl, m2⟩
      go_wp2_with fail
      go_ret
      exact ⟨rfl, m2⟩
    · have hd : ¬ (15 : Int) < ((s.size : Nat) : Int) := by omega
      obtain rfl : s = ByteArray.empty := empty_of_size s (by omega)
      have he1 : ByteArray.empty.toList = [] := by rw [Lib.toList_data]; rfl
      have he2 : ByteArray.empty.toList.isEmpty = true := by rw [Lib.toList_data]; rfl
      clear h h1 h2
      go_enter Try.func6, Try.ntmps6
      go_wp2_with fail
      refine (awake_any _).mono ?_
      rintro e w2 ⟨rfl, m2⟩
      go_wp2_with fail
      go_ret
      exact ⟨rfl, m2⟩
  · have hc : (((half.size : Nat) : Int) != 16) = true := by rw [bne_iff_ne]; omega
    clear h
    go_enter Try.func6, Try.ntmps6
    go_wp2_with fail
    refine (awake_any _).mono ?_
    rintro e w2 ⟨rfl, m2⟩
    go_wp2_with fail
    go_ret
    exact ⟨rfl, m2⟩
def Z15 : ByteArray := ⟨((List.range 15).map fun _ => (0 : UInt8)).toArray⟩
theorem z15_app : (⟨#[1]⟩ : ByteArray) ++ Z15 = O16 := by decide +kernel
theorem i64_mask255' (n : Nat) : bits BinOp.and IntKind.i64 (n : Int) 255 = ((n % 256 : Nat) : Int) := by rw [i64_and255]; omega
set_option maxRecDepth 100000 in
set_option maxHeartbeats 2000000 in
theorem one_in (half s : ByteArray) (w : World) (h1 : half.size = 16) (h2 : s.size ≤ 15) (h3 : 0 < s.size) :
    Calls Try.prog 6 #[.string half, .string s] w fun e w' => e = .returned (.bool true) ∧ Mod (fun _ => False) w w' := by
  obtain ⟨Z, hmk0, hrow⟩ := make_bytes 15 (by omega) w
  have hmk : (Instr.makeSlice 29 (.int .i64 15) (.int .i64 15)).run Try.prog w = .ok (.slice (some ⟨w.heap.size, 0, none⟩) 15 15) (w.alloc (.cells Z 5)) := hmk0
  clear hmk0
  have hcv : (convert 29 9 (.slice (some ⟨w.heap.size, 0, none⟩) 15 15)).run Try.prog (w.alloc (.cells Z 5)) = .ok (.string Z15) (w.alloc (.cells Z 5)) := row_str 15 hrow
  clear hrow
  have hc : (((half.size : Nat) : Int) != 16) = false := by rw [bne_eq_false_iff_eq]; omega
  have hd : ¬ (15 : Int) < ((s.size : Nat) : Int) := by omega
  have he1 : s.toList.isEmpty = false := by
    rw [Lib.toList_data, List.isEmpty_eq_false_iff]
    intro e
    have : s.data.toList.length = 0 := by rw [e]; rfl
    have h2 : s.data.toList.length = s.size := by simp
    omega
  have he2 : ¬ s.toList = [] := by
    intro e; rw [e] at he1; exact absurd he1 (by decide)
  have HT := Lib.hid (one_tag half s h1 h2 h3)
  have HK : Hid ((O16 ++ half).size = 32) := by show _ = _; rw [app_size, h1]; rfl
  have HH := Lib.hid h1
  obtain ⟨kk, HKK⟩ : ∃ kk, Hid (⟨#[1]⟩ ++ Z15 ++ half = kk) := ⟨_, rfl⟩
  have HKE : Hid (O16 ++ half = kk) := by show _ = _; rw [← HKK.out, z15_app]
  have hz15 : Z15.size = 15 := rfl
  have hbd : ¬ 9223372036854775807 < 16 + half.size := by omega
  obtain ⟨T, HTT⟩ : ∃ T, Hid (leS (le (zo half s) 16) 16 = T) := ⟨_, rfl⟩
  have HTS : Hid (T.size = 16) := by show _ = _; rw [← HTT.out, leS_size]
  have htn : (((T.size : Nat) : Int) != 16) = false := by rw [bne_eq_false_iff_eq]; have := HTS.out; omega
  clear h1
  go_enter Try.func6, Try.ntmps6
  go_wp2_with fail
  rw [HKK.out]
  refine (mac_ok kk s _ (by rw [← HKE.out]; exact HK.out) (by omega)).mono ?_
  rintro e w1 ⟨rfl, m1⟩
  rw [show macS kk s = T by rw [← HKE.out, HT.out, HTT.out]]
  have HM1 := Lib.hid (((Mod.refl (fun _ => False) w).alloc (.cells Z 5)).tr m1)
  clear m1 hmk hcv
  go_wp2_with fail
  go_loopw [7, 8] (fun c v wr => ∃ i : Nat, i ≤ 16 ∧ v = .int .i64 (i : Int) ∧ c = .int .i64 ((car (zo half s) i : Nat) : Int) ∧ Mod (fun _ => False) w wr) (fun _ v _ => 16 - (intOf v).toNat)
  case atStart => exact ⟨0, by omega, rfl, rfl, HM1.out⟩
  case round =>
    obtain ⟨i, hi, rfl, rfl, hm⟩ := hrel
    have HM := Lib.hid hm
    clear hm
    by_cases hlt : i < 16
    · have hi0 : (0 : Int) ≤ (i : Int) := by omega
      have hi2 : (i : Int) < 16 := by omega
      have hih : i < half.size := by have := HH.out; omega
      have hih2 : (i : Int) < ((half.size : Nat) : Int) := by omega
      have hit : i < T.size := by have := HTS.out; omega
      have hit2 : (i : Int) < ((T.size : Nat) : Int) := by omega
      have hgh : half[i].toNat = byteAt half i := byteAt_get half i hih
      have hgt : T[i].toNat = byteAt T i := byteAt_get T i hit
      have HTA : Hid (byteAt T i = dgt (le (zo half s) 16) i) := by show _ = _; rw [← HTT.out]; exact leS_at _ _ _ hlt
      have HD : Hid ((car (zo half s) i + zo half s i) % 256 = dgt (le (zo half s) 16) i) := car_dgt (zo half s) 16 i hlt
      have HC : Hid ((car (zo half s) i + zo half s i) / 256 = car (zo half s) (i + 1)) := rfl
      have hcl : car (zo half s) i ≤ 2 := car_lt (zo half s) 2 (zo_lt half s) i
      have hhb := byteAt_lt half i
      generalize car (zo half s) i = C at *
      rw [HTA.out] at hgt
      have hdb := dgt_lt (le (zo half s) 16) i
      generalize dgt (le (zo half s) 16) i = D at *
      by_cases hin : i < s.size
      · have hin2 : (i : Int) < ((s.size : Nat) : Int) := by omega
        have hgs : s[i].toNat = byteAt s i := byteAt_get s i hin
        have hsb := byteAt_lt s i
        have hne : ((i : Int) == ((s.size : Nat) : Int)) = false := by rw [beq_eq_false_iff_ne]; omega
        rw [zo_in half s i h2 hin] at HD HC
        generalize byteAt half i = A at *
        generalize byteAt s i = B at *
        have hand : bits BinOp.and IntKind.i64 ((C : Int) + (A : Int) + (B : Int)) 255 = (D : Int) := by
          rw [show (C : Int) + (A : Int) + (B : Int) = ((C + (A + B) : Nat) : Int) by omega, i64_mask255', HD.out]
        have HCC : Hid ((.int .i64 (((C : Int) + (A : Int) + (B : Int)) / 256) : Value) = .int .i64 ((car (zo half s) (i + 1) : Nat) : Int)) := by
          show _ = _
          rw [← HC.out, show (((C + (A + B)) / 256 : Nat) : Int) = ((C : Int) + (A : Int) + (B : Int)) / 256 by omega]
        go_wp2_with fail
        go_roundw
        case rel => exact ⟨i + 1, by omega, by go_num, HCC.out, HM.out⟩
        case measure => simp [intOf]; omega
      · have hin2 : ¬ (i : Int) < ((s.size : Nat) : Int) := by omega
        by_cases hat : i = s.size
        · have hne : ((i : Int) == ((s.size : Nat) : Int)) = true := by rw [beq_iff_eq]; omega
          have HZ : Hid (zo half s i = byteAt half i + 1) := by show _ = _; rw [hat]; exact zo_at half s h2
          rw [HZ.out] at HD HC
          clear hat
          generalize byteAt half i = A at *
          have hand : bits BinOp.and IntKind.i64 ((C : Int) + (A : Int) + 1) 255 = (D : Int) := by
            rw [show (C : Int) + (A : Int) + 1 = ((C + (A + 1) : Nat) : Int) by omega, i64_mask255', HD.out]
          have HCC : Hid ((.int .i64 (((C : Int) + (A : Int) + 1) / 256) : Value) = .int .i64 ((car (zo half s) (i + 1) : Nat) : Int)) := by
            show _ = _
            rw [← HC.out, show (((C + (A + 1)) / 256 : Nat) : Int) = ((C : Int) + (A : Int) + 1) / 256 by omega]
          go_wp2_with fail
          go_roundw
          case rel => exact ⟨i + 1, by omega, by go_num, HCC.out, HM.out⟩
          case measure => simp [intOf]; omega
        · have hne : ((i : Int) == ((s.size : Nat) : Int)) = false := by rw [beq_eq_false_iff_ne]; omega
          rw [zo_out half s i (by omega)] at HD HC
          clear hat
          generalize byteAt half i = A at *
          have hand : bits BinOp.and IntKind.i64 ((C : Int) + (A : Int)) 255 = (D : Int) := by
            rw [show (C : Int) + (A : Int) = ((C + A : Nat) : Int) by omega, i64_mask255', HD.out]
          have HCC : Hid ((.int .i64 (((C : Int) + (A : Int)) / 256) : Value) = .int .i64 ((car (zo half s) (i + 1) : Nat) : Int)) := by
            show _ = _
            rw [← HC.out, show (((C + A) / 256 : Nat) : Int) = ((C : Int) + (A : Int)) / 256 by omega]
          go_wp2_with fail
          go_roundw
          case rel => exact ⟨i + 1, by omega, by go_num, HCC.out, HM.out⟩
          case measure => simp [intOf]; omega
    · obtain rfl : i = 16 := by omega
      go_wp2_with fail
      refine (awake_any _).mono ?_
      rintro e w4 ⟨rfl, m4⟩
      go_wp2_with fail
      go_ret
      exact ⟨rfl, HM.out.tr m4⟩
theorem one_any (half s : ByteArray) (w : World) : Calls Try.prog 6 #[.string half, .string s] w fun e w' => e = .returned (.bool true) ∧ Mod (fun _ => False) w w' := by
  by_cases h : half.size ≠ 16 ∨ 15 < s.size ∨ s.size = 0
  · exact one_out half s w h
  · exact one_in half s w (by omega) (by omega) (by omega)
end Go.Proofs.Ytfmfopbcgohdgaa
