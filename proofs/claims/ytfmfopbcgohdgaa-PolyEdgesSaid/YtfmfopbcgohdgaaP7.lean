/- The reference's bits of a key that are kept: the walk. -/
import Derived.Test.YtfmfopbcgohdgaaP6
namespace Go.Proofs.Ytfmfopbcgohdgaa
open Go.RowKit
set_option linter.unusedSimpArgs false
set_option linter.unusedVariables false

def rcA (s : ByteArray) (i : Nat) (j : Nat) : UInt8 := if j % 4 = 3 ∧ j < i then byteU s j &&& 15 else byteU s j
def rcB (s : ByteArray) (i : Nat) (j : Nat) : UInt8 := if j % 4 = 3 then byteU s j &&& 15 else if j % 4 = 0 ∧ 0 < j ∧ j < i then byteU s j &&& 252 else byteU s j
theorem rcA_upd (s : ByteArray) (i : Nat) (hi : i % 4 = 3) (x : UInt8) (hx : x = byteU s i &&& 15) (j : Nat) : (if j = i then x else rcA s i j) = rcA s (i + 4) j := by
  unfold rcA
  by_cases e : j = i
  · subst e; rw [if_pos rfl, if_pos ⟨hi, by omega⟩, hx]
  · rw [if_neg e]
    by_cases e2 : j % 4 = 3 ∧ j < i
    · rw [if_pos e2, if_pos ⟨e2.1, by omega⟩]
    · rw [if_neg e2, if_neg (by omega)]
theorem rcB_upd (s : ByteArray) (i : Nat) (hi : i % 4 = 0) (h0 : 0 < i) (x : UInt8) (hx : x = byteU s i &&& 252) (j : Nat) : (if j = i then x else rcB s i j) = rcB s (i + 4) j := by
  unfold rcB
  by_cases e : j = i
  · subst e; rw [if_pos rfl, if_neg (by omega), if_pos ⟨hi, h0, by omega⟩, hx]
  · rw [if_neg e]
    by_cases e3 : j % 4 = 3
    · rw [if_pos e3, if_pos e3]
    · rw [if_neg e3, if_neg e3]
      by_cases e2 : j % 4 = 0 ∧ 0 < j ∧ j < i
      · rw [if_pos e2, if_pos ⟨e2.1, e2.2.1, by omega⟩]
      · rw [if_neg e2, if_neg (by omega)]
set_option maxRecDepth 100000 in
set_option maxHeartbeats 2000000 in
theorem rclamp_ok (s : ByteArray) (w : World) (hs : s.size = 16) :
    Calls Try.prog 14 #[.string s] w fun e w' => e = .returned (.tuple #[.string (clS s), .int .i64 0]) ∧ Mod (fun _ => False) w w' := by
  have hne : (((s.size : Nat) : Int) != 16) = false := by rw [bne_eq_false_iff_eq]; omega
  obtain ⟨C, W1, hcv, m1, hsz, row1⟩ := conv_row s w
  rw [hs] at hcv row1
  have HROW := Lib.hid row1
  have HM1 := Lib.hid m1
  clear row1 m1
  go_enter Try.func14, Try.ntmps14
  go_wp2_with fail
  clear hcv
  go_loopw [5] (fun v wr => ∃ m i : Nat, m ≤ 4 ∧ Hid (i = 4 * m + 3) ∧ v = .int .i64 (i : Int) ∧ Row wr w.heap.size 16 (rcA s i) ∧ Mod (fun _ => False) w wr) (fun v _ => 20 - (intOf v).toNat)
  case atStart => exact ⟨0, 3, by omega, rfl, rfl, HROW.out.eq (fun j _ => by unfold rcA; rw [if_neg (by omega)]), HM1.out⟩
  case round =>
    obtain ⟨m, i, hm4, HI, rfl, row, hm⟩ := hrel
    by_cases hlt : m < 4
    · have hi0 : (0 : Int) ≤ (i : Int) := by omega
      have hlt2 : (i : Int) < 16 := by have := HI.out; omega
      have hi16 : i < 16 := by omega
      have hi3 : i % 4 = 3 := by have := HI.out; omega
      have ec : wr.cell? ⟨w.heap.size, i, none⟩ = some (.int .u8 (byteAt s i : Int)) := by
        have := row.cell i hi16
        unfold rcA at this
        rw [if_neg (by omega)] at this
        exact this
      have ef := row.free i hi16
      obtain ⟨Z, HZ⟩ : ∃ Z : UInt8, Hid (Z = byteU s i &&& 15) := ⟨_, rfl⟩
      have HR := Lib.hid ((row.set i hi16 Z (fun j => if j = i then Z else rcA s i j) (if_pos rfl) (fun j _ hne => if_neg hne)).eq (fun j _ => rcA_upd s i hi3 Z HZ.out j))
      have HM2 := Lib.hid (hm.setCell (p := ⟨w.heap.size, i, none⟩) (fun hh => absurd hh (Nat.lt_irrefl _)) (.int .u8 (Z.toNat : Int)))
      have hand := and15_byte s i
      rw [← HZ.out] at hand
      clear row hm hi3
      go_wp2_with fail
      go_roundw
      case rel => exact ⟨m + 1, i + 4, by omega, by have := HI.out; show _ = _; omega, by go_num, HR.out, HM2.out⟩
      case measure => simp [intOf]; omega
    · have hge : ¬ (i : Int) < 16 := by have := HI.out; omega
      have HRB : Hid (Row wr w.heap.size 16 (rcB s 4)) := row.eq (fun j hj => by
        have := HI.out
        unfold rcA rcB
        by_cases e3 : j % 4 = 3
        · rw [if_pos ⟨e3, by omega⟩, if_pos e3]
        · rw [if_neg (by omega), if_neg e3, if_neg (by omega)])
      have HMB := Lib.hid hm
      clear row hm
      obtain ⟨wo, hwo⟩ : ∃ wo : World, wo = wr := ⟨_, rfl⟩
      rw [← hwo] at HRB HMB ⊢
      clear hwo
      go_wp2_with fail
      go_loopw [6] (fun v wr => ∃ m i : Nat, m ≤ 3 ∧ Hid (i = 4 * m + 4) ∧ v = .int .i64 (i : Int) ∧ Row wr w.heap.size 16 (rcB s i) ∧ Mod (fun _ => False) w wr) (fun v _ => 20 - (intOf v).toNat)
      case atStart => exact ⟨0, 4, by omega, rfl, rfl, HRB.out, HMB.out⟩
      case round =>
        obtain ⟨m, i, hm4, HI, rfl, row, hm⟩ := hrel
        by_cases hlt : m < 3
        · have hi0 : (0 : Int) ≤ (i : Int) := by omega
          have hlt2 : (i : Int) < 16 := by have := HI.out; omega
          have hi16 : i < 16 := by omega
          have hi3 : i % 4 = 0 := by have := HI.out; omega
          have hip : 0 < i := by have := HI.out; omega
          have ec : wr.cell? ⟨w.heap.size, i, none⟩ = some (.int .u8 (byteAt s i : Int)) := by
            have := row.cell i hi16
            unfold rcB at this
            rw [if_neg (by omega), if_neg (by omega)] at this
            exact this
          have ef := row.free i hi16
          obtain ⟨Z, HZ⟩ : ∃ Z : UInt8, Hid (Z = byteU s i &&& 252) := ⟨_, rfl⟩
          have HR := Lib.hid ((row.set i hi16 Z (fun j => if j = i then Z else rcB s i j) (if_pos rfl) (fun j _ hne => if_neg hne)).eq (fun j _ => rcB_upd s i hi3 hip Z HZ.out j))
          have HM2 := Lib.hid (hm.setCell (p := ⟨w.heap.size, i, none⟩) (fun hh => absurd hh (Nat.lt_irrefl _)) (.int .u8 (Z.toNat : Int)))
          have hand := and252_byte s i
          rw [← HZ.out] at hand
          clear row hm hi3
          go_wp2_with fail
          go_roundw
          case rel => exact ⟨m + 1, i + 4, by omega, by have := HI.out; show _ = _; omega, by go_num, HR.out, HM2.out⟩
          case measure => simp [intOf]; omega
        · have hge : ¬ (i : Int) < 16 := by have := HI.out; omega
          have hst := cl_str s (C := C) (row.eq (f' := clB s) (fun j hj => by
            have := HI.out
            unfold rcB clB
            by_cases e3 : j % 4 = 3
            · rw [if_pos e3, if_pos e3]
            · rw [if_neg e3, if_neg e3]
              by_cases e4 : j % 4 = 0 ∧ 0 < j
              · rw [if_pos ⟨e4.1, e4.2, by omega⟩, if_pos e4]
              · rw [if_neg (by omega), if_neg e4]))
          have HMF := Lib.hid hm
          clear row hm
          go_wp2_with fail
          go_ret2
          exact ⟨rfl, HMF.out⟩
end Go.Proofs.Ytfmfopbcgohdgaa
