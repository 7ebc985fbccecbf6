/- Whether two texts are the same; the bits of a key that are kept: the walks. The reference's bits of a key that are kept: the walk. -/
import Derived.Test.YtpnpmploaaenlaaMP5
namespace Go.Proofs.Ytpnpmploaaenlaa
open Go.RowKit
set_option linter.unusedSimpArgs false
set_option linter.unusedVariables false

theorem xor_byte (a b : ByteArray) (k : Nat) : bits BinOp.xor IntKind.u8 (byteAt a k : Int) (byteAt b k : Int) = ((byteU a k ^^^ byteU b k).toNat : Int) := by
  rw [u8_xor_nat _ _ (byteAt_lt a k) (byteAt_lt b k), UInt8.toNat_xor]; rfl
theorem or_byte (d e : UInt8) : bits BinOp.or IntKind.u8 (d.toNat : Int) (e.toNat : Int) = ((d ||| e).toNat : Int) := by
  rw [u8_or_nat _ _ d.toNat_lt e.toNat_lt, UInt8.toNat_or]
theorem bytes_back' (s : ByteArray) : (⟨(bytes s).toArray⟩ : ByteArray) = s := rfl
/-- The bytes' differences, joined. -/
def diffs (a b : ByteArray) : Nat → UInt8
  | 0 => 0
  | k + 1 => diffs a b k ||| (byteU a k ^^^ byteU b k)
theorem diffs_zero (a b : ByteArray) (k : Nat) : diffs a b k = 0 ↔ ∀ j, j < k → byteU a j = byteU b j := by
  induction k with
  | zero => simp [diffs]
  | succ k ih =>
    show diffs a b k ||| (byteU a k ^^^ byteU b k) = 0 ↔ _
    rw [UInt8.or_eq_zero_iff, UInt8.xor_eq_zero_iff, ih]
    constructor
    · rintro ⟨h1, h2⟩ j hj
      by_cases e : j = k
      · subst e; exact h2
      · exact h1 j (by omega)
    · intro h
      exact ⟨fun j hj => h j (by omega), h k (by omega)⟩
set_option maxRecDepth 100000 in
set_option maxHeartbeats 2000000 in
theorem bytes_ext {a b : ByteArray} (hs : a.size = b.size) (h : ∀ j, j < a.size → byteU a j = byteU b j) : a = b := by
  rw [← bytes_back' a, ← bytes_back' b]
  congr 2
  apply List.ext_getElem?
  intro j
  have la : (bytes a).length = a.size := by unfold bytes; simp
  have lb : (bytes b).length = b.size := by unfold bytes; simp
  by_cases hj : j < a.size
  · have := h j hj
    unfold byteU at this
    rw [List.getD_eq_getElem?_getD, List.getD_eq_getElem?_getD, List.getElem?_eq_getElem (by omega), List.getElem?_eq_getElem (by omega)] at this
    rw [List.getElem?_eq_getElem (by omega), List.getElem?_eq_getElem (by omega)]
    exact congrArg some this
  · rw [List.getElem?_eq_none (by omega), List.getElem?_eq_none (by omega)]
/-- A byte of the first half, clamped. -/
def clB (s : ByteArray) (k : Nat) : UInt8 := if k % 4 = 3 then byteU s k &&& 15 else if k % 4 = 0 ∧ 0 < k then byteU s k &&& 252 else byteU s k
def clM (s : ByteArray) (k : Nat) (j : Nat) : UInt8 := if j < k then clB s j else byteU s j
def clS (s : ByteArray) : ByteArray := ⟨((List.range 16).map (clB s)).toArray⟩
theorem and15_byte (s : ByteArray) (k : Nat) : bits BinOp.and IntKind.u8 (byteAt s k : Int) 15 = ((byteU s k &&& 15).toNat : Int) := by
  rw [show (15 : Int) = ((15 : Nat) : Int) from rfl, u8_and_nat _ _ (byteAt_lt s k) (by decide), UInt8.toNat_and]; rfl
theorem and252_byte (s : ByteArray) (k : Nat) : bits BinOp.and IntKind.u8 (byteAt s k : Int) 252 = ((byteU s k &&& 252).toNat : Int) := by
  rw [show (252 : Int) = ((252 : Nat) : Int) from rfl, u8_and_nat _ _ (byteAt_lt s k) (by decide), UInt8.toNat_and]; rfl
theorem andNot3_byte (s : ByteArray) (k : Nat) : bits BinOp.andNot IntKind.u8 (byteAt s k : Int) 3 = ((byteU s k &&& 252).toNat : Int) := by
  rw [show (3 : Int) = ((3 : Nat) : Int) from rfl, u8_andNot_nat _ _ (byteAt_lt s k) (by decide), UInt8.toNat_and]; rfl
theorem clM_upd (s : ByteArray) (k : Nat) (x : UInt8) (hx : x = clB s k) (j : Nat) : (if j = k then x else clM s k j) = clM s (k + 1) j := by
  unfold clM
  by_cases e : j = k
  · subst e; rw [if_pos rfl, if_pos (by omega), hx]
  · rw [if_neg e]
    by_cases e2 : j < k
    · rw [if_pos e2, if_pos (by omega)]
    · rw [if_neg e2, if_neg (by omega)]
theorem cl_str (s : ByteArray) {w : World} {g C : Nat} (row : Row w g 16 (clB s)) : (convert 33 9 (.slice (some ⟨g, 0, none⟩) 16 C)).run Try.prog w = .ok (.string (clS s)) w := by
  have hl : ((List.range 16).map (clB s)).length = 16 := by simp
  have hrow : Row w g ((List.range 16).map (clB s)).length (fun j => ((List.range 16).map (clB s)).getD j 0) := by
    rw [hl]
    refine row.eq (fun j hj => ?_)
    rw [List.getD_eq_getElem?_getD, List.getElem?_map, List.getElem?_range hj]
    rfl
  have := hrow.str C
  rw [hl] at this
  exact this
theorem clamp_bad (s : ByteArray) (w : World) (hs : s.size ≠ 16) :
    Calls Try.prog 39 #[.string s] w fun e w' => e = .returned (.tuple #[.string ⟨#[]⟩, .int .i64 1]) ∧ w = w' := by
  have hne : (((s.size : Nat) : Int) != 16) = true := by rw [bne_iff_ne]; omega
  go_enter Try.func39, Try.ntmps39
  go_wp2_with fail
  go_ret2
  exact ⟨rfl, rfl⟩
theorem rclamp_bad (s : ByteArray) (w : World) (hs : s.size ≠ 16) :
    Calls Try.prog 48 #[.string s] w fun e w' => e = .returned (.tuple #[.string ⟨#[]⟩, .int .i64 1]) ∧ w = w' := by
  have hne : (((s.size : Nat) : Int) != 16) = true := by rw [bne_iff_ne]; omega
  go_enter Try.func48, Try.ntmps48
  go_wp2_with fail
  go_ret2
  exact ⟨rfl, rfl⟩
set_option maxRecDepth 100000 in
set_option maxHeartbeats 2000000 in
theorem clamp_ok (s : ByteArray) (w : World) (hs : s.size = 16) :
    Calls Try.prog 39 #[.string s] w fun e w' => e = .returned (.tuple #[.string (clS s), .int .i64 0]) ∧ Mod (fun _ => False) w w' := by
  have hne : (((s.size : Nat) : Int) != 16) = false := by rw [bne_eq_false_iff_eq]; omega
  obtain ⟨C, W1, hcv, m1, hsz, row1⟩ := conv_row s w
  rw [hs] at hcv row1
  have HROW := Lib.hid row1
  have HM1 := Lib.hid m1
  clear row1 m1
  go_enter Try.func39, Try.ntmps39
  go_wp2_with fail
  clear hcv
  go_loopw [13] (fun i wr => ∃ k : Nat, k ≤ 16 ∧ i = .int .i64 (k : Int) ∧ Row wr w.heap.size 16 (clM s k) ∧ Mod (fun _ => False) w wr) (fun i _ => 16 - (intOf i).toNat)
  case atStart => exact ⟨0, by omega, rfl, HROW.out.eq (fun j _ => by unfold clM; rw [if_neg (by omega)]), HM1.out⟩
  case round =>
    obtain ⟨k, hk, rfl, row, hm⟩ := hrel
    by_cases hlt : k < 16
    · have hi0 : (0 : Int) ≤ (k : Int) := by omega
      have hlt2 : (k : Int) < 16 := by omega
      have ec : wr.cell? ⟨w.heap.size, k, none⟩ = some (.int .u8 (byteAt s k : Int)) := by
        have := row.cell k hlt
        unfold clM at this
        rw [if_neg (by omega)] at this
        exact this
      have ef := row.free k hlt
      have HRW := Lib.hid row
      have HM := Lib.hid hm
      clear row hm
      obtain ⟨Z, HZ⟩ : ∃ Z : UInt8, Hid (Z = clB s k) := ⟨_, rfl⟩
      have HR := Lib.hid ((HRW.out.set k hlt Z (fun j => if j = k then Z else clM s k j) (if_pos rfl) (fun j _ hne => if_neg hne)).eq (fun j _ => clM_upd s k Z HZ.out j))
      have HM2 := Lib.hid (HM.out.setCell (p := ⟨w.heap.size, k, none⟩) (fun hh => absurd hh (Nat.lt_irrefl _)) (.int .u8 (Z.toNat : Int)))
      by_cases h3 : k % 4 = 3
      · have hm3 : (((k : Int) % 4) == 3) = true := by rw [beq_iff_eq]; omega
        have hand := and15_byte s k
        rw [show byteU s k &&& 15 = Z by rw [HZ.out]; unfold clB; rw [if_pos h3]] at hand
        clear h3
        go_wp2_with fail
        go_roundw
        case rel => exact ⟨k + 1, by omega, by go_num, HR.out, HM2.out⟩
        case measure => simp [intOf]; omega
      · have hm3 : (((k : Int) % 4) == 3) = false := by rw [beq_eq_false_iff_ne]; omega
        by_cases h4 : k % 4 = 0 ∧ 0 < k
        · have hm4 : (((k : Int) % 4) == 0) = true := by rw [beq_iff_eq]; omega
          have hp : (0 : Int) < (k : Int) := by omega
          have hand := andNot3_byte s k
          rw [show byteU s k &&& 252 = Z by rw [HZ.out]; unfold clB; rw [if_neg h3, if_pos h4]] at hand
          clear h3 h4
          go_wp2_with fail
          go_roundw
          case rel => exact ⟨k + 1, by omega, by go_num, HR.out, HM2.out⟩
          case measure => simp [intOf]; omega
        · have HR0 : Hid (Row wr w.heap.size 16 (clM s (k + 1))) := HRW.out.eq (fun j _ => by
            have e := clM_upd s k (byteU s k) (by unfold clB; rw [if_neg h3, if_neg h4]) j
            rw [← e]
            by_cases ej : j = k
            · subst ej; rw [if_pos rfl]; unfold clM; rw [if_neg (by omega)]
            · rw [if_neg ej])
          by_cases h5 : k = 0
          · subst h5
            clear h3 h4 hm3
            go_wp2_with fail
            go_roundw
            case rel => exact ⟨0 + 1, by omega, by go_num, HR0.out, HM.out⟩
            case measure => simp [intOf]
          · have hm4 : (((k : Int) % 4) == 0) = false := by rw [beq_eq_false_iff_ne]; omega
            clear h3 h4
            go_wp2_with fail
            go_roundw
            case rel => exact ⟨k + 1, by omega, by go_num, HR0.out, HM.out⟩
            case measure => simp [intOf]; omega
    · obtain rfl : k = 16 := by omega
      have hst := cl_str s (C := C) (row.eq (f' := clB s) (fun j hj => by unfold clM; rw [if_pos hj]))
      clear row
      go_wp2_with fail
      go_ret2
      exact ⟨rfl, hm⟩
end Go.Proofs.Ytpnpmploaaenlaa
namespace Go.Proofs.Ytpnpmploaaenlaa
open Go.RowKit
set_option linter.unusedSimpArgs false
set_option linter.unusedVariables false

def rcA (s : ByteArray) (i : Nat) (j : Nat) : UInt8 := if j % 4 = 3 ∧ j < i then byteU s j &&& 15 else byteU s j
def rcB (s : ByteArray) (i : Nat) (j : Nat) : UInt8 := if j % 4 = 3 then byteU s j &&& 15 else if j % 4 = 0 ∧ 0 < j ∧ j < i then byteU s j &&& 252 else byteU s j
theorem rcA_upd (s : ByteArray) (i : Nat) (hi : i % 4 = 3) (x : UInt8) (hx : x = byteU s i &&& 15) (j : Nat) : (if j = i then x else rcA s i j) = rcA s (i + 4) j := by
  unfold rcA
  by_cases e : j = i
  · subst e; rw [if_pos rfl, if_pos ⟨hi, by omega⟩, hx]
  · rw [if_neg e]
    by_cases e2 : j % 4 = 3 ∧ j < i
    · rw [if_pos e2, if_pos ⟨e2.1, by omega⟩]
    · rw [if_neg e2, if_neg (by omega)]
theorem rcB_upd (s : ByteArray) (i : Nat) (hi : i % 4 = 0) (h0 : 0 < i) (x : UInt8) (hx : x = byteU s i &&& 252) (j : Nat) : (if j = i then x else rcB s i j) = rcB s (i + 4) j := by
  unfold rcB
  by_cases e : j = i
  · subst e; rw [if_pos rfl, if_neg (by omega), if_pos ⟨hi, h0, by omega⟩, hx]
  · rw [if_neg e]
    by_cases e3 : j % 4 = 3
    · rw [if_pos e3, if_pos e3]
    · rw [if_neg e3, if_neg e3]
      by_cases e2 : j % 4 = 0 ∧ 0 < j ∧ j < i
      · rw [if_pos e2, if_pos ⟨e2.1, e2.2.1, by omega⟩]
      · rw [if_neg e2, if_neg (by omega)]
set_option maxRecDepth 100000 in
set_option maxHeartbeats 2000000 in
theorem rclamp_ok (s : ByteArray) (w : World) (hs : s.size = 16) :
    Calls Try.prog 48 #[.string s] w fun e w' => e = .returned (.tuple #[.string (clS s), .int .i64 0]) ∧ Mod (fun _ => False) w w' := by
  have hne : (((s.size : Nat) : Int) != 16) = false := by rw [bne_eq_false_iff_eq]; omega
  obtain ⟨C, W1, hcv, m1, hsz, row1⟩ := conv_row s w
  rw [hs] at hcv row1
  have HROW := Lib.hid row1
  have HM1 := Lib.hid m1
  clear row1 m1
  go_enter Try.func48, Try.ntmps48
  go_wp2_with fail
  clear hcv
  go_loopw [5] (fun v wr => ∃ m i : Nat, m ≤ 4 ∧ Hid (i = 4 * m + 3) ∧ v = .int .i64 (i : Int) ∧ Row wr w.heap.size 16 (rcA s i) ∧ Mod (fun _ => False) w wr) (fun v _ => 20 - (intOf v).toNat)
  case atStart => exact ⟨0, 3, by omega, rfl, rfl, HROW.out.eq (fun j _ => by unfold rcA; rw [if_neg (by omega)]), HM1.out⟩
  case round =>
    obtain ⟨m, i, hm4, HI, rfl, row, hm⟩ := hrel
    by_cases hlt : m < 4
    · have hi0 : (0 : Int) ≤ (i : Int) := by omega
      have hlt2 : (i : Int) < 16 := by have := HI.out; omega
      have hi16 : i < 16 := by omega
      have hi3 : i % 4 = 3 := by have := HI.out; omega
      have ec : wr.cell? ⟨w.heap.size, i, none⟩ = some (.int .u8 (byteAt s i : Int)) := by
        have := row.cell i hi16
        unfold rcA at this
        rw [if_neg (by omega)] at this
        exact this
      have ef := row.free i hi16
      obtain ⟨Z, HZ⟩ : ∃ Z : UInt8, Hid (Z = byteU s i &&& 15) := ⟨_, rfl⟩
      have HR := Lib.hid ((row.set i hi16 Z (fun j => if j = i then Z else rcA s i j) (if_pos rfl) (fun j _ hne => if_neg hne)).eq (fun j _ => rcA_upd s i hi3 Z HZ.out j))
      have HM2 := Lib.hid (hm.setCell (p := ⟨w.heap.size, i, none⟩) (fun hh => absurd hh (Nat.lt_irrefl _)) (.int .u8 (Z.toNat : Int)))
      have hand := and15_byte s i
      rw [← HZ.out] at hand
      clear row hm hi3
      go_wp2_with fail
      go_roundw
      case rel => exact ⟨m + 1, i + 4, by omega, by have := HI.out; show _ = _; omega, by go_num, HR.out, HM2.out⟩
      case measure => simp [intOf]; omega
    · have hge : ¬ (i : Int) < 16 := by have := HI.out; omega
      have HRB : Hid (Row wr w.heap.size 16 (rcB s 4)) := row.eq (fun j hj => by
        have := HI.out
        unfold rcA rcB
        by_cases e3 : j % 4 = 3
        · rw [if_pos ⟨e3, by omega⟩, if_pos e3]
        · rw [if_neg (by omega), if_neg e3, if_neg (by omega)])
      have HMB := Lib.hid hm
      clear row hm
      obtain ⟨wo, hwo⟩ : ∃ wo : World, wo = wr := ⟨_, rfl⟩
      rw [← hwo] at HRB HMB ⊢
      clear hwo
      go_wp2_with fail
      go_loopw [6] (fun v wr => ∃ m i : Nat, m ≤ 3 ∧ Hid (i = 4 * m + 4) ∧ v = .int .i64 (i : Int) ∧ Row wr w.heap.size 16 (rcB s i) ∧ Mod (fun _ => False) w wr) (fun v _ => 20 - (intOf v).toNat)
      case atStart => exact ⟨0, 4, by omega, rfl, rfl, HRB.out, HMB.out⟩
      case round =>
        obtain ⟨m, i, hm4, HI, rfl, row, hm⟩ := hrel
        by_cases hlt : m < 3
        · have hi0 : (0 : Int) ≤ (i : Int) := by omega
          have hlt2 : (i : Int) < 16 := by have := HI.out; omega
          have hi16 : i < 16 := by omega
          have hi3 : i % 4 = 0 := by have := HI.out; omega
          have hip : 0 < i := by have := HI.out; omega
          have ec : wr.cell? ⟨w.heap.size, i, none⟩ = some (.int .u8 (byteAt s i : Int)) := by
            have := row.cell i hi16
            unfold rcB at this
            rw [if_neg (by omega), if_neg (by omega)] at this
            exact this
          have ef := row.free i hi16
          obtain ⟨Z, HZ⟩ : ∃ Z : UInt8, Hid (Z = byteU s i &&& 252) := ⟨_, rfl⟩
          have HR := Lib.hid ((row.set i hi16 Z (fun j => if j = i then Z else rcB s i j) (if_pos rfl) (fun j _ hne => if_neg hne)).eq (fun j _ => rcB_upd s i hi3 hip Z HZ.out j))
          have HM2 := Lib.hid (hm.setCell (p := ⟨w.heap.size, i, none⟩) (fun hh => absurd hh (Nat.lt_irrefl _)) (.int .u8 (Z.toNat : Int)))
          have hand := and252_byte s i
          rw [← HZ.out] at hand
          clear row hm hi3
          go_wp2_with fail
          go_roundw
          case rel => exact ⟨m + 1, i + 4, by omega, by have := HI.out; show _ = _; omega, by go_num, HR.out, HM2.out⟩
          case measure => simp [intOf]; omega
        · have hge : ¬ (i : Int) < 16 := by have := HI.out; omega
          have hst := cl_str s (C := C) (row.eq (f' := clB s) (fun j hj => by
            have := HI.out
            unfold rcB clB
            by_cases e3 : j % 4 = 3
            · rw [if_pos e3, if_pos e3]
            · rw [if_neg e3, if_neg e3]
              by_cases e4 : j % 4 = 0 ∧ 0 < j
              · rw [if_pos ⟨e4.1, e4.2, by omega⟩, if_pos e4]
              · rw [if_neg (by omega), if_neg e4]))
          have HMF := Lib.hid hm
          clear row hm
          go_wp2_with fail
          go_ret2
          exact ⟨rfl, HMF.out⟩
end Go.Proofs.Ytpnpmploaaenlaa
