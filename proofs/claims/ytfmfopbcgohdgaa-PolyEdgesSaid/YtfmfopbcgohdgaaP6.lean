/- Whether two texts are the same; the bits of a key that are kept: the walks. -/
import Derived.Test.YtfmfopbcgohdgaaP5
namespace Go.Proofs.Ytfmfopbcgohdgaa
open Go.RowKit
set_option linter.unusedSimpArgs false
set_option linter.unusedVariables false

theorem xor_byte (a b : ByteArray) (k : Nat) : bits BinOp.xor IntKind.u8 (byteAt a k : Int) (byteAt b k : Int) = ((byteU a k ^^^ byteU b k).toNat : Int) := by
  rw [u8_xor_nat _ _ (byteAt_lt a k) (byteAt_lt b k), UInt8.toNat_xor]; rfl
theorem or_byte (d e : UInt8) : bits BinOp.or IntKind.u8 (d.toNat : Int) (e.toNat : Int) = ((d ||| e).toNat : Int) := by
  rw [u8_or_nat _ _ d.toNat_lt e.toNat_lt, UInt8.toNat_or]
theorem bytes_back' (s : ByteArray) : (⟨(bytes s).toArray⟩ : ByteArray) = s := rfl
/-- The bytes' differences, joined. -/
def diffs (a b : ByteArray) : Nat → UInt8
  | 0 => 0
  | k + 1 => diffs a b k ||| (byteU a k ^^^ byteU b k)
theorem diffs_zero (a b : ByteArray) (k : Nat) : diffs a b k = 0 ↔ ∀ j, j < k → byteU a j = byteU b j := by
  induction k with
  | zero => simp [diffs]
  | succ k ih =>
    show diffs a b k ||| (byteU a k ^^^ byteU b k) = 0 ↔ _
    rw [UInt8.or_eq_zero_iff, UInt8.xor_eq_zero_iff, ih]
    constructor
    · rintro ⟨h1, h2⟩ j hj
      by_cases e : j = k
      · subst e; exact h2
      · exact h1 j (by omega)
    · intro h
      exact ⟨fun j hj => h j (by omega), h k (by omega)⟩
set_option maxRecDepth 100000 in
set_option maxHeartbeats 2000000 in
theorem same_ok (a b : ByteArray) (w : World) (ha : a.size ≤ 100000) (hab : a.size = b.size) (r : Bool) (hr : ((((diffs a b a.size).toNat : Nat) : Int) == 0) = r) :
    Calls Try.prog 24 #[.string a, .string b] w fun e w' => e = .returned (.bool r) ∧ Mod (fun _ => False) w w' := by
  have hne : (((a.size : Nat) : Int) != ((b.size : Nat) : Int)) = false := by rw [bne_eq_false_iff_eq]; omega
  have HAB := Lib.hid hab
  have HR := Lib.hid hr
  clear hab hr
  go_enter Try.func24, Try.ntmps24
  go_wp2_with fail
  go_loopw [5, 14] (fun d i wr => ∃ k : Nat, k ≤ a.size ∧ i = .int .i64 (k : Int) ∧ d = .int .u8 ((diffs a b k).toNat : Int) ∧ Mod (fun _ => False) w wr) (fun _ i _ => a.size - (intOf i).toNat)
  case atStart => exact ⟨0, by omega, rfl, rfl, Mod.refl _ _⟩
  case round =>
    obtain ⟨k, hk, rfl, rfl, hm⟩ := hrel
    by_cases hlt : k < a.size
    · have hi0 : (0 : Int) ≤ (k : Int) := by omega
      have hlt2 : (k : Int) < ((a.size : Nat) : Int) := by omega
      have hlt3 : (k : Int) < ((b.size : Nat) : Int) := by have := HAB.out; omega
      have hlt4 : k < b.size := by omega
      have hga : a[k].toNat = byteAt a k := byteAt_get a k hlt
      have hgb : b[k].toNat = byteAt b k := byteAt_get b k hlt4
      have hxor := xor_byte a b k
      obtain ⟨X, HX⟩ : ∃ X : UInt8, Hid (byteU a k ^^^ byteU b k = X) := ⟨_, rfl⟩
      rw [HX.out] at hxor
      obtain ⟨Y, HY⟩ : ∃ Y : Nat, Hid (X.toNat = Y) := ⟨_, rfl⟩
      rw [HY.out] at hxor
      obtain ⟨E, HE⟩ : ∃ E : Nat, Hid ((diffs a b k ||| X).toNat = E) := ⟨_, rfl⟩
      have hor := or_byte (diffs a b k) X
      rw [HE.out, HY.out] at hor
      have HD : Hid ((diffs a b (k + 1)).toNat = E) := by show (diffs a b k ||| (byteU a k ^^^ byteU b k)).toNat = E; rw [HX.out, HE.out]
      generalize (diffs a b k).toNat = D at *
      generalize byteAt a k = A at *
      generalize byteAt b k = B at *
      have HM := Lib.hid hm
      clear hm
      go_wp2_with fail
      go_region
      go_wp2_with fail
      go_roundw
      case rel => exact ⟨k + 1, by omega, by go_num, by rw [HD.out], HM.out.drew⟩
      case measure => simp [intOf]; omega
    · obtain rfl : k = a.size := by omega
      have hrr := HR.out
      go_wp2_with fail
      go_ret
      exact ⟨rfl, hm⟩
theorem same_no (a b : ByteArray) (w : World) (hab : a.size ≠ b.size) :
    Calls Try.prog 24 #[.string a, .string b] w fun e w' => e = .returned (.bool false) ∧ w = w' := by
  have hne : (((a.size : Nat) : Int) != ((b.size : Nat) : Int)) = true := by rw [bne_iff_ne]; omega
  go_enter Try.func24, Try.ntmps24
  go_wp2_with fail
  go_ret
  exact ⟨rfl, rfl⟩
theorem bytes_ext {a b : ByteArray} (hs : a.size = b.size) (h : ∀ j, j < a.size → byteU a j = byteU b j) : a = b := by
  rw [← bytes_back' a, ← bytes_back' b]
  congr 2
  apply List.ext_getElem?
  intro j
  have la : (bytes a).length = a.size := by unfold bytes; simp
  have lb : (bytes b).length = b.size := by unfold bytes; simp
  by_cases hj : j < a.size
  · have := h j hj
    unfold byteU at this
    rw [List.getD_eq_getElem?_getD, List.getD_eq_getElem?_getD, List.getElem?_eq_getElem (by omega), List.getElem?_eq_getElem (by omega)] at this
    rw [List.getElem?_eq_getElem (by omega), List.getElem?_eq_getElem (by omega)]
    exact congrArg some this
  · rw [List.getElem?_eq_none (by omega), List.getElem?_eq_none (by omega)]
theorem same_any (a b : ByteArray) (w : World) (ha : a.size ≤ 100000) :
    Calls Try.prog 24 #[.string a, .string b] w fun e w' => e = .returned (.bool (decide (a = b))) ∧ Mod (fun _ => False) w w' := by
  by_cases hab : a.size = b.size
  · refine same_ok a b w ha hab (decide (a = b)) ?_
    by_cases h : a = b
    · subst h
      have hz := (diffs_zero a a a.size).2 (fun _ _ => rfl)
      rw [hz]; simp
    · have hz : diffs a b a.size ≠ 0 := fun e => h (bytes_ext hab ((diffs_zero a b a.size).1 e))
      have hn : (diffs a b a.size).toNat ≠ 0 := fun e => hz (UInt8.toNat_inj.mp (by rw [e]; rfl))
      rw [decide_eq_false h, beq_eq_false_iff_ne]
      omega
  · refine (same_no a b w hab).mono ?_
    rintro e w' ⟨rfl, rfl⟩
    have h : a ≠ b := fun e => hab (by rw [e])
    exact ⟨by rw [decide_eq_false h], Mod.refl _ _⟩

/-- A byte of the first half, clamped. -/
def clB (s : ByteArray) (k : Nat) : UInt8 := if k % 4 = 3 then byteU s k &&& 15 else if k % 4 = 0 ∧ 0 < k then byteU s k &&& 252 else byteU s k
def clM (s : ByteArray) (k : Nat) (j : Nat) : UInt8 := if j < k then clB s j else byteU s j
def clS (s : ByteArray) : ByteArray := ⟨((List.range 16).map (clB s)).toArray⟩
theorem and15_byte (s : ByteArray) (k : Nat) : bits BinOp.and IntKind.u8 (byteAt s k : Int) 15 = ((byteU s k &&& 15).toNat : Int) := by
  rw [show (15 : Int) = ((15 : Nat) : Int) from rfl, u8_and_nat _ _ (byteAt_lt s k) (by decide), UInt8.toNat_and]; rfl
theorem and252_byte (s : ByteArray) (k : Nat) : bits BinOp.and IntKind.u8 (byteAt s k : Int) 252 = ((byteU s k &&& 252).toNat : Int) := by
  rw [show (252 : Int) = ((252 : Nat) : Int) from rfl, u8_and_nat _ _ (byteAt_lt s k) (by decide), UInt8.toNat_and]; rfl
theorem andNot3_byte (s : ByteArray) (k : Nat) : bits BinOp.andNot IntKind.u8 (byteAt s k : Int) 3 = ((byteU s k &&& 252).toNat : Int) := by
  rw [show (3 : Int) = ((3 : Nat) : Int) from rfl, u8_andNot_nat _ _ (byteAt_lt s k) (by decide), UInt8.toNat_and]; rfl
theorem clM_upd (s : ByteArray) (k : Nat) (x : UInt8) (hx : x = clB s k) (j : Nat) : (if j = k then x else clM s k j) = clM s (k + 1) j := by
  unfold clM
  by_cases e : j = k
  · subst e; rw [if_pos rfl, if_pos (by omega), hx]
  · rw [if_neg e]
    by_cases e2 : j < k
    · rw [if_pos e2, if_pos (by omega)]
    · rw [if_neg e2, if_neg (by omega)]
theorem cl_str (s : ByteArray) {w : World} {g C : Nat} (row : Row w g 16 (clB s)) : (convert 29 9 (.slice (some ⟨g, 0, none⟩) 16 C)).run Try.prog w = .ok (.string (clS s)) w := by
  have hl : ((List.range 16).map (clB s)).length = 16 := by simp
  have hrow : Row w g ((List.range 16).map (clB s)).length (fun j => ((List.range 16).map (clB s)).getD j 0) := by
    rw [hl]
    refine row.eq (fun j hj => ?_)
    rw [List.getD_eq_getElem?_getD, List.getElem?_map, List.getElem?_range hj]
    rfl
  have := hrow.str C
  rw [hl] at this
  exact this
theorem clamp_bad (s : ByteArray) (w : World) (hs : s.size ≠ 16) :
    Calls Try.prog 13 #[.string s] w fun e w' => e = .returned (.tuple #[.string ⟨#[]⟩, .int .i64 1]) ∧ w = w' := by
  have hne : (((s.size : Nat) : Int) != 16) = true := by rw [bne_iff_ne]; omega
  go_enter Try.func13, Try.ntmps13
  go_wp2_with fail
  go_ret2
  exact ⟨rfl, rfl⟩
theorem rclamp_bad (s : ByteArray) (w : World) (hs : s.size ≠ 16) :
    Calls Try.prog 14 #[.string s] w fun e w' => e = .returned (.tuple #[.string ⟨#[]⟩, .int .i64 1]) ∧ w = w' := by
  have hne : (((s.size : Nat) : Int) != 16) = true := by rw [bne_iff_ne]; omega
  go_enter Try.func14, Try.ntmps14
  go_wp2_with fail
  go_ret2
  exact ⟨rfl, rfl⟩
set_option maxRecDepth 100000 in
set_option maxHeartbeats 2000000 in
theorem clamp_ok (s : ByteArray) (w : World) (hs : s.size = 16) :
    Calls Try.prog 13 #[.string s] w fun e w' => e = .returned (.tuple #[.string (clS s), .int .i64 0]) ∧ Mod (fun _ => False) w w' := by
  have hne : (((s.size : Nat) : Int) != 16) = false := by rw [bne_eq_false_iff_eq]; omega
  obtain ⟨C, W1, hcv, m1, hsz, row1⟩ := conv_row s w
  rw [hs] at hcv row1
  have HROW := Lib.hid row1
  have HM1 := Lib.hid m1
  clear row1 m1
  go_enter Try.func13, Try.ntmps13
  go_wp2_with fail
  clear hcv
  go_loopw [13] (fun i wr => ∃ k : Nat, k ≤ 16 ∧ i = .int .i64 (k : Int) ∧ Row wr w.heap.size 16 (clM s k) ∧ Mod (fun _ => False) w wr) (fun i _ => 16 - (intOf i).toNat)
  case atStart => exact ⟨0, by omega, rfl, HROW.out.eq (fun j _ => by unfold clM; rw [if_neg (by omega)]), HM1.out⟩
  case round =>
    obtain ⟨k, hk, rfl, row, hm⟩ := hrel
    by_cases hlt : k < 16
    · have hi0 : (0 : Int) ≤ (k : Int) := by omega
      have hlt2 : (k : Int) < 16 := by omega
      have ec : wr.cell? ⟨w.heap.size, k, none⟩ = some (.int .u8 (byteAt s k : Int)) := by
        have := row.cell k hlt
        unfold clM at this
        rw [if_neg (by omega)] at this
        exact this
      have ef := row.free k hlt
      have HRW := Lib.hid row
      have HM := Lib.hid hm
      clear row hm
      obtain ⟨Z, HZ⟩ : ∃ Z : UInt8, Hid (Z = clB s k) := ⟨_, rfl⟩
      have HR := Lib.hid ((HRW.out.set k hlt Z (fun j => if j = k then Z else clM s k j) (if_pos rfl) (fun j _ hne => if_neg hne)).eq (fun j _ => clM_upd s k Z HZ.out j))
      have HM2 := Lib.hid (HM.out.setCell (p := ⟨w.heap.size, k, none⟩) (fun hh => absurd hh (Nat.lt_irrefl _)) (.int .u8 (Z.toNat : Int)))
      by_cases h3 : k % 4 = 3
      · have hm3 : (((k : Int) % 4) == 3) = true := by rw [beq_iff_eq]; omega
        have hand := and15_byte s k
        rw [show byteU s k &&& 15 = Z by rw [HZ.out]; unfold clB; rw [if_pos h3]] at hand
        clear h3
        go_wp2_with fail
        go_roundw
        case rel => exact ⟨k + 1, by omega, by go_num, HR.out, HM2.out⟩
        case measure => simp [intOf]; omega
      · have hm3 : (((k : Int) % 4) == 3) = false := by rw [beq_eq_false_iff_ne]; omega
        by_cases h4 : k % 4 = 0 ∧ 0 < k
        · have hm4 : (((k : Int) % 4) == 0) = true := by rw [beq_iff_eq]; omega
          have hp : (0 : Int) < (k : Int) := by omega
          have hand := andNot3_byte s k
          rw [show byteU s k &&& 252 = Z by rw [HZ.out]; unfold clB; rw [if_neg h3, if_pos h4]] at hand
          clear h3 h4
          go_wp2_with fail
          go_roundw
          case rel => exact ⟨k + 1, by omega, by go_num, HR.out, HM2.out⟩
          case measure => simp [intOf]; omega
        · have HR0 : Hid (Row wr w.heap.size 16 (clM s (k + 1))) := HRW.out.eq (fun j _ => by
            have e := clM_upd s k (byteU s k) (by unfold clB; rw [if_neg h3, if_neg h4]) j
            rw [← e]
            by_cases ej : j = k
            · subst ej; rw [if_pos rfl]; unfold clM; rw [if_neg (by omega)]
            · rw [if_neg ej])
          by_cases h5 : k = 0
          · subst h5
            clear h3 h4 hm3
            go_wp2_with fail
            go_roundw
            case rel => exact ⟨0 + 1, by omega, by go_num, HR0.out, HM.out⟩
            case measure => simp [intOf]
          · have hm4 : (((k : Int) % 4) == 0) = false := by rw [beq_eq_false_iff_ne]; omega
            clear h3 h4
            go_wp2_with fail
            go_roundw
            case rel => exact ⟨k + 1, by omega, by go_num, HR0.out, HM.out⟩
            case measure => simp [intOf]; omega
    · obtain rfl : k = 16 := by omega
      have hst := cl_str s (C := C) (row.eq (f' := clB s) (fun j hj => by unfold clM; rw [if_pos hj]))
      clear row
      go_wp2_with fail
      go_ret2
      exact ⟨rfl, hm⟩
end Go.Proofs.Ytfmfopbcgohdgaa
