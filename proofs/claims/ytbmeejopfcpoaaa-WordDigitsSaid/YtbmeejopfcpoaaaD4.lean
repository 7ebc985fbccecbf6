/- The bytes of digits. -/
import Derived.Test.YtbmeejopfcpoaaaD3
namespace Go.Proofs.Ytbmeejopfcpoaaa
open Go.RowKit
set_option linter.unusedSimpArgs false
set_option linter.unusedVariables false

def dg (s : ByteArray) (i : Nat) : Nat := digN (byteAt s i)
def unL (s : ByteArray) (k : Nat) : List UInt8 := (List.range k).map fun j => UInt8.ofNat (16 * dg s (2 * j) + dg s (2 * j + 1))
theorem unL_succ (s : ByteArray) (k : Nat) : unL s (k + 1) = unL s k ++ [UInt8.ofNat (16 * dg s (2 * k) + dg s (2 * k + 1))] := by
  unfold unL; rw [List.range_succ]; simp
theorem unL_length (s : ByteArray) (k : Nat) : (unL s k).length = k := by simp [unL]
def AllDig (s : ByteArray) (n : Nat) : Prop := ∀ i, i < n → dg s i < 16
theorem u8_join (a b : Nat) (ha : a < 16) (hb : b < 16) : bits BinOp.or IntKind.u8 (IntKind.u8.wrap ((a : Int) * 16)) (b : Int) = ((UInt8.ofNat (16 * a + b)).toNat : Int) := by
  rw [IntKind.wrap_u8, show (a : Int) * 16 % 256 = ((a * 16 : Nat) : Int) by omega, u8_or_nat _ _ (by omega) (by omega), nat_join 4 (a * 16) b (by omega) (by omega), UInt8.toNat_ofNat']
  omega
theorem digit_ok (x D : Nat) (w : World) (hx : x < 256) (h : digN x = D) (hD : D < 16) : Calls Try.prog 35 #[.int .u8 (x : Int)] w fun e w' => e = .returned (.tuple #[.int .u8 (D : Int), .bool true]) ∧ w = w' := by
  have := digit_any x w hx
  rw [h, if_neg (by omega), decide_eq_true hD] at this
  exact this
theorem digit_none (x : Nat) (w : World) (hx : x < 256) (h : ¬ digN x < 16) : Calls Try.prog 35 #[.int .u8 (x : Int)] w fun e w' => e = .returned (.tuple #[.int .u8 0, .bool false]) ∧ w = w' := by
  have := digit_any x w hx
  have e : digN x = 16 := by have := digN_le x; omega
  rw [e, if_pos rfl, decide_eq_false (by decide)] at this
  exact this
set_option maxRecDepth 100000 in
set_option maxHeartbeats 1000000 in
theorem unhex_ok (s : ByteArray) (w : World) (hs : s.size ≤ 10000) (m : Nat) (hm : s.size = 2 * m) :
    Calls Try.prog 26 #[.string s] w fun e w' => ((e = .returned (.tuple #[.string ⟨(unL s m).toArray⟩, .int .i64 0]) ∧ AllDig s s.size) ∨ (e = .returned (.tuple #[.string ⟨#[]⟩, .int .i64 1]) ∧ ¬ AllDig s s.size)) ∧ Mod (fun _ => False) w w' := by
  have hr : (((s.size : Nat) : Int) % 2 != 0) = false := by rw [bne_eq_false_iff_eq]; omega
  have HM := Lib.hid hm
  have FR := Lib.hid (bld_fresh w)
  clear hm
  go_enter Try.func26, Try.ntmps26
  go_wp2_with fail
  go_loopw [5] (fun i wr => ∃ k j : Nat, k ≤ m ∧ j = 2 * k ∧ i = .int .i64 (j : Int) ∧ Bld w wr w.heap.size (unL s k) ∧ AllDig s j) (fun i _ => s.size - (intOf i).toNat)
  case atStart => exact ⟨0, 0, by omega, rfl, rfl, FR.out, fun i hi => by omega⟩
  case round =>
    obtain ⟨k, j, hk, hj, rfl, bld, alld⟩ := hrel
    have HA := Lib.hid alld
    have HJ := Lib.hid hj
    clear hj alld
    have hi0 : (0 : Int) ≤ (j : Int) := by omega
    by_cases hlt : k < m
    · have hb2 : j + 2 ≤ s.size := by have := HM.out; have := HJ.out; omega
      have hlt2 : (j : Int) < ((s.size : Nat) : Int) := by omega
      have hlt3 : (j : Int) + 1 < ((s.size : Nat) : Int) := by omega
      have hj0 : (0 : Int) ≤ (j : Int) + 1 := by omega
      have wr1 : wrap64 ((j : Int) + 1) = (j : Int) + 1 := by simp only [wrap64]; omega
      have wr2 : wrap64 ((j : Int) + 2) = (j : Int) + 2 := by simp only [wrap64]; omega
      have HL := Lib.hid (unL_succ s k)
      have HN := Lib.hid (unL_length s k)
      obtain ⟨X, HX, hX⟩ : ∃ X : Nat, Hid (byteAt s j = X) ∧ X < 256 := ⟨_, rfl, byteAt_lt s j⟩
      obtain ⟨Y, HY, hY⟩ : ∃ Y : Nat, Hid (byteAt s (j + 1) = Y) ∧ Y < 256 := ⟨_, rfl, byteAt_lt s (j + 1)⟩
      have hgx : s[j].toNat = X := by rw [byteAt_get s j (by omega), HX.out]
      have hgy : s[j + 1].toNat = Y := by rw [byteAt_get s (j + 1) (by omega), HY.out]
      by_cases dX : digN X < 16
      · obtain ⟨DX, hDX, hDX2⟩ : ∃ D : Nat, digN X = D ∧ D < 16 := ⟨_, rfl, dX⟩
        by_cases dY : digN Y < 16
        · obtain ⟨DY, hDY, hDY2⟩ : ∃ D : Nat, digN Y = D ∧ D < 16 := ⟨_, rfl, dY⟩
          have HJN := Lib.hid (u8_join DX DY hDX2 hDY2)
          have hdx0 : (0 : Int) ≤ (DX : Int) := by omega
          have HAN : Hid (AllDig s (j + 2)) := by
            show ∀ i, _
            intro i hi
            by_cases e0 : i < j
            · exact HA.out i e0
            · by_cases e1 : i = j
              · subst e1; unfold dg; rw [HX.out]; exact dX
              · obtain rfl : i = j + 1 := by omega
                unfold dg; rw [HY.out]; exact dY
          have HLN : Hid (unL s (k + 1) = unL s k ++ [UInt8.ofNat (16 * DX + DY)]) := by
            show _ = _
            rw [HL.out, ← HJ.out]; unfold dg; rw [HX.out, HY.out, hDX, hDY]
          have HDX := Lib.hid hDX
          have HDY := Lib.hid hDY
          clear dX dY hDX hDY HA
          go_wp2_with fail
          refine (digit_ok X DX _ hX HDX.out hDX2).mono ?_
          rintro e w1 ⟨rfl, rfl⟩
          go_wp2_with fail
          refine (digit_ok Y DY _ hY HDY.out hDY2).mono ?_
          rintro e w1 ⟨rfl, rfl⟩
          go_wp2_with fail
          refine (wbyte_any w _ _ _ bld (UInt8.ofNat (16 * DX + DY)) _ ?c1 ?hl).mono ?_
          case c1 => first | exact HJN.out | (rw [← HJN.out]; congr 1; rw [IntKind.wrap_u8]; omega)
          case hl => have := HN.out; have := HM.out; omega
          rintro e w2 ⟨rfl, used⟩
          rw [← HLN.out] at used
          clear bld
          go_wp2_with fail
          go_roundw
          case rel => exact ⟨k + 1, j + 2, by omega, by have := HJ.out; omega, by go_num, used.bld, HAN.out⟩
          case measure => simp [intOf]; omega
        · have HNO : Hid (¬ AllDig s s.size) := by
            show ¬ _
            intro h
            have := h (j + 1) (by omega)
            unfold dg at this; rw [HY.out] at this; exact dY this
          have HDX := Lib.hid hDX
          have HdY := Lib.hid dY
          clear dX dY hDX
          go_wp2_with fail
          refine (digit_ok X DX _ hX HDX.out hDX2).mono ?_
          rintro e w1 ⟨rfl, rfl⟩
          go_wp2_with fail
          refine (digit_none Y _ hY HdY.out).mono ?_
          rintro e w1 ⟨rfl, rfl⟩
          go_wp2_with fail
          go_ret2
          exact ⟨.inr ⟨rfl, HNO.out⟩, bld.2⟩
      · have HNO : Hid (¬ AllDig s s.size) := by
          show ¬ _
          intro h
          have := h j (by omega)
          unfold dg at this; rw [HX.out] at this; exact dX this
        have HdX := Lib.hid dX
        clear dX
        by_cases dY : digN Y < 16
        · obtain ⟨DY, hDY, hDY2⟩ : ∃ D : Nat, digN Y = D ∧ D < 16 := ⟨_, rfl, dY⟩
          have HDY := Lib.hid hDY
          clear dY hDY
          go_wp2_with fail
          refine (digit_none X _ hX HdX.out).mono ?_
          rintro e w1 ⟨rfl, rfl⟩
          go_wp2_with fail
          refine (digit_ok Y DY _ hY HDY.out hDY2).mono ?_
          rintro e w1 ⟨rfl, rfl⟩
          go_wp2_with fail
          go_ret2
          exact ⟨.inr ⟨rfl, HNO.out⟩, bld.2⟩
        · have HdY := Lib.hid dY
          clear dY
          go_wp2_with fail
          refine (digit_none X _ hX HdX.out).mono ?_
          rintro e w1 ⟨rfl, rfl⟩
          go_wp2_with fail
          refine (digit_none Y _ hY HdY.out).mono ?_
          rintro e w1 ⟨rfl, rfl⟩
          go_wp2_with fail
          go_ret2
          exact ⟨.inr ⟨rfl, HNO.out⟩, bld.2⟩
    · obtain rfl : k = m := by omega
      have hge : ¬ ((j : Int) < ((s.size : Nat) : Int)) := by have := HM.out; have := HJ.out; omega
      go_wp2_with fail
      refine (string_any w _ _ _ bld).mono ?_
      rintro e w4 ⟨rfl, m4⟩
      go_wp2_with fail
      go_ret2
      exact ⟨.inl ⟨rfl, by rw [HM.out, ← HJ.out]; exact HA.out⟩, m4⟩
end Go.Proofs.Ytbmeejopfcpoaaa
