/- The bytes of digits: the reference. -/
import Derived.Test.YtbmeejopfcpoaaaD4
namespace Go.Proofs.Ytbmeejopfcpoaaa
open Go.RowKit
set_option linter.unusedSimpArgs false
set_option linter.unusedVariables false

theorem rdigit_ok (x D : Nat) (w : World) (hx : x < 256) (h : digN x = D) (hD : D < 16) : Calls Try.prog 38 #[.int .u8 (x : Int)] w fun e w' => e = .returned (.int .i64 (D : Int)) ∧ w = w' := by
  have := rdigit_any x w hx
  rw [h, if_neg (by omega)] at this
  exact this
theorem rdigit_none (x : Nat) (w : World) (hx : x < 256) (h : ¬ digN x < 16) : Calls Try.prog 38 #[.int .u8 (x : Int)] w fun e w' => e = .returned (.int .i64 (-1)) ∧ w = w' := by
  have := rdigit_any x w hx
  have e : digN x = 16 := by have := digN_le x; omega
  rw [if_pos e] at this
  exact this
theorem wpList_push_drew {W w : World} {ops : Array Oper} {rest : List Oper} {o : Oper} {a : Act} {Q : Exit → Act → World → Prop} (hgd : o.guard = none) (s x : Operand) (hty : o.type = 44)
    (ho : o.op = .call { callee := .builtin .append, args := #[s, x], argTypes := #[44, 44] }) {v : Value} {l : List UInt8} (hs : a.eval s = v) (h : Acc W w.drew v l) (hl : l.length ≤ 1000000) (b : UInt8) (c : Int) (hc : c = (b.toNat : Int))
    (hx : a.eval x = .slice (some ⟨w.heap.size, 0, none⟩) 1 1)
    (hk : ∀ v' w', Acc W w' v' (l ++ [b]) → wpList Try.prog ops Q rest (a.put o.dst v') w') : wpList Try.prog ops Q (o :: rest) a (w.alloc (.cells #[.int .u8 c] 5)).drew :=
  wpList_push (w := w.drew) hgd s x hty ho hs h hl b c hc hx hk
theorem unhex_odd (s : ByteArray) (w : World) (hm : s.size % 2 ≠ 0) :
    Calls Try.prog 26 #[.string s] w fun e w' => e = .returned (.tuple #[.string ⟨#[]⟩, .int .i64 1]) ∧ w = w' := by
  have hr : (((s.size : Nat) : Int) % 2 != 0) = true := by rw [bne_iff_ne]; omega
  go_enter Try.func26, Try.ntmps26
  go_wp2_with fail
  go_ret2
  exact ⟨rfl, rfl⟩
theorem runhex_odd (s : ByteArray) (w : World) (hm : s.size % 2 ≠ 0) :
    Calls Try.prog 27 #[.string s] w fun e w' => e = .returned (.tuple #[.string ⟨#[]⟩, .int .i64 1]) ∧ w = w' := by
  have hr : (((s.size : Nat) : Int) % 2 != 0) = true := by rw [bne_iff_ne]; omega
  go_enter Try.func27, Try.ntmps27
  go_wp2_with fail
  go_ret2
  exact ⟨rfl, rfl⟩
set_option maxRecDepth 100000 in
set_option maxHeartbeats 2000000 in
theorem runhex_ok (s : ByteArray) (w0 : World) (hs : s.size ≤ 10000) (m : Nat) (hm : s.size = 2 * m) :
    Calls Try.prog 27 #[.string s] w0 fun e w' => ((e = .returned (.tuple #[.string ⟨(unL s m).toArray⟩, .int .i64 0]) ∧ AllDig s s.size) ∨ (e = .returned (.tuple #[.string ⟨#[]⟩, .int .i64 1]) ∧ ¬ AllDig s s.size)) ∧ Mod (fun _ => False) w0 w' := by
  have hr : (((s.size : Nat) : Int) % 2 != 0) = false := by rw [bne_eq_false_iff_eq]; omega
  have HM := Lib.hid hm
  clear hm
  go_enter Try.func27, Try.ntmps27
  go_wp2_with fail
  go_loopw [4, 5] (fun v i wr => ∃ k j : Nat, k ≤ m ∧ j = 2 * k ∧ i = .int .i64 (j : Int) ∧ Acc w0 wr v (unL s k) ∧ AllDig s j) (fun _ i _ => s.size - (intOf i).toNat)
  case atStart => exact ⟨0, 0, by omega, rfl, rfl, Acc.nil _, fun i hi => by omega⟩
  case round =>
    obtain ⟨k, j, hk, hj, rfl, acc, alld⟩ := hrel
    have HA := Lib.hid alld
    have HJ := Lib.hid hj
    clear hj alld
    have hi0 : (0 : Int) ≤ (j : Int) := by omega
    by_cases hlt : k < m
    · have hb2 : j + 2 ≤ s.size := by have := HM.out; have := HJ.out; omega
      have hlt2 : (j : Int) < ((s.size : Nat) : Int) := by omega
      have HL := Lib.hid (unL_succ s k)
      have HN := Lib.hid (unL_length s k)
      have wr2 : wrap64 ((j : Int) + 2) = (j : Int) + 2 := by simp only [wrap64]; omega
      obtain ⟨X, HX, hX⟩ : ∃ X : Nat, Hid (byteAt s j = X) ∧ X < 256 := ⟨_, rfl, byteAt_lt s j⟩
      obtain ⟨Y, HY, hY⟩ : ∃ Y : Nat, Hid (byteAt s (j + 1) = Y) ∧ Y < 256 := ⟨_, rfl, byteAt_lt s (j + 1)⟩
      have hb0 : j < s.size := by omega
      have hb1 : j + 1 < s.size := by omega
      have HG0 := Lib.hid (show s[j].toNat = X by rw [byteAt_get s j hb0, HX.out])
      have HG1 := Lib.hid (show s[j + 1].toNat = Y by rw [byteAt_get s (j + 1) hb1, HY.out])
      have Hb0 := Lib.hid hb0
      have Hb1 := Lib.hid hb1
      by_cases dX : digN X < 16
      · obtain ⟨DX, hDX, hDX2⟩ : ∃ D : Nat, digN X = D ∧ D < 16 := ⟨_, rfl, dX⟩
        have hdx0 : (0 : Int) ≤ (DX : Int) := by omega
        by_cases dY : digN Y < 16
        · obtain ⟨DY, hDY, hDY2⟩ : ∃ D : Nat, digN Y = D ∧ D < 16 := ⟨_, rfl, dY⟩
          have hdy0 : (0 : Int) ≤ (DY : Int) := by omega
          have HAN : Hid (AllDig s (j + 2)) := by
            show ∀ i, _
            intro i hi
            by_cases e0 : i < j
            · exact HA.out i e0
            · by_cases e1 : i = j
              · subst e1; unfold dg; rw [HX.out]; exact dX
              · obtain rfl : i = j + 1 := by omega
                unfold dg; rw [HY.out]; exact dY
          have HLN : Hid (unL s (k + 1) = unL s k ++ [UInt8.ofNat (16 * DX + DY)]) := by
            show _ = _
            rw [HL.out, ← HJ.out]; unfold dg; rw [HX.out, HY.out, hDX, hDY]
          have HDX := Lib.hid hDX
          have HDY := Lib.hid hDY
          clear dX dY hDX hDY HA
          go_wp2_with fail
          refine wp_region_held_drew (S := (fun w' => Acc w0 w' u4 (unL s k))) (by kernel_rfl) acc.drew (fun hHeld => ?_)
          refine held_take 0 18 (v := ?_) rfl rfl (by kernel_rfl) (by kernel_rfl) (by kernel_rfl) (fun _ _ _ _ h => h) (by rfl) ?_ hHeld ?_
          rotate_left; · (intro w hSw; clear hSw; go_simp; first | done | with_reducible rfl)
          simp only [List.setIfInBounds_toArray, List.set_cons_zero, List.set_cons_succ]
          refine held_take 1 19 (v := ?_) rfl rfl (by kernel_rfl) (by kernel_rfl) (by kernel_rfl) (fun _ _ _ _ h => h) (by rfl) ?_ hHeld ?_
          rotate_left; · (intro w hSw; clear hSw; go_simp; first | done | with_reducible rfl)
          simp only [List.setIfInBounds_toArray, List.set_cons_zero, List.set_cons_succ]
          refine held_take 2 20 (v := .int .u8 (X : Int)) rfl rfl (by kernel_rfl) (by kernel_rfl) (by kernel_rfl) (fun _ _ _ _ h => h) (by rfl) ?_ hHeld ?_
          · (have hb := Hb0.out; have hg := HG0.out; intro w hSw; clear hSw; go_simp; first | done | (rw [hg]; done) | (exact congrArg Nat.cast hg) | (intro hx; exfalso; have := hx (by omega); omega) | (rw [dif_pos ⟨by omega, by omega⟩]; simp only [Result.andThen]; first | (rw [hg]; done) | (rw [byteAt_int _ _ j (by omega), HX.out]; done)))
          simp only [List.setIfInBounds_toArray, List.set_cons_zero, List.set_cons_succ]
          refine held_take 4 22 (v := ?_) rfl rfl (by kernel_rfl) (by kernel_rfl) (by kernel_rfl) (fun _ _ _ _ h => h) (by rfl) ?_ hHeld ?_
          rotate_left; · (intro w hSw; clear hSw; go_simp; first | done | with_reducible rfl)
          simp only [List.setIfInBounds_toArray, List.set_cons_zero, List.set_cons_succ]
          refine held_take 5 23 (v := ?_) rfl rfl (by kernel_rfl) (by kernel_rfl) (by kernel_rfl) (fun _ _ _ _ h => h) (by rfl) ?_ hHeld ?_
          rotate_left; · (intro w hSw; clear hSw; go_simp; first | done | with_reducible rfl)
          simp only [List.setIfInBounds_toArray, List.set_cons_zero, List.set_cons_succ]
          refine held_take 6 24 (v := .int .i64 ((j + 1 : Nat) : Int)) rfl rfl (by kernel_rfl) (by kernel_rfl) (by kernel_rfl) (fun _ _ _ _ h => h) (by rfl) ?_ hHeld ?_
          · (intro w hSw; clear hSw; go_simp; first | done | (rw [IntKind.wrap_i64]; omega))
          simp only [List.setIfInBounds_toArray, List.set_cons_zero, List.set_cons_succ]
          refine held_take 7 25 (v := .int .u8 (Y : Int)) rfl rfl (by kernel_rfl) (by kernel_rfl) (by kernel_rfl) (fun _ _ _ _ h => h) (by rfl) ?_ hHeld ?_
          · (have hb := Hb1.out; have hg := HG1.out; intro w hSw; clear hSw; go_simp; first | done | (rw [hg]; done) | (exact congrArg Nat.cast hg) | (intro hx; exfalso; have := hx (by omega); omega) | (rw [dif_pos ⟨by omega, by omega⟩]; simp only [Result.andThen]; first | (rw [hg]; done) | (rw [byteAt_int _ _ (j + 1) (by omega), HY.out]; done)))
          simp only [List.setIfInBounds_toArray, List.set_cons_zero, List.set_cons_succ]
          refine held_call 3 21 rfl rfl (by kernel_rfl) (by rfl) (f := 38) (args := ?_) ?_ ?_
          rotate_left; · (go_simp; first | done | with_reducible rfl)
          refine (rdigit_ok X DX _ hX HDX.out hDX2).mono ?_; rintro e w1 ⟨rfl, rfl⟩
          refine ⟨_, rfl, hHeld, fun hNew => ?_⟩; clear hHeld; have hHeld := hNew; clear hNew
          simp only [List.setIfInBounds_toArray, List.set_cons_zero, List.set_cons_succ]
          refine held_call 8 26 rfl rfl (by kernel_rfl) (by rfl) (f := 38) (args := ?_) ?_ ?_
          rotate_left; · (go_simp; first | done | with_reducible rfl)
          refine (rdigit_ok Y DY _ hY HDY.out hDY2).mono ?_; rintro e w1 ⟨rfl, rfl⟩
          refine ⟨_, rfl, hHeld, fun hNew => ?_⟩; clear hHeld; have hHeld := hNew; clear hNew
          simp only [List.setIfInBounds_toArray, List.set_cons_zero, List.set_cons_succ]
          refine held_take 9 6 (v := ?_) rfl rfl (by kernel_rfl) (by kernel_rfl) (by kernel_rfl) (fun _ _ _ _ h => h) (by rfl) ?_ hHeld ?_
          rotate_left; · (intro w hSw; clear hSw; go_simp; first | done | with_reducible rfl)
          simp only [List.setIfInBounds_toArray, List.set_cons_zero, List.set_cons_succ]
          refine held_take 10 7 (v := ?_) rfl rfl (by kernel_rfl) (by kernel_rfl) (by kernel_rfl) (fun _ _ _ _ h => h) (by rfl) ?_ hHeld ?_
          rotate_left; · (intro w hSw; clear hSw; go_simp; first | done | with_reducible rfl)
          simp only [List.setIfInBounds_toArray, List.set_cons_zero, List.set_cons_succ]
          refine wpAnyH_done (by kernel_rfl) ?_ _
          obtain ⟨B, HB, HLB⟩ : ∃ B : UInt8, Hid (B.toNat = 16 * DX + DY) ∧ Hid (unL s (k + 1) = unL s k ++ [B]) :=
            ⟨UInt8.ofNat (16 * DX + DY), Lib.hid (by rw [UInt8.toNat_ofNat']; omega), HLN⟩
          have g1 : decide ((DX : Int) < 0) = false := by simp
          have g2 : decide ((DY : Int) < 0) = false := by simp
          have g3 : ¬ ((DX : Int) < 0) := by omega
          have g4 : ¬ ((DY : Int) < 0) := by omega
          go_wp2_with (at_builtin; refine wpList_push_drew rfl (.tmp 33) (.tmp 39) rfl rfl rfl hHeld ?hl B _ ?c1 rfl ?_)
          case c1 => rw [HB.out]; omega
          case hl => have := HN.out; have := HM.out; omega
          intro v2 w2 acc2
          rw [← HLB.out] at acc2
          go_wp2_with fail
          go_roundw
          case rel => exact ⟨k + 1, j + 2, by omega, by have := HJ.out; omega, by go_num, acc2, HAN.out⟩
          case measure => simp [intOf]; omega
        · have HNO : Hid (¬ AllDig s s.size) := by
            show ¬ _
            intro h
            have := h (j + 1) (by omega)
            unfold dg at this; rw [HY.out] at this; exact dY this
          have HDX := Lib.hid hDX
          have HdY := Lib.hid dY
          clear dX dY hDX
          go_wp2_with fail
          refine wp_region_held_drew (S := (fun w' => Acc w0 w' u4 (unL s k))) (by kernel_rfl) acc.drew (fun hHeld => ?_)
          refine held_take 0 18 (v := ?_) rfl rfl (by kernel_rfl) (by kernel_rfl) (by kernel_rfl) (fun _ _ _ _ h => h) (by rfl) ?_ hHeld ?_
          rotate_left; · (intro w hSw; clear hSw; go_simp; first | done | with_reducible rfl)
          simp only [List.setIfInBounds_toArray, List.set_cons_zero, List.set_cons_succ]
          refine held_take 1 19 (v := ?_) rfl rfl (by kernel_rfl) (by kernel_rfl) (by kernel_rfl) (fun _ _ _ _ h => h) (by rfl) ?_ hHeld ?_
          rotate_left; · (intro w hSw; clear hSw; go_simp; first | done | with_reducible rfl)
          simp only [List.setIfInBounds_toArray, List.set_cons_zero, List.set_cons_succ]
          refine held_take 2 20 (v := .int .u8 (X : Int)) rfl rfl (by kernel_rfl) (by kernel_rfl) (by kernel_rfl) (fun _ _ _ _ h => h) (by rfl) ?_ hHeld ?_
          · (have hb := Hb0.out; have hg := HG0.out; intro w hSw; clear hSw; go_simp; first | done | (rw [hg]; done) | (exact congrArg Nat.cast hg) | (intro hx; exfalso; have := hx (by omega); omega) | (rw [dif_pos ⟨by omega, by omega⟩]; simp only [Result.andThen]; first | (rw [hg]; done) | (rw [byteAt_int _ _ j (by omega), HX.out]; done)))
          simp only [List.setIfInBounds_toArray, List.set_cons_zero, List.set_cons_succ]
          refine held_take 4 22 (v := ?_) rfl rfl (by kernel_rfl) (by kernel_rfl) (by kernel_rfl) (fun _ _ _ _ h => h) (by rfl) ?_ hHeld ?_
          rotate_left; · (intro w hSw; clear hSw; go_simp; first | done | with_reducible rfl)
          simp only [List.setIfInBounds_toArray, List.set_cons_zero, List.set_cons_succ]
          refine held_take 5 23 (v := ?_) rfl rfl (by kernel_rfl) (by kernel_rfl) (by kernel_rfl) (fun _ _ _ _ h => h) (by rfl) ?_ hHeld ?_
          rotate_left; · (intro w hSw; clear hSw; go_simp; first | done | with_reducible rfl)
          simp only [List.setIfInBounds_toArray, List.set_cons_zero, List.set_cons_succ]
          refine held_take 6 24 (v := .int .i64 ((j + 1 : Nat) : Int)) rfl rfl (by kernel_rfl) (by kernel_rfl) (by kernel_rfl) (fun _ _ _ _ h => h) (by rfl) ?_ hHeld ?_
          · (intro w hSw; clear hSw; go_simp; first | done | (rw [IntKind.wrap_i64]; omega))
          simp only [List.setIfInBounds_toArray, List.set_cons_zero, List.set_cons_succ]
          refine held_take 7 25 (v := .int .u8 (Y : Int)) rfl rfl (by kernel_rfl) (by kernel_rfl) (by kernel_rfl) (fun _ _ _ _ h => h) (by rfl) ?_ hHeld ?_
          · (have hb := Hb1.out; have hg := HG1.out; intro w hSw; clear hSw; go_simp; first | done | (rw [hg]; done) | (exact congrArg Nat.cast hg) | (intro hx; exfalso; have := hx (by omega); omega) | (rw [dif_pos ⟨by omega, by omega⟩]; simp only [Result.andThen]; first | (rw [hg]; done) | (rw [byteAt_int _ _ (j + 1) (by omega), HY.out]; done)))
          simp only [List.setIfInBounds_toArray, List.set_cons_zero, List.set_cons_succ]
          refine held_call 3 21 rfl rfl (by kernel_rfl) (by rfl) (f := 38) (args := ?_) ?_ ?_
          rotate_left; · (go_simp; first | done | with_reducible rfl)
          refine (rdigit_ok X DX _ hX HDX.out hDX2).mono ?_; rintro e w1 ⟨rfl, rfl⟩
          refine ⟨_, rfl, hHeld, fun hNew => ?_⟩; clear hHeld; have hHeld := hNew; clear hNew
          simp only [List.setIfInBounds_toArray, List.set_cons_zero, List.set_cons_succ]
          refine held_call 8 26 rfl rfl (by kernel_rfl) (by rfl) (f := 38) (args := ?_) ?_ ?_
          rotate_left; · (go_simp; first | done | with_reducible rfl)
          refine (rdigit_none Y _ hY HdY.out).mono ?_; rintro e w1 ⟨rfl, rfl⟩
          refine ⟨_, rfl, hHeld, fun hNew => ?_⟩; clear hHeld; have hHeld := hNew; clear hNew
          simp only [List.setIfInBounds_toArray, List.set_cons_zero, List.set_cons_succ]
          refine held_take 9 6 (v := ?_) rfl rfl (by kernel_rfl) (by kernel_rfl) (by kernel_rfl) (fun _ _ _ _ h => h) (by rfl) ?_ hHeld ?_
          rotate_left; · (intro w hSw; clear hSw; go_simp; first | done | with_reducible rfl)
          simp only [List.setIfInBounds_toArray, List.set_cons_zero, List.set_cons_succ]
          refine held_take 10 7 (v := ?_) rfl rfl (by kernel_rfl) (by kernel_rfl) (by kernel_rfl) (fun _ _ _ _ h => h) (by rfl) ?_ hHeld ?_
          rotate_left; · (intro w hSw; clear hSw; go_simp; first | done | with_reducible rfl)
          simp only [List.setIfInBounds_toArray, List.set_cons_zero, List.set_cons_succ]
          refine wpAnyH_done (by kernel_rfl) ?_ _
          go_wp2_with fail
          go_ret2
          exact ⟨.inr ⟨rfl, HNO.out⟩, hHeld.2⟩
      · have HNO : Hid (¬ AllDig s s.size) := by
          show ¬ _
          intro h
          have := h j (by omega)
          unfold dg at this; rw [HX.out] at this; exact dX this
        have HdX := Lib.hid dX
        clear dX
        by_cases dY : digN Y < 16
        · obtain ⟨DY, hDY, hDY2⟩ : ∃ D : Nat, digN Y = D ∧ D < 16 := ⟨_, rfl, dY⟩
          have HDY := Lib.hid hDY
          clear dY hDY
          go_wp2_with fail
          refine wp_region_held_drew (S := (fun w' => Acc w0 w' u4 (unL s k))) (by kernel_rfl) acc.drew (fun hHeld => ?_)
          refine held_take 0 18 (v := ?_) rfl rfl (by kernel_rfl) (by kernel_rfl) (by kernel_rfl) (fun _ _ _ _ h => h) (by rfl) ?_ hHeld ?_
          rotate_left; · (intro w hSw; clear hSw; go_simp; first | done | with_reducible rfl)
          simp only [List.setIfInBounds_toArray, List.set_cons_zero, List.set_cons_succ]
          refine held_take 1 19 (v := ?_) rfl rfl (by kernel_rfl) (by kernel_rfl) (by kernel_rfl) (fun _ _ _ _ h => h) (by rfl) ?_ hHeld ?_
          rotate_left; · (intro w hSw; clear hSw; go_simp; first | done | with_reducible rfl)
          simp only [List.setIfInBounds_toArray, List.set_cons_zero, List.set_cons_succ]
          refine held_take 2 20 (v := .int .u8 (X : Int)) rfl rfl (by kernel_rfl) (by kernel_rfl) (by kernel_rfl) (fun _ _ _ _ h => h) (by rfl) ?_ hHeld ?_
          · (have hb := Hb0.out; have hg := HG0.out; intro w hSw; clear hSw; go_simp; first | done | (rw [hg]; done) | (exact congrArg Nat.cast hg) | (intro hx; exfalso; have := hx (by omega); omega) | (rw [dif_pos ⟨by omega, by omega⟩]; simp only [Result.andThen]; first | (rw [hg]; done) | (rw [byteAt_int _ _ j (by omega), HX.out]; done)))
          simp only [List.setIfInBounds_toArray, List.set_cons_zero, List.set_cons_succ]
          refine held_take 4 22 (v := ?_) rfl rfl (by kernel_rfl) (by kernel_rfl) (by kernel_rfl) (fun _ _ _ _ h => h) (by rfl) ?_ hHeld ?_
          rotate_left; · (intro w hSw; clear hSw; go_simp; first | done | with_reducible rfl)
          simp only [List.setIfInBounds_toArray, List.set_cons_zero, List.set_cons_succ]
          refine held_take 5 23 (v := ?_) rfl rfl (by kernel_rfl) (by kernel_rfl) (by kernel_rfl) (fun _ _ _ _ h => h) (by rfl) ?_ hHeld ?_
          rotate_left; · (intro w hSw; clear hSw; go_simp; first | done | with_reducible rfl)
          simp only [List.setIfInBounds_toArray, List.set_cons_zero, List.set_cons_succ]
          refine held_take 6 24 (v := .int .i64 ((j + 1 : Nat) : Int)) rfl rfl (by kernel_rfl) (by kernel_rfl) (by kernel_rfl) (fun _ _ _ _ h => h) (by rfl) ?_ hHeld ?_
          · (intro w hSw; clear hSw; go_simp; first | done | (rw [IntKind.wrap_i64]; omega))
          simp only [List.setIfInBounds_toArray, List.set_cons_zero, List.set_cons_succ]
          refine held_take 7 25 (v := .int .u8 (Y : Int)) rfl rfl (by kernel_rfl) (by kernel_rfl) (by kernel_rfl) (fun _ _ _ _ h => h) (by rfl) ?_ hHeld ?_
          · (have hb := Hb1.out; have hg := HG1.out; intro w hSw; clear hSw; go_simp; first | done | (rw [hg]; done) | (exact congrArg Nat.cast hg) | (intro hx; exfalso; have := hx (by omega); omega) | (rw [dif_pos ⟨by omega, by omega⟩]; simp only [Result.andThen]; first | (rw [hg]; done) | (rw [byteAt_int _ _ (j + 1) (by omega), HY.out]; done)))
          simp only [List.setIfInBounds_toArray, List.set_cons_zero, List.set_cons_succ]
          refine held_call 3 21 rfl rfl (by kernel_rfl) (by rfl) (f := 38) (args := ?_) ?_ ?_
          rotate_left; · (go_simp; first | done | with_reducible rfl)
          refine (rdigit_none X _ hX HdX.out).mono ?_; rintro e w1 ⟨rfl, rfl⟩
          refine ⟨_, rfl, hHeld, fun hNew => ?_⟩; clear hHeld; have hHeld := hNew; clear hNew
          simp only [List.setIfInBounds_toArray, List.set_cons_zero, List.set_cons_succ]
          refine held_call 8 26 rfl rfl (by kernel_rfl) (by rfl) (f := 38) (args := ?_) ?_ ?_
          rotate_left; · (go_simp; first | done | with_reducible rfl)
          refine (rdigit_ok Y DY _ hY HDY.out hDY2).mono ?_; rintro e w1 ⟨rfl, rfl⟩
          refine ⟨_, rfl, hHeld, fun hNew => ?_⟩; clear hHeld; have hHeld := hNew; clear hNew
          simp only [List.setIfInBounds_toArray, List.set_cons_zero, List.set_cons_succ]
          refine held_take 9 6 (v := ?_) rfl rfl (by kernel_rfl) (by kernel_rfl) (by kernel_rfl) (fun _ _ _ _ h => h) (by rfl) ?_ hHeld ?_
          rotate_left; · (intro w hSw; clear hSw; go_simp; first | done | with_reducible rfl)
          simp only [List.setIfInBounds_toArray, List.set_cons_zero, List.set_cons_succ]
          refine held_take 10 7 (v := ?_) rfl rfl (by kernel_rfl) (by kernel_rfl) (by kernel_rfl) (fun _ _ _ _ h => h) (by rfl) ?_ hHeld ?_
          rotate_left; · (intro w hSw; clear hSw; go_simp; first | done | with_reducible rfl)
          simp only [List.setIfInBounds_toArray, List.set_cons_zero, List.set_cons_succ]
          refine wpAnyH_done (by kernel_rfl) ?_ _
          go_wp2_with fail
          go_ret2
          exact ⟨.inr ⟨rfl, HNO.out⟩, hHeld.2⟩
        · have HdY := Lib.hid dY
          clear dY
          go_wp2_with fail
          refine wp_region_held_drew (S := (fun w' => Acc w0 w' u4 (unL s k))) (by kernel_rfl) acc.drew (fun hHeld => ?_)
          refine held_take 0 18 (v := ?_) rfl rfl (by kernel_rfl) (by kernel_rfl) (by kernel_rfl) (fun _ _ _ _ h => h) (by rfl) ?_ hHeld ?_
          rotate_left; · (intro w hSw; clear hSw; go_simp; first | done | with_reducible rfl)
          simp only [List.setIfInBounds_toArray, List.set_cons_zero, List.set_cons_succ]
          refine held_take 1 19 (v := ?_) rfl rfl (by kernel_rfl) (by kernel_rfl) (by kernel_rfl) (fun _ _ _ _ h => h) (by rfl) ?_ hHeld ?_
          rotate_left; · (intro w hSw; clear hSw; go_simp; first | done | with_reducible rfl)
          simp only [List.setIfInBounds_toArray, List.set_cons_zero, List.set_cons_succ]
          refine held_take 2 20 (v := .int .u8 (X : Int)) rfl rfl (by kernel_rfl) (by kernel_rfl) (by kernel_rfl) (fun _ _ _ _ h => h) (by rfl) ?_ hHeld ?_
          · (have hb := Hb0.out; have hg := HG0.out; intro w hSw; clear hSw; go_simp; first | done | (rw [hg]; done) | (exact congrArg Nat.cast hg) | (intro hx; exfalso; have := hx (by omega); omega) | (rw [dif_pos ⟨by omega, by omega⟩]; simp only [Result.andThen]; first | (rw [hg]; done) | (rw [byteAt_int _ _ j (by omega), HX.out]; done)))
          simp only [List.setIfInBounds_toArray, List.set_cons_zero, List.set_cons_succ]
          refine held_take 4 22 (v := ?_) rfl rfl (by kernel_rfl) (by kernel_rfl) (by kernel_rfl) (fun _ _ _ _ h => h) (by rfl) ?_ hHeld ?_
          rotate_left; · (intro w hSw; clear hSw; go_simp; first | done | with_reducible rfl)
          simp only [List.setIfInBounds_toArray, List.set_cons_zero, List.set_cons_succ]
          refine held_take 5 23 (v := ?_) rfl rfl (by kernel_rfl) (by kernel_rfl) (by kernel_rfl) (fun _ _ _ _ h => h) (by rfl) ?_ hHeld ?_
          rotate_left; · (intro w hSw; clear hSw; go_simp; first | done | with_reducible rfl)
          simp only [List.setIfInBounds_toArray, List.set_cons_zero, List.set_cons_succ]
          refine held_take 6 24 (v := .int .i64 ((j + 1 : Nat) : Int)) rfl rfl (by kernel_rfl) (by kernel_rfl) (by kernel_rfl) (fun _ _ _ _ h => h) (by rfl) ?_ hHeld ?_
          · (intro w hSw; clear hSw; go_simp; first | done | (rw [IntKind.wrap_i64]; omega))
          simp only [List.setIfInBounds_toArray, List.set_cons_zero, List.set_cons_succ]
          refine held_take 7 25 (v := .int .u8 (Y : Int)) rfl rfl (by kernel_rfl) (by kernel_rfl) (by kernel_rfl) (fun _ _ _ _ h => h) (by rfl) ?_ hHeld ?_
          · (have hb := Hb1.out; have hg := HG1.out; intro w hSw; clear hSw; go_simp; first | done | (rw [hg]; done) | (exact congrArg Nat.cast hg) | (intro hx; exfalso; have := hx (by omega); omega) | (rw [dif_pos ⟨by omega, by omega⟩]; simp only [Result.andThen]; first | (rw [hg]; done) | (rw [byteAt_int _ _ (j + 1) (by omega), HY.out]; done)))
          simp only [List.setIfInBounds_toArray, List.set_cons_zero, List.set_cons_succ]
          refine held_call 3 21 rfl rfl (by kernel_rfl) (by rfl) (f := 38) (args := ?_) ?_ ?_
          rotate_left; · (go_simp; first | done | with_reducible rfl)
          refine (rdigit_none X _ hX HdX.out).mono ?_; rintro e w1 ⟨rfl, rfl⟩
          refine ⟨_, rfl, hHeld, fun hNew => ?_⟩; clear hHeld; have hHeld := hNew; clear hNew
          simp only [List.setIfInBounds_toArray, List.set_cons_zero, List.set_cons_succ]
          refine held_call 8 26 rfl rfl (by kernel_rfl) (by rfl) (f := 38) (args := ?_) ?_ ?_
          rotate_left; · (go_simp; first | done | with_reducible rfl)
          refine (rdigit_none Y _ hY HdY.out).mono ?_; rintro e w1 ⟨rfl, rfl⟩
          refine ⟨_, rfl, hHeld, fun hNew => ?_⟩; clear hHeld; have hHeld := hNew; clear hNew
          simp only [List.setIfInBounds_toArray, List.set_cons_zero, List.set_cons_succ]
          refine held_take 9 6 (v := ?_) rfl rfl (by kernel_rfl) (by kernel_rfl) (by kernel_rfl) (fun _ _ _ _ h => h) (by rfl) ?_ hHeld ?_
          rotate_left; · (intro w hSw; clear hSw; go_simp; first | done | with_reducible rfl)
          simp only [List.setIfInBounds_toArray, List.set_cons_zero, List.set_cons_succ]
          refine held_take 10 7 (v := ?_) rfl rfl (by kernel_rfl) (by kernel_rfl) (by kernel_rfl) (fun _ _ _ _ h => h) (by rfl) ?_ hHeld ?_
          rotate_left; · (intro w hSw; clear hSw; go_simp; first | done | with_reducible rfl)
          simp only [List.setIfInBounds_toArray, List.set_cons_zero, List.set_cons_succ]
          refine wpAnyH_done (by kernel_rfl) ?_ _
          go_wp2_with fail
          go_ret2
          exact ⟨.inr ⟨rfl, HNO.out⟩, hHeld.2⟩
    · obtain rfl : k = m := by omega
      have hge : ¬ ((j : Int) < ((s.size : Nat) : Int)) := by have := HM.out; have := HJ.out; omega
      have HS := Lib.hid acc.str
      have hcv := HS.out
      go_wp2_with fail
      go_ret2
      exact ⟨.inl ⟨rfl, by rw [HM.out, ← HJ.out]; exact HA.out⟩, acc.2⟩
end Go.Proofs.Ytbmeejopfcpoaaa
