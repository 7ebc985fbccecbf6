/- The reference's words of bytes. -/
import Derived.Test.YtpnpmploaaenlaaMW0
import Derived.Deep.DeepCutAuto
import Derived.Deep.CutBlock
namespace Go.Proofs.Ytpnpmploaaenlaa.Wd
open Go.RowKit
set_option linter.unusedSimpArgs false
set_option linter.unusedVariables false

theorem rbig_bad (s : ByteArray) (w : World) (hs : s.size ≤ 100000) (hm : s.size % 4 ≠ 0) :
    Calls Try.prog 71 #[.string s] w fun e w' => e = .returned (.tuple #[.slice none 0 0, .int .i64 1]) ∧ w = w' := by
  have hr : (((s.size : Nat) : Int) % 4 != 0) = true := by rw [bne_iff_ne]; omega
  go_enter Try.func71, Try.ntmps71
  go_wp2_with fail
  go_ret2
  exact ⟨rfl, rfl⟩
theorem byteAt_get (s : ByteArray) (i : Nat) (h : i < s.size) : s[i].toNat = byteAt s i := by
  unfold byteAt bytes
  rw [List.getD_eq_getElem?_getD, Array.getElem?_toList, Array.getElem?_eq_getElem h]
  rfl
theorem byteAt_int (s : ByteArray) (i : Int) (n : Nat) (e : i.toNat = n) {h : i.toNat < s.size} : s[i.toNat].toNat = byteAt s n := by
  subst e; exact byteAt_get s _ h
theorem or_be4w (b0 b1 b2 b3 : Nat) (h0 : b0 < 256) (h1 : b1 < 256) (h2 : b2 < 256) (h3 : b3 < 256) :
    bits BinOp.or IntKind.i64 (bits BinOp.or IntKind.i64 (bits BinOp.or IntKind.i64 (IntKind.i64.wrap (IntKind.i64.wrap (b0 : Int) * 16777216)) (IntKind.i64.wrap (IntKind.i64.wrap (b1 : Int) * 65536)))
      (IntKind.i64.wrap (IntKind.i64.wrap (b2 : Int) * 256))) (IntKind.i64.wrap (b3 : Int)) = (be4 b0 b1 b2 b3 : Int) := by
  have e : ∀ x : Int, 0 ≤ x → x < 4611686018427387904 → IntKind.i64.wrap x = x := fun x _ _ => by rw [IntKind.wrap_i64]; omega
  rw [e (b0 : Int) (by omega) (by omega), e (b1 : Int) (by omega) (by omega), e (b2 : Int) (by omega) (by omega), e (b3 : Int) (by omega) (by omega), e _ (by omega) (by omega), e _ (by omega) (by omega), e _ (by omega) (by omega)]
  exact or_be4 b0 b1 b2 b3 h0 h1 h2 h3
theorem op_append {w w' : World} {a : Act} {o : Oper} (s x : Operand) (t ty : TypeId) (hty : o.type = ty) (ho : o.op = .call { callee := .builtin .append, args := #[s, x], argTypes := #[t, t] }) {v x' v' : Value} (hs : a.eval s = v) (hx : a.eval x = x')
    (hrun : (Builtin.append_ #[t, t] ty #[v, x']).run Try.prog w = .ok v' w') : (execOp a.eval o).run Try.prog w = .ok (.value v') w' := by
  subst hty
  unfold execOp
  simp only [ho, resolve, invoke, builtin, Sem.run_bind, Sem.run_pure, Result.andThen_ok, List.map_toArray, List.map_cons, List.map_nil, hs, hx, hrun]
theorem idx_op {s : ByteArray} {j : Nat} (h : j < s.size) (w : World) : (Instr.index 9 (.string s) (.int .i64 (j : Int))).run Try.prog w = .ok (.int .u8 (byteAt s j)) w := by
  rw [run_index_string w 9 s .i64 j Try.underlying9, dif_pos ⟨by omega, by omega⟩, byteAt_get]
  rfl
set_option maxRecDepth 100000 in
set_option maxHeartbeats 4000000 in
theorem rbig_ok (s : ByteArray) (w : World) (hs : s.size ≤ 100000) (m : Nat) (hm : s.size = 4 * m) :
    Calls Try.prog 71 #[.string s] w fun e w' => ∃ v, e = .returned (.tuple #[v, .int .i64 0]) ∧ w'.ownsRow w.heap.size 3 1 v m (wordsL true s m) ∧ Mod (fun _ => False) w w' := by
  obtain ⟨i0, hi, hz0, hz1, hz2⟩ := info_parts info3
  have hr : (((s.size : Nat) : Int) % 4 != 0) = false := by rw [bne_eq_false_iff_eq]; omega
  have HM := Lib.hid hm
  clear hm
  go_enter Try.func71, Try.ntmps71
  go_wp2_with fail
  go_loopw [4, 5] (fun v i wr => ∃ k j : Nat, k ≤ m ∧ j = 4 * k ∧ i = .int .i64 (j : Int) ∧ wr.ownsRow w.heap.size 3 1 v k (wordsL true s k) ∧ Mod (fun _ => False) w wr) (fun _ i _ => s.size - (intOf i).toNat)
  case atStart => exact ⟨0, 0, by omega, rfl, rfl, World.ownsRow_nil _ _ _ _, Mod.refl _ _⟩
  case round =>
    obtain ⟨k, j, hk, hj, rfl, own, hmr⟩ := hrel
    have HJ := Lib.hid hj
    clear hj
    by_cases hlt : k < m
    · have hi0 : (0 : Int) ≤ (j : Int) := by omega
      have hb4 : j + 4 ≤ s.size := by have := HM.out; have := HJ.out; omega
      have hlt2 : (j : Int) < ((s.size : Nat) : Int) := by omega
      have HL := Lib.hid (wordsL_succ true s k)
      have HV : Hid (be4 (byteAt s j) (byteAt s (j + 1)) (byteAt s (j + 2)) (byteAt s (j + 3)) = wordAt true s k) := by
        show _ = _
        rw [HJ.out]; rfl
      have Hb0 := Lib.hid (show j < s.size by omega)
      have Hb1 := Lib.hid (show j + 1 < s.size by omega)
      have Hb2 := Lib.hid (show j + 2 < s.size by omega)
      have Hb3 := Lib.hid (show j + 3 < s.size by omega)
      have hw2 := hmr.size
      have own2 := own.alloc (w := wr) (.cells #[.int .i64 (wordAt true s k)] 3)
      obtain ⟨v', w3, hrun, hown, hgrow, _⟩ := run_append_own (P := Try.prog) (w := (wr.alloc (.cells #[.int .i64 (wordAt true s k)] 3)).drew) w.heap.size 47 47 3 i0 (.int .i64 0) 1 8 Try.underlying47 hi hz0 hz1 hz2 rfl (by decide) _ _ _ own2 ⟨wr.heap.size, 0, none⟩ 1 1 [.int .i64 (wordAt true s k)] rfl
        (by intro j u hj
            match j, hj with
            | 0, hj => simp at hj; subst hj; exact cell_new wr _ _ _ _ rfl) (by intro u hu; simp at hu; subst hu; rfl) (by unfold maxLen; have := HM.out; omega) (by have := HM.out; omega) (by simp; omega)
      have hm3 := own_grown (hmr.alloc (.cells #[.int .i64 (wordAt true s k)] 3)).drew own2 hgrow
      rw [← HL.out] at hown
      clear own own2 hgrow
      go_wp2_with fail
      refine wp_region_held_drew (S := (fun _ => True)) (by kernel_rfl) trivial (fun hHeld => ?_)
      refine held_take 0 16 (v := ?_) rfl rfl (by kernel_rfl) (by kernel_rfl) (by kernel_rfl) (fun _ _ _ _ h => h) (by rfl) ?_ hHeld ?_
      rotate_left; · (intro w hSw; clear hSw; go_simp; first | done | with_reducible rfl)
      simp only [List.setIfInBounds_toArray, List.set_cons_zero, List.set_cons_succ]
      refine held_take 1 17 (v := ?_) rfl rfl (by kernel_rfl) (by kernel_rfl) (by kernel_rfl) (fun _ _ _ _ h => h) (by rfl) ?_ hHeld ?_
      rotate_left; · (intro w hSw; clear hSw; go_simp; first | done | with_reducible rfl)
      simp only [List.setIfInBounds_toArray, List.set_cons_zero, List.set_cons_succ]
      refine held_take 2 18 (v := ?_) rfl rfl (by kernel_rfl) (by kernel_rfl) (by kernel_rfl) (fun _ _ _ _ h => h) (by rfl) ?_ hHeld ?_
      rotate_left; · (intro w hSw; clear hSw; go_simp; first | done | with_reducible rfl)
      simp only [List.setIfInBounds_toArray, List.set_cons_zero, List.set_cons_succ]
      refine held_take 3 19 (v := .int .u8 (byteAt s j)) rfl rfl (by kernel_rfl) (by kernel_rfl) (by kernel_rfl) (fun _ _ _ _ h => h) (by rfl) ?_ hHeld ?_
      · (have hb := Hb0.out; intro w hSw; clear hSw; go_simp; first | (rw [byteAt_get s _ hb]; done) | (rw [dif_pos ⟨by omega, by omega⟩]; simp only [Result.andThen]; first | (rw [byteAt_get s _ hb]; done) | (rw [byteAt_int s _ (j + 0) (by omega)]; done)))
      simp only [List.setIfInBounds_toArray, List.set_cons_zero, List.set_cons_succ]
      refine held_take 4 20 (v := ?_) rfl rfl (by kernel_rfl) (by kernel_rfl) (by kernel_rfl) (fun _ _ _ _ h => h) (by rfl) ?_ hHeld ?_
      rotate_left; · (intro w hSw; clear hSw; go_simp; first | done | with_reducible rfl)
      simp only [List.setIfInBounds_toArray, List.set_cons_zero, List.set_cons_succ]
      refine held_take 5 21 (v := ?_) rfl rfl (by kernel_rfl) (by kernel_rfl) (by kernel_rfl) (fun _ _ _ _ h => h) (by rfl) ?_ hHeld ?_
      rotate_left; · (intro w hSw; clear hSw; go_simp; first | done | with_reducible rfl)
      simp only [List.setIfInBounds_toArray, List.set_cons_zero, List.set_cons_succ]
      refine held_take 6 22 (v := ?_) rfl rfl (by kernel_rfl) (by kernel_rfl) (by kernel_rfl) (fun _ _ _ _ h => h) (by rfl) ?_ hHeld ?_
      rotate_left; · (intro w hSw; clear hSw; go_simp; first | done | with_reducible rfl)
      simp only [List.setIfInBounds_toArray, List.set_cons_zero, List.set_cons_succ]
      refine held_take 7 23 (v := ?_) rfl rfl (by kernel_rfl) (by kernel_rfl) (by kernel_rfl) (fun _ _ _ _ h => h) (by rfl) ?_ hHeld ?_
      rotate_left; · (intro w hSw; clear hSw; go_simp; first | done | with_reducible rfl)
      simp only [List.setIfInBounds_toArray, List.set_cons_zero, List.set_cons_succ]
      refine held_take 8 24 (v := .int .i64 ((j + 1 : Nat) : Int)) rfl rfl (by kernel_rfl) (by kernel_rfl) (by kernel_rfl) (fun _ _ _ _ h => h) (by rfl) ?_ hHeld ?_
      · (intro w hSw; clear hSw; go_simp; rw [IntKind.wrap_i64]; omega)
      simp only [List.setIfInBounds_toArray, List.set_cons_zero, List.set_cons_succ]
      refine held_take 9 25 (v := .int .u8 (byteAt s (j + 1))) rfl rfl (by kernel_rfl) (by kernel_rfl) (by kernel_rfl) (fun _ _ _ _ h => h) (by rfl) ?_ hHeld ?_
      · (have hb := Hb1.out; intro w hSw; clear hSw; go_simp; first | (rw [byteAt_get s _ hb]; done) | (rw [dif_pos ⟨by omega, by omega⟩]; simp only [Result.andThen]; first | (rw [byteAt_get s _ hb]; done) | (rw [byteAt_int s _ (j + 1) (by omega)]; done)))
      simp only [List.setIfInBounds_toArray, List.set_cons_zero, List.set_cons_succ]
      refine held_take 10 26 (v := ?_) rfl rfl (by kernel_rfl) (by kernel_rfl) (by kernel_rfl) (fun _ _ _ _ h => h) (by rfl) ?_ hHeld ?_
      rotate_left; · (intro w hSw; clear hSw; go_simp; first | done | with_reducible rfl)
      simp only [List.setIfInBounds_toArray, List.set_cons_zero, List.set_cons_succ]
      refine held_take 11 27 (v := ?_) rfl rfl (by kernel_rfl) (by kernel_rfl) (by kernel_rfl) (fun _ _ _ _ h => h) (by rfl) ?_ hHeld ?_
      rotate_left; · (intro w hSw; clear hSw; go_simp; first | done | with_reducible rfl)
      simp only [List.setIfInBounds_toArray, List.set_cons_zero, List.set_cons_succ]
      refine held_take 12 28 (v := ?_) rfl rfl (by kernel_rfl) (by kernel_rfl) (by kernel_rfl) (fun _ _ _ _ h => h) (by rfl) ?_ hHeld ?_
      rotate_left; · (intro w hSw; clear hSw; go_simp; first | done | with_reducible rfl)
      simp only [List.setIfInBounds_toArray, List.set_cons_zero, List.set_cons_succ]
      refine held_take 13 29 (v := ?_) rfl rfl (by kernel_rfl) (by kernel_rfl) (by kernel_rfl) (fun _ _ _ _ h => h) (by rfl) ?_ hHeld ?_
      rotate_left; · (intro w hSw; clear hSw; go_simp; first | done | with_reducible rfl)
      simp only [List.setIfInBounds_toArray, List.set_cons_zero, List.set_cons_succ]
      refine held_take 14 30 (v := ?_) rfl rfl (by kernel_rfl) (by kernel_rfl) (by kernel_rfl) (fun _ _ _ _ h => h) (by rfl) ?_ hHeld ?_
      rotate_left; · (intro w hSw; clear hSw; go_simp; first | done | with_reducible rfl)
      simp only [List.setIfInBounds_toArray, List.set_cons_zero, List.set_cons_succ]
      refine held_take 15 31 (v := .int .i64 ((j + 2 : Nat) : Int)) rfl rfl (by kernel_rfl) (by kernel_rfl) (by kernel_rfl) (fun _ _ _ _ h => h) (by rfl) ?_ hHeld ?_
      · (intro w hSw; clear hSw; go_simp; rw [IntKind.wrap_i64]; omega)
      simp only [List.setIfInBounds_toArray, List.set_cons_zero, List.set_cons_succ]
      refine held_take 16 32 (v := .int .u8 (byteAt s (j + 2))) rfl rfl (by kernel_rfl) (by kernel_rfl) (by kernel_rfl) (fun _ _ _ _ h => h) (by rfl) ?_ hHeld ?_
      · (have hb := Hb2.out; intro w hSw; clear hSw; go_simp; first | (rw [byteAt_get s _ hb]; done) | (rw [dif_pos ⟨by omega, by omega⟩]; simp only [Result.andThen]; first | (rw [byteAt_get s _ hb]; done) | (rw [byteAt_int s _ (j + 2) (by omega)]; done)))
      simp only [List.setIfInBounds_toArray, List.set_cons_zero, List.set_cons_succ]
      refine held_take 17 33 (v := ?_) rfl rfl (by kernel_rfl) (by kernel_rfl) (by kernel_rfl) (fun _ _ _ _ h => h) (by rfl) ?_ hHeld ?_
      rotate_left; · (intro w hSw; clear hSw; go_simp; first | done | with_reducible rfl)
      simp only [List.setIfInBounds_toArray, List.set_cons_zero, List.set_cons_succ]
      refine held_take 18 34 (v := ?_) rfl rfl (by kernel_rfl) (by kernel_rfl) (by kernel_rfl) (fun _ _ _ _ h => h) (by rfl) ?_ hHeld ?_
      rotate_left; · (intro w hSw; clear hSw; go_simp; first | done | with_reducible rfl)
      simp only [List.setIfInBounds_toArray, List.set_cons_zero, List.set_cons_succ]
      refine held_take 19 35 (v := ?_) rfl rfl (by kernel_rfl) (by kernel_rfl) (by kernel_rfl) (fun _ _ _ _ h => h) (by rfl) ?_ hHeld ?_
      rotate_left; · (intro w hSw; clear hSw; go_simp; first | done | with_reducible rfl)
      simp only [List.setIfInBounds_toArray, List.set_cons_zero, List.set_cons_succ]
      refine held_take 20 36 (v := ?_) rfl rfl (by kernel_rfl) (by kernel_rfl) (by kernel_rfl) (fun _ _ _ _ h => h) (by rfl) ?_ hHeld ?_
      rotate_left; · (intro w hSw; clear hSw; go_simp; first | done | with_reducible rfl)
      simp only [List.setIfInBounds_toArray, List.set_cons_zero, List.set_cons_succ]
      refine held_take 21 37 (v := ?_) rfl rfl (by kernel_rfl) (by kernel_rfl) (by kernel_rfl) (fun _ _ _ _ h => h) (by rfl) ?_ hHeld ?_
      rotate_left; · (intro w hSw; clear hSw; go_simp; first | done | with_reducible rfl)
      simp only [List.setIfInBounds_toArray, List.set_cons_zero, List.set_cons_succ]
      refine held_take 22 38 (v := .int .i64 ((j + 3 : Nat) : Int)) rfl rfl (by kernel_rfl) (by kernel_rfl) (by kernel_rfl) (fun _ _ _ _ h => h) (by rfl) ?_ hHeld ?_
      · (intro w hSw; clear hSw; go_simp; rw [IntKind.wrap_i64]; omega)
      simp only [List.setIfInBounds_toArray, List.set_cons_zero, List.set_cons_succ]
      refine held_take 23 39 (v := .int .u8 (byteAt s (j + 3))) rfl rfl (by kernel_rfl) (by kernel_rfl) (by kernel_rfl) (fun _ _ _ _ h => h) (by rfl) ?_ hHeld ?_
      · (have hb := Hb3.out; intro w hSw; clear hSw; go_simp; first | (rw [byteAt_get s _ hb]; done) | (rw [dif_pos ⟨by omega, by omega⟩]; simp only [Result.andThen]; first | (rw [byteAt_get s _ hb]; done) | (rw [byteAt_int s _ (j + 3) (by omega)]; done)))
      simp only [List.setIfInBounds_toArray, List.set_cons_zero, List.set_cons_succ]
      refine held_take 24 40 (v := ?_) rfl rfl (by kernel_rfl) (by kernel_rfl) (by kernel_rfl) (fun _ _ _ _ h => h) (by rfl) ?_ hHeld ?_
      rotate_left; · (intro w hSw; clear hSw; go_simp; first | done | with_reducible rfl)
      simp only [List.setIfInBounds_toArray, List.set_cons_zero, List.set_cons_succ]
      refine held_take 25 41 (v := .int .i64 (wordAt true s k)) rfl rfl (by kernel_rfl) (by kernel_rfl) (by kernel_rfl) (fun _ _ _ _ h => h) (by rfl) ?_ hHeld ?_
      · (have hl0 := byteAt_lt s j; have hl1 := byteAt_lt s (j + 1); have hl2 := byteAt_lt s (j + 2); have hl3 := byteAt_lt s (j + 3); intro w hSw; clear hSw; go_simp; try (rw [or_be4w _ _ _ _ (byteAt_lt _ _) (byteAt_lt _ _) (byteAt_lt _ _) (byteAt_lt _ _)]; exact congrArg Nat.cast HV.out))
      simp only [List.setIfInBounds_toArray, List.set_cons_zero, List.set_cons_succ]
      refine held_make 26 42 rfl rfl (by kernel_rfl) (by rfl) (v := ?_) (w' := ?_) ?_ ?_ (fun hNew => ?_)
      rotate_left 2; · (go_simp; first | done | with_reducible rfl | (constructor <;> with_reducible rfl))
      · trivial
      clear hHeld; have hHeld := hNew; clear hNew
      simp only [List.setIfInBounds_toArray, List.set_cons_zero, List.set_cons_succ]
      refine held_make 27 43 rfl rfl (by kernel_rfl) (by rfl) (v := v') (w' := w3) ?_ ?_ (fun hNew => ?_)
      · (exact op_append (.tmp 16) (.tmp 42) 47 47 rfl rfl rfl rfl hrun)
      · trivial
      clear hHeld; have hHeld := hNew; clear hNew
      simp only [List.setIfInBounds_toArray, List.set_cons_zero, List.set_cons_succ]
      refine held_take 28 4 (v := ?_) rfl rfl (by kernel_rfl) (by kernel_rfl) (by kernel_rfl) (fun _ _ _ _ h => h) (by rfl) ?_ hHeld ?_
      rotate_left; · (intro w hSw; clear hSw; go_simp; first | done | with_reducible rfl)
      simp only [List.setIfInBounds_toArray, List.set_cons_zero, List.set_cons_succ]
      refine wpAnyH_done (by kernel_rfl) ?_ _
      go_wp2_with fail
      go_roundw
      case rel => exact ⟨k + 1, j + 4, by omega, by have := HJ.out; omega, by go_num, hown, hm3⟩
      case measure => simp [intOf]; omega
    · obtain rfl : k = m := by omega
      have hge : ¬ ((j : Int) < ((s.size : Nat) : Int)) := by have := HM.out; have := HJ.out; omega
      go_wp2_with fail
      go_ret2
      exact ⟨_, rfl, own, hmr⟩
end Go.Proofs.Ytpnpmploaaenlaa.Wd
