/- The reference's stream: the walk. -/
import Derived.Test.YtpnpmploaaenlaaMSq
import Derived.Lib.AppendStr
namespace Go.Proofs.Ytpnpmploaaenlaa
open Go.RowKit
set_option linter.unusedSimpArgs false
set_option linter.unusedVariables false
theorem wpList_app {W w : World} {ops : Array Oper} {rest : List Oper} {o : Oper} {a : Act} {Q : Exit → Act → World → Prop} (hgd : o.guard = none) (s x : Operand)
    (ho : o.op = .call { callee := .builtin .append, args := #[s, x], argTypes := #[33, 9] }) {v : Value} {l : List UInt8} (hs : a.eval s = v) (h : Acc W w v l) (hl : l.length ≤ 1000000) (t : ByteArray) (ht : t.size ≤ 1000000) (hx : a.eval x = .string t)
    (hk : ∀ v' w', Acc W w' v' (l ++ t.data.toList) → wpList Try.prog ops Q rest (a.put o.dst v') w') : wpList Try.prog ops Q (o :: rest) a w := by
  obtain ⟨i0, hi, hz0, hz1, hz2⟩ := info_parts info5
  refine Lib.wpList_append_own_string _ hgd s x 33 9 ho W.heap.size 5 i0 Try.underlying33 Try.underlying9 hi hz0 hz1 hz2 v _ _ hs h.1 t hx (by unfold maxLen; omega) (by omega) h.2.size (fun v' w' hown hgrow _ => hk v' w' ⟨?_, own_grown h.2 h.1 hgrow⟩)
  have e : (l ++ t.data.toList).length = l.length + t.size := by rw [List.length_append, Array.length_toList]; rfl
  rw [e, Lib.byteCells_append]
  exact hown
theorem take_next (s : ByteArray) (B : Nat → List UInt8) (q c e mm : Nat) (hc : c = 64 * q) (he : c + mm = e) (hes : e ≤ s.size) (hm : mm ≤ 64) (hB : (B q).length = 64) :
    (sxL s B).take c ++ Wd.xorL (s.extract c e) ((⟨(B q).toArray⟩ : ByteArray).extract 0 mm) mm = (sxL s B).take e := by
  apply List.ext_getElem?
  intro j
  have l1 : ((sxL s B).take c).length = c := by rw [List.length_take, sxL_len]; omega
  rw [List.getElem?_append, l1, List.getElem?_take, List.getElem?_take]
  by_cases h1 : j < c
  · rw [if_pos h1, if_pos h1, if_pos (by omega)]
  · rw [if_neg h1]
    by_cases h2 : j < e
    · rw [if_pos h2]
      unfold sxL Wd.xorL
      rw [List.getElem?_map, List.getElem?_map, List.getElem?_range (by omega), List.getElem?_range (by omega)]
      show some (byteU (s.extract c e) (j - c) ^^^ byteU ((⟨(B q).toArray⟩ : ByteArray).extract 0 mm) (j - c)) = some (sx s B j)
      have x1 : byteU (s.extract c e) (j - c) = byteU s j := by
        unfold byteU
        rw [bytes_cut, List.getD_eq_getElem?_getD, List.getElem?_take, if_pos (by omega), List.getElem?_drop, List.getD_eq_getElem?_getD, show c + (j - c) = j by omega]
      have x2 : byteU ((⟨(B q).toArray⟩ : ByteArray).extract 0 mm) (j - c) = (B q).getD (j - c) 0 := by
        unfold byteU
        rw [bytes_cut, List.getD_eq_getElem?_getD, List.getElem?_take, if_pos (by omega), List.getElem?_drop, List.getD_eq_getElem?_getD, Nat.zero_add]
        rfl
      unfold sx
      rw [x1, x2, show j / 64 = q by omega, show j % 64 = j - c by omega]
    · rw [if_neg h2]
      exact List.getElem?_eq_none (by rw [Wd.xorL_length]; omega)
set_option maxRecDepth 100000 in
set_option maxHeartbeats 8000000 in
theorem rstream_walk (key nonce s : ByteArray) (c0 : Nat) (B : Nat → List UInt8) (hs : s.size ≤ 10000) (hc : c0 ≤ 10) (hk32 : key.size = 32) (hn12 : nonce.size = 12) (hB : ∀ q, (B q).length = 64)
    (hb : ∀ (q : Nat) (w : World), q ≤ 10000 → Calls Try.prog 27 #[.string key, .string nonce, .int .i64 ((c0 : Int) + (q : Int))] w fun e w' => e = .returned (.tuple #[.string ⟨(B q).toArray⟩, .int .i64 0]) ∧ Mod (fun _ => False) w w') (w : World) :
    Calls Try.prog 13 #[.string key, .string nonce, .int .i64 (c0 : Int), .string s] w fun e w' => e = .returned (.tuple #[.string ⟨(sxL s B).toArray⟩, .int .i64 0]) ∧ Mod (fun _ => False) w w' := by
  have H2 := Lib.hid hb
  have g1 : ¬ (65536 : Int) < (s.size : Int) := by omega
  obtain ⟨nq, hnq⟩ : ∃ nq, (s.size + 63) / 64 = nq := ⟨_, rfl⟩
  have g2 : ((s.size : Int) + 63) / 64 = (nq : Int) := by omega
  have g3 : ¬ (4294967296 : Int) - (c0 : Int) < (nq : Int) := by omega
  have g4 : ¬ (c0 : Int) < 0 := by omega
  have g5 : ¬ (4294967295 : Int) < (c0 : Int) := by omega
  clear hb
  go_enter Try.func13, Try.ntmps13
  go_wp2_with fail
  go_loopw [10, 11] (fun v a wr => ∃ q c : Nat, c = 64 * q ∧ c ≤ s.size + 63 ∧ a = .int .i64 (c : Int) ∧ Acc w wr v ((sxL s B).take c)) (fun _ a _ => s.size + 64 - (intOf a).toNat)
  case atStart => exact ⟨0, 0, rfl, by omega, rfl, Acc.nil w⟩
  case round =>
    obtain ⟨q, c, hcq, hcn, rfl, acc⟩ := hrel
    by_cases hlt : c < s.size
    · have hlt2 : (c : Int) < (s.size : Int) := by omega
      have c00 : (0 : Int) ≤ (c : Int) := by omega
      have hq1 : (c : Int) / 64 = (q : Int) := by omega
      have hq2 : (c : Int).tdiv 64 = (q : Int) := by rw [Int.tdiv_eq_ediv_of_nonneg (by omega)]; omega
      obtain ⟨mm, hmm⟩ : ∃ mm, min 64 (s.size - c) = mm := ⟨_, rfl⟩
      have hmm64 : mm ≤ 64 := by omega
      obtain ⟨e, he⟩ : ∃ e, c + mm = e := ⟨_, rfl⟩
      have hes : e ≤ s.size := by omega
      have e1 : (c : Int) + (mm : Int) = (e : Int) := by omega
      have ew : IntKind.i64.wrap (e : Int) = (e : Int) := by rw [IntKind.wrap_i64]; omega
      have e2 : (e : Int) ≤ (s.size : Int) := by omega
      have e3 : (c : Int) ≤ (e : Int) := by omega
      have m0 : (0 : Int) ≤ (mm : Int) := by omega
      have m1 : (mm : Int) ≤ 64 := by omega
      have hmin : min (64 : Int) ((s.size : Int) - (c : Int)) = (mm : Int) := by omega
      have hBs : (⟨(B q).toArray⟩ : ByteArray).size = 64 := by show (B q).toArray.size = 64; rw [List.size_toArray, hB]
      have hBl := hB q
      have hA1 : (s.extract c e).size ≤ 100000 := by rw [ByteArray.size_extract]; omega
      have hA2 : (s.extract c e).size = ((⟨(B q).toArray⟩ : ByteArray).extract 0 mm).size := by rw [ByteArray.size_extract, ByteArray.size_extract, hBs]; omega
      have HT := Lib.hid (take_next s B q c e mm hcq he hes hmm64 (hB q))
      have HQ := Lib.hid hcq
      have HMM := Lib.hid hmm
      have HE := Lib.hid he
      have HA := Lib.hid acc
      have H1 := Lib.hid (And.intro hA1 hA2)
      clear hcq hmm he acc hA1 hA2
      go_wp2_with (go_at_call 27; refine (H2.out _ _ (by have := HQ.out; omega)).mono ?_; rintro er w1 ⟨rfl, hm1⟩)
      refine wp_region_held_any (S := fun w' => Mod (fun _ => False) w1.drew w') (by kernel_rfl) (fun wd hwd => ?_)
      rw [hwd]
      refine ⟨Mod.refl _ _, fun hHeld => ?_⟩
      have HA2 := Lib.hid ((HA.out.mod hm1).drew)
      rw [hwd] at HA2
      have hA1 := H1.out.1
      have hA2 := H1.out.2
      clear hwd HA hm1
      refine held_take 0 69 (v := ?_) rfl rfl (by kernel_rfl) (by kernel_rfl) (by kernel_rfl) (fun _ _ _ _ h => h) (by rfl) ?_ hHeld ?_
      rotate_left; · (intro w hSw; clear hSw; go_simp; first | done | with_reducible rfl)
      simp only [List.setIfInBounds_toArray, List.set_cons_zero, List.set_cons_succ]
      refine held_take 1 70 (v := ?_) rfl rfl (by kernel_rfl) (by kernel_rfl) (by kernel_rfl) (fun _ _ _ _ h => h) (by rfl) ?_ hHeld ?_
      rotate_left; · (intro w hSw; clear hSw; go_simp; first | done | with_reducible rfl)
      simp only [List.setIfInBounds_toArray, List.set_cons_zero, List.set_cons_succ]
      refine held_take 2 71 (v := ?_) rfl rfl (by kernel_rfl) (by kernel_rfl) (by kernel_rfl) (fun _ _ _ _ h => h) (by rfl) ?_ hHeld ?_
      rotate_left; · (intro w hSw; clear hSw; go_simp; first | done | with_reducible rfl)
      simp only [List.setIfInBounds_toArray, List.set_cons_zero, List.set_cons_succ]
      refine held_take 3 72 (v := ?_) rfl rfl (by kernel_rfl) (by kernel_rfl) (by kernel_rfl) (fun _ _ _ _ h => h) (by rfl) ?_ hHeld ?_
      rotate_left; · (intro w hSw; clear hSw; go_simp; first | done | with_reducible rfl)
      simp only [List.setIfInBounds_toArray, List.set_cons_zero, List.set_cons_succ]
      refine held_take 4 73 (v := ?_) rfl rfl (by kernel_rfl) (by kernel_rfl) (by kernel_rfl) (fun _ _ _ _ h => h) (by rfl) ?_ hHeld ?_
      rotate_left; · (intro w hSw; clear hSw; go_simp; first | done | with_reducible rfl)
      simp only [List.setIfInBounds_toArray, List.set_cons_zero, List.set_cons_succ]
      refine held_take 5 74 (v := ?_) rfl rfl (by kernel_rfl) (by kernel_rfl) (by kernel_rfl) (fun _ _ _ _ h => h) (by rfl) ?_ hHeld ?_
      rotate_left; · (intro w hSw; clear hSw; go_simp; first | done | with_reducible rfl)
      simp only [List.setIfInBounds_toArray, List.set_cons_zero, List.set_cons_succ]
      refine held_take 6 75 (v := ?_) rfl rfl (by kernel_rfl) (by kernel_rfl) (by kernel_rfl) (fun _ _ _ _ h => h) (by rfl) ?_ hHeld ?_
      rotate_left; · (intro w hSw; clear hSw; go_simp; first | done | with_reducible rfl)
      simp only [List.setIfInBounds_toArray, List.set_cons_zero, List.set_cons_succ]
      refine held_take 7 76 (v := ?_) rfl rfl (by kernel_rfl) (by kernel_rfl) (by kernel_rfl) (fun _ _ _ _ h => h) (by rfl) ?_ hHeld ?_
      rotate_left; · (intro w hSw; clear hSw; go_simp; first | done | with_reducible rfl)
      simp only [List.setIfInBounds_toArray, List.set_cons_zero, List.set_cons_succ]
      refine held_take 8 77 (v := ?_) rfl rfl (by kernel_rfl) (by kernel_rfl) (by kernel_rfl) (fun _ _ _ _ h => h) (by rfl) ?_ hHeld ?_
      rotate_left; · (intro w hSw; clear hSw; go_simp; first | done | with_reducible rfl)
      simp only [List.setIfInBounds_toArray, List.set_cons_zero, List.set_cons_succ]
      refine held_call 9 78 rfl rfl (by kernel_rfl) (by rfl) (f := 28) (args := ?_) ?_ ?_
      rotate_left; · (go_simp; first | done | with_reducible rfl)
      refine (Wd.rxor_ok _ _ _ hA1 hA2).mono ?_
      rintro er w2 ⟨rfl, hm2⟩
      refine ⟨_, rfl, (hHeld.tr hm2), fun hNew => ?_⟩; clear hHeld; have hHeld := hNew; clear hNew
      simp only [List.setIfInBounds_toArray, List.set_cons_zero, List.set_cons_succ]
      refine held_take 10 68 (v := ?_) rfl rfl (by kernel_rfl) (by kernel_rfl) (by kernel_rfl) (fun _ _ _ _ h => h) (by rfl) ?_ hHeld ?_
      rotate_left; · (intro w hSw; clear hSw; go_simp; first | done | with_reducible rfl)
      simp only [List.setIfInBounds_toArray, List.set_cons_zero, List.set_cons_succ]
      refine held_take 11 79 (v := ?_) rfl rfl (by kernel_rfl) (by kernel_rfl) (by kernel_rfl) (fun _ _ _ _ h => h) (by rfl) ?_ hHeld ?_
      rotate_left; · (intro w hSw; clear hSw; go_simp; first | done | with_reducible rfl)
      simp only [List.setIfInBounds_toArray, List.set_cons_zero, List.set_cons_succ]
      refine held_take 12 80 (v := ?_) rfl rfl (by kernel_rfl) (by kernel_rfl) (by kernel_rfl) (fun _ _ _ _ h => h) (by rfl) ?_ hHeld ?_
      rotate_left; · (intro w hSw; clear hSw; go_simp; first | done | with_reducible rfl)
      simp only [List.setIfInBounds_toArray, List.set_cons_zero, List.set_cons_succ]
      refine held_take 13 15 (v := ?_) rfl rfl (by kernel_rfl) (by kernel_rfl) (by kernel_rfl) (fun _ _ _ _ h => h) (by rfl) ?_ hHeld ?_
      rotate_left; · (intro w hSw; clear hSw; go_simp; first | done | with_reducible rfl)
      simp only [List.setIfInBounds_toArray, List.set_cons_zero, List.set_cons_succ]
      refine held_take 14 16 (v := ?_) rfl rfl (by kernel_rfl) (by kernel_rfl) (by kernel_rfl) (fun _ _ _ _ h => h) (by rfl) ?_ hHeld ?_
      rotate_left; · (intro w hSw; clear hSw; go_simp; first | done | with_reducible rfl)
      simp only [List.setIfInBounds_toArray, List.set_cons_zero, List.set_cons_succ]
      refine wpAnyH_done (by kernel_rfl) ?_ _
      skip
      have HA3 := Lib.hid (HA2.out.mod hHeld)
      clear hHeld HA2 hA1 hA2
      go_wp2_with (at_builtin; refine wpList_app rfl (.tmp 81) (.tmp 82) rfl rfl HA3.out (by rw [List.length_take, sxL_len]; omega) _ ?c1 rfl ?c2)
      case c1 => show (Wd.xorL _ _ _).toArray.size ≤ 1000000; rw [List.size_toArray, Wd.xorL_length]; omega
      intro v' w3 acc3
      have acc4 : Acc w w3 v' ((sxL s B).take (c + 64)) := by
        have e5 : (sxL s B).take (c + 64) = (sxL s B).take e := by
          have := HMM.out
          have := HE.out
          by_cases h : s.size - c ≤ 64
          · rw [List.take_of_length_le (by rw [sxL_len]; omega), List.take_of_length_le (by rw [sxL_len]; omega)]
          · rw [show c + 64 = e by omega]
        rw [e5, ← HT.out]
        exact acc3
      go_wp2_with fail
      go_roundw
      case rel => exact ⟨q + 1, c + 64, by have := HQ.out; omega, by omega, by go_num, acc4⟩
      case measure => simp [intOf]; omega
    · have hge : ¬ (c : Int) < (s.size : Int) := by omega
      rw [List.take_of_length_le (by rw [sxL_len]; omega)] at acc
      have HS := Lib.hid acc.str
      have hcv := HS.out
      go_wp2_with fail
      go_ret2
      exact ⟨rfl, acc.2⟩
end Go.Proofs.Ytpnpmploaaenlaa
