/- The reference's constants, the words in which its sum begins, its padding: the walks. The reference's padding: the walk. -/
import Derived.Test.YtpnpmploaaenlaaMS9
namespace Go.Proofs.Ytpnpmploaaenlaa
open Go.RowKit
set_option linter.unusedSimpArgs false
set_option linter.unusedVariables false
theorem Dg.ints {w : World} {g n : Nat} {z : Nat → Nat} (h : Dg w g n z) : Wd.Ints w (some ⟨g, 0, none⟩) n (fun j => (z j : Int)) := fun k hk => ⟨g, 0, rfl, by rw [Nat.zero_add]; exact h k hk⟩
theorem dg_new (w : World) (n : Nat) (z : Nat → Nat) (cs : Array Value) (h : cs = (natL n z).toArray) : Dg (w.alloc (.cells cs 3)) w.heap.size n z := fun k hk => by
  subst h
  exact cell_new w _ 3 k _ (by rw [List.getElem?_toArray]; exact natL_get n z k hk)
set_option maxRecDepth 100000 in
set_option maxHeartbeats 4000000 in
theorem rconst_any (w : World) :
    Calls Try.prog 91 #[] w fun e w' => e = .returned (.slice (some ⟨w.heap.size, 0, none⟩) 64 64) ∧ Dg w' w.heap.size 64 kN ∧ Mod (fun _ => False) w w' := by
  go_enter Try.func91, Try.ntmps91
  go_wp2
  go_ret
  exact ⟨rfl, dg_new w 64 kN _ (by kernel_rfl), (Mod.refl _ w).alloc _⟩
theorem begin_any (w : World) :
    Calls Try.prog 83 #[] w fun e w' => e = .returned (.string ⟨(textL hN).toArray⟩) ∧ Mod (fun _ => False) w w' := by
  go_enter Try.func83, Try.ntmps83
  go_wp2_with (go_at_call 54; refine (Wd.rputbig_any _ 8 8 (fun j => (hN j : Int)) _ (by decide) (dg_new w 8 hN _ (by kernel_rfl)).ints).mono ?_; rintro e w' ⟨rfl, hm⟩)
  go_ret
  exact ⟨rfl, ((Mod.refl _ w).alloc _).tr hm⟩
theorem text_word (h : Nat → Nat) (hh : ∀ j, h j < 4294967296) (k : Nat) (hk : k < 8) : wordB ⟨(textL h).toArray⟩ k = h k := by
  have e : ∀ i, i < 4 → byteAt (⟨(textL h).toArray⟩ : ByteArray) (4 * k + i) = ((Wd.b4 (h k : Int)).getD i 0).toNat := by
    intro i hi
    show ((textL h).getD (4 * k + i) 0).toNat = _
    rw [show (textL h).getD (4 * k + i) 0 = _ from putL_at (fun j => (h j : Int)) 8 k i hk hi]
  show Wd.be4 (byteAt _ _) (byteAt _ _) (byteAt _ _) (byteAt _ _) = _
  rw [show 4 * k = 4 * k + 0 from rfl, e 0 (by decide), show 4 * k + 0 + 1 = 4 * k + 1 from rfl, e 1 (by decide), show 4 * k + 0 + 2 = 4 * k + 2 from rfl, e 2 (by decide), show 4 * k + 0 + 3 = 4 * k + 3 from rfl, e 3 (by decide)]
  unfold Wd.b4 Wd.be4
  rw [wordN_nat _ (hh k)]
  have := hh k
  simp
  omega
end Go.Proofs.Ytpnpmploaaenlaa
namespace Go.Proofs.Ytpnpmploaaenlaa
open Go.RowKit
set_option linter.unusedSimpArgs false
set_option linter.unusedVariables false
theorem own_new (w : World) (b : UInt8) (c : Int) (hc : c = (b.toNat : Int)) : Acc w (w.alloc (.cells #[.int .u8 c] 5)) (.slice (some ⟨w.heap.size, 0, none⟩) 1 1) [b] := by
  subst hc
  exact ⟨⟨rfl, .inr ⟨w.heap.size, 1, _, rfl, Nat.le_refl _, new_block w _ _ _ rfl, Nat.le_refl _, by unfold maxLen; omega, rfl, rfl⟩⟩, (Mod.refl _ w).alloc _⟩
def padZ2 (n : Nat) (j : Nat) : Int := if j = 0 then (8 * (n : Int)) / 4294967296 else (8 * (n : Int)) % 4294967296
theorem putL_congr {z z' : Nat → Int} (n : Nat) (h : ∀ j, j < n → Wd.wordN (z j) = Wd.wordN (z' j)) : Wd.putL z n = Wd.putL z' n := by
  induction n with
  | zero => rfl
  | succ n ih =>
    have e : ∀ u : Nat → Int, Wd.putL u (n + 1) = Wd.putL u n ++ Wd.b4 (u n) := fun u => by unfold Wd.putL; rw [List.range_succ, List.flatMap_append]; simp
    rw [e, e, ih (fun j hj => h j (by omega))]
    unfold Wd.b4
    rw [h n (by omega)]
theorem padZ2_eq (n : Nat) : Wd.putL (padZ2 n) 2 = Wd.putL (padZ n) 2 := by
  refine putL_congr 2 (fun j hj => ?_)
  have : j = 0 ∨ j = 1 := by omega
  unfold Wd.wordN padZ2 padZ
  rcases this with rfl | rfl
  · rw [if_pos rfl, if_pos rfl]; congr 2; omega
  · rw [if_neg (by decide), if_neg (by decide)]; omega
def lenV : Value → Nat
  | .slice _ n _ => n
  | _ => 0
set_option maxRecDepth 100000 in
set_option maxHeartbeats 4000000 in
theorem rpad_any (n : Nat) (hn : n ≤ 1000000) (w : World) :
    Calls Try.prog 82 #[.int .i64 (n : Int)] w fun e w' => e = .returned (.tuple #[.string ⟨(padL n).toArray⟩, .int .i64 0]) ∧ Mod (fun _ => False) w w' := by
  have h0 : ¬ (n : Int) < 0 := by omega
  have h1 : ¬ (1125899906842624 : Int) < (n : Int) := by omega
  obtain ⟨c, hc⟩ : ∃ c, (119 - n % 64) % 64 = c := ⟨_, rfl⟩
  have HC := Lib.hid hc
  clear hc
  go_enter Try.func82, Try.ntmps82
  go_wp2_with fail
  go_loopw [4] (fun v wr => ∃ k : Nat, k ≤ c ∧ Acc w wr v (128 :: List.replicate k 0)) (fun v _ => 64 - lenV v)
  case atStart => exact ⟨0, by omega, own_new w 128 _ rfl⟩
  case round =>
    obtain ⟨k, hk, acc⟩ := hrel
    obtain ⟨ad, cap, rfl⟩ := own_form acc.1
    have hlen : (128 :: List.replicate k (0 : UInt8)).length = k + 1 := by simp
    rw [hlen] at acc ⊢
    have hc64 : c < 64 := by have := HC.out; omega
    obtain ⟨r, hr⟩ : ∃ r : Nat, (n + k + 9) % 64 = r := ⟨_, rfl⟩
    have hr1 : ((n : Int) + ((k : Int) + 1) + 8) % 64 = (r : Int) := by omega
    by_cases hlt : k < c
    · have hr0 : r ≠ 0 := by have := HC.out; omega
      have hne : ((r : Int) != 0) = true := by rw [bne_iff_ne]; omega
      have HR := Lib.hid hr
      clear hr
      have hrep : (128 :: List.replicate k (0 : UInt8)) ++ [0] = 128 :: List.replicate (k + 1) 0 := by rw [List.cons_append, List.replicate_succ']
      go_wp2_with (at_builtin; refine wpList_push rfl (.tmp 20) (.tmp 21) rfl rfl rfl acc (by simp; omega) 0 _ rfl rfl ?_; intro v' w' acc2)
      rw [hrep] at acc2
      go_wp2_with fail
      go_roundw
      case rel => exact ⟨k + 1, by omega, acc2⟩
      case measure =>
        obtain ⟨a2, cap2, e2⟩ := own_form acc2.1
        rw [e2]
        simp [lenV]
        omega
    · obtain rfl : k = c := by omega
      have hr0 : r = 0 := by have := HC.out; omega
      subst hr0
      have HR := Lib.hid hr
      clear hr
      have hr2 : ((0 : Int) != 0) = false := rfl
      obtain ⟨L, hL⟩ : ∃ L, (128 :: List.replicate k (0 : UInt8)) = L := ⟨_, rfl⟩
      rw [hL] at acc hlen
      have hcat : (⟨L.toArray⟩ : ByteArray) ++ ⟨(Wd.putL (padZ2 n) 2).toArray⟩ = ⟨(padL n).toArray⟩ := by
        rw [bs_app, padZ2_eq, ← hL]; unfold padL; rw [HC.out]; rfl
      have hbig : ¬ (9223372036854775807 < L.length + (Wd.putL (padZ2 n) 2).length) := by rw [putL_len, hlen]; omega
      clear hL
      go_wp2_with fail
      refine wp_region_held_any (S := (fun w' => Acc w w' (.slice ad (k + 1) cap) L)) (by kernel_rfl) (fun wd hwd => ?_)
      refine ⟨by subst hwd; exact acc.drew, fun hHeld => ?_⟩
      clear hwd acc
      refine held_take 0 25 (v := ?_) rfl rfl (by kernel_rfl) (by kernel_rfl) (by kernel_rfl) (fun _ _ _ _ h => h) (by rfl) ?_ hHeld ?_
      rotate_left; · (intro w hSw; clear hSw; go_simp; first | done | with_reducible rfl)
      simp only [List.setIfInBounds_toArray, List.set_cons_zero, List.set_cons_succ]
      refine held_take 1 26 (v := .string ⟨L.toArray⟩) rfl rfl (by kernel_rfl) (by kernel_rfl) (by kernel_rfl) (fun _ _ _ _ h => h) (by rfl) ?_ hHeld ?_
      · (intro w' hSw; have hc := Acc.str hSw; go_simp; first | done | (rw [hc]; rfl))
      simp only [List.setIfInBounds_toArray, List.set_cons_zero, List.set_cons_succ]
      refine held_take 2 27 (v := ?_) rfl rfl (by kernel_rfl) (by kernel_rfl) (by kernel_rfl) (fun _ _ _ _ h => h) (by rfl) ?_ hHeld ?_
      rotate_left; · (intro w hSw; clear hSw; go_simp; first | done | with_reducible rfl)
      simp only [List.setIfInBounds_toArray, List.set_cons_zero, List.set_cons_succ]
      refine held_take 3 28 (v := .int .i64 (padZ2 n 0)) rfl rfl (by kernel_rfl) (by kernel_rfl) (by kernel_rfl) (fun _ _ _ _ h => h) (by rfl) ?_ hHeld ?_
      · (intro w' hSw; clear hSw; go_simp; rfl)
      simp only [List.setIfInBounds_toArray, List.set_cons_zero, List.set_cons_succ]
      refine held_take 4 29 (v := ?_) rfl rfl (by kernel_rfl) (by kernel_rfl) (by kernel_rfl) (fun _ _ _ _ h => h) (by rfl) ?_ hHeld ?_
      rotate_left; · (intro w hSw; clear hSw; go_simp; first | done | with_reducible rfl)
      simp only [List.setIfInBounds_toArray, List.set_cons_zero, List.set_cons_succ]
      refine held_take 5 30 (v := .int .i64 (padZ2 n 1)) rfl rfl (by kernel_rfl) (by kernel_rfl) (by kernel_rfl) (fun _ _ _ _ h => h) (by rfl) ?_ hHeld ?_
      · (intro w' hSw; clear hSw; go_simp; exact Wd.i64_and_word _)
      simp only [List.setIfInBounds_toArray, List.set_cons_zero, List.set_cons_succ]
      refine held_make 6 31 rfl rfl (by kernel_rfl) (by rfl) (v := .slice (some ⟨wd.heap.size, 0, none⟩) 2 2) (w' := wd.alloc (.cells #[.int .i64 (padZ2 n 0), .int .i64 (padZ2 n 1)] 3)) ?_ ?_ (fun hNew => ?_)
      · (go_simp; first | done | rfl)
      · exact hHeld.mod ((Mod.refl _ _).alloc _)
      clear hHeld; have hHeld := hNew; clear hNew
      simp only [List.setIfInBounds_toArray, List.set_cons_zero, List.set_cons_succ]
      refine held_call 7 32 rfl rfl (by kernel_rfl) (by rfl) (f := 54) (args := ?_) ?_ ?_
      rotate_left; · (go_simp; first | done | with_reducible rfl)
      refine (Wd.rputbig_any _ 2 2 (padZ2 n) _ (by decide) (Wd.Ints.kept (two_ints _ _ _ (padZ2 n) rfl rfl) (Mod.refl _ _))).mono ?_
      rintro e w' ⟨rfl, hm2⟩
      refine ⟨_, rfl, (hHeld.mod hm2), fun hNew => ?_⟩; clear hHeld; have hHeld := hNew; clear hNew
      simp only [List.setIfInBounds_toArray, List.set_cons_zero, List.set_cons_succ]
      refine held_take 8 33 (v := .string ⟨(padL n).toArray⟩) rfl rfl (by kernel_rfl) (by kernel_rfl) (by kernel_rfl) (fun _ _ _ _ h => h) (by rfl) ?_ hHeld ?_
      · (intro w' hSw; clear hSw; go_simp; first | done | (rw [hcat]) | (rw [putL_len]; omega))
      simp only [List.setIfInBounds_toArray, List.set_cons_zero, List.set_cons_succ]
      refine held_take 9 2 (v := ?_) rfl rfl (by kernel_rfl) (by kernel_rfl) (by kernel_rfl) (fun _ _ _ _ h => h) (by rfl) ?_ hHeld ?_
      rotate_left; · (intro w hSw; clear hSw; go_simp; first | done | with_reducible rfl)
      simp only [List.setIfInBounds_toArray, List.set_cons_zero, List.set_cons_succ]
      refine held_take 10 3 (v := ?_) rfl rfl (by kernel_rfl) (by kernel_rfl) (by kernel_rfl) (fun _ _ _ _ h => h) (by rfl) ?_ hHeld ?_
      rotate_left; · (intro w hSw; clear hSw; go_simp; first | done | with_reducible rfl)
      simp only [List.setIfInBounds_toArray, List.set_cons_zero, List.set_cons_succ]
      refine wpAnyH_done (by kernel_rfl) ?_ _
      skip
      go_wp2_with fail
      go_ret2
      exact ⟨rfl, hHeld.2⟩
end Go.Proofs.Ytpnpmploaaenlaa
