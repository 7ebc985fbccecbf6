/- Two texts turned into one another; whether two are the same. -/
import Derived.Test.YtbmeejopfcpoaaaW6
import Derived.Laws.BitsAllLaws
namespace Go.Proofs.Ytbmeejopfcpoaaa
open Go.RowKit
set_option linter.unusedSimpArgs false
set_option linter.unusedVariables false

def xorL (a b : ByteArray) (k : Nat) : List UInt8 := (List.range k).map fun j => byteU a j ^^^ byteU b j
theorem xorL_succ (a b : ByteArray) (k : Nat) : xorL a b (k + 1) = xorL a b k ++ [byteU a k ^^^ byteU b k] := by
  unfold xorL; rw [List.range_succ]; simp
theorem xorL_length (a b : ByteArray) (k : Nat) : (xorL a b k).length = k := by simp [xorL]
theorem xor_byte (a b : ByteArray) (k : Nat) : bits BinOp.xor IntKind.u8 (byteAt a k : Int) (byteAt b k : Int) = ((byteU a k ^^^ byteU b k).toNat : Int) := by
  rw [u8_xor_nat _ _ (byteAt_lt a k) (byteAt_lt b k), UInt8.toNat_xor]; rfl
theorem or_byte (d e : UInt8) : bits BinOp.or IntKind.u8 (d.toNat : Int) (e.toNat : Int) = ((d ||| e).toNat : Int) := by
  rw [u8_or_nat _ _ d.toNat_lt e.toNat_lt, UInt8.toNat_or]
set_option maxRecDepth 100000 in
set_option maxHeartbeats 4000000 in
theorem rxor_ok (a b : ByteArray) (w : World) (ha : a.size ≤ 100000) (hab : a.size = b.size) :
    Calls Try.prog 24 #[.string a, .string b] w fun e w' => e = .returned (.tuple #[.string ⟨(xorL a b a.size).toArray⟩, .int .i64 0]) ∧ Mod (fun _ => False) w w' := by
  have hne : (((a.size : Nat) : Int) != ((b.size : Nat) : Int)) = false := by rw [bne_eq_false_iff_eq]; omega
  have HAB := Lib.hid hab
  clear hab
  go_enter Try.func24, Try.ntmps24
  go_wp2_with fail
  go_loopw [6, 7] (fun v i wr => ∃ k : Nat, k ≤ a.size ∧ i = .int .i64 (k : Int) ∧ Acc w wr v (xorL a b k)) (fun _ i _ => a.size - (intOf i).toNat)
  case atStart => exact ⟨0, by omega, rfl, Acc.nil _⟩
  case round =>
    obtain ⟨k, hk, rfl, acc⟩ := hrel
    by_cases hlt : k < a.size
    · have hi0 : (0 : Int) ≤ (k : Int) := by omega
      have hlt2 : (k : Int) < ((a.size : Nat) : Int) := by omega
      have hlt3 : (k : Int) < ((b.size : Nat) : Int) := by have := HAB.out; omega
      have Ha := Lib.hid (show k < a.size by omega)
      have Hb := Lib.hid (show k < b.size by have := HAB.out; omega)
      have HL := Lib.hid (xorL_succ a b k)
      obtain ⟨v', w3, hrun, acc3⟩ := acc_push acc (by rw [xorL_length]; omega) (byteU a k ^^^ byteU b k) _ rfl _ (.inr rfl)
      rw [← HL.out] at acc3
      clear acc
      go_wp2_with fail
      refine wp_region_held_drew (S := (fun _ => True)) (by kernel_rfl) trivial (fun hHeld => ?_)
      refine held_take 0 19 (v := ?_) rfl rfl (by kernel_rfl) (by kernel_rfl) (by kernel_rfl) (fun _ _ _ _ h => h) (by rfl) ?_ hHeld ?_
      rotate_left; · (intro w hSw; clear hSw; go_simp; first | done | with_reducible rfl)
      simp only [List.setIfInBounds_toArray, List.set_cons_zero, List.set_cons_succ]
      refine held_take 1 20 (v := ?_) rfl rfl (by kernel_rfl) (by kernel_rfl) (by kernel_rfl) (fun _ _ _ _ h => h) (by rfl) ?_ hHeld ?_
      rotate_left; · (intro w hSw; clear hSw; go_simp; first | done | with_reducible rfl)
      simp only [List.setIfInBounds_toArray, List.set_cons_zero, List.set_cons_succ]
      refine held_take 2 21 (v := ?_) rfl rfl (by kernel_rfl) (by kernel_rfl) (by kernel_rfl) (fun _ _ _ _ h => h) (by rfl) ?_ hHeld ?_
      rotate_left; · (intro w hSw; clear hSw; go_simp; first | done | with_reducible rfl)
      simp only [List.setIfInBounds_toArray, List.set_cons_zero, List.set_cons_succ]
      refine held_take 3 22 (v := .int .u8 (byteAt a k)) rfl rfl (by kernel_rfl) (by kernel_rfl) (by kernel_rfl) (fun _ _ _ _ h => h) (by rfl) ?_ hHeld ?_
      · (have hb := Ha.out; intro w hSw; clear hSw; go_simp; first | (rw [byteAt_get _ _ hb]; done) | (rw [dif_pos ⟨by omega, by omega⟩]; simp only [Result.andThen]; first | (rw [byteAt_get _ _ hb]; done) | (rw [byteAt_int _ _ k (by omega)]; done)))
      simp only [List.setIfInBounds_toArray, List.set_cons_zero, List.set_cons_succ]
      refine held_take 4 23 (v := ?_) rfl rfl (by kernel_rfl) (by kernel_rfl) (by kernel_rfl) (fun _ _ _ _ h => h) (by rfl) ?_ hHeld ?_
      rotate_left; · (intro w hSw; clear hSw; go_simp; first | done | with_reducible rfl)
      simp only [List.setIfInBounds_toArray, List.set_cons_zero, List.set_cons_succ]
      refine held_take 5 24 (v := ?_) rfl rfl (by kernel_rfl) (by kernel_rfl) (by kernel_rfl) (fun _ _ _ _ h => h) (by rfl) ?_ hHeld ?_
      rotate_left; · (intro w hSw; clear hSw; go_simp; first | done | with_reducible rfl)
      simp only [List.setIfInBounds_toArray, List.set_cons_zero, List.set_cons_succ]
      refine held_take 6 25 (v := .int .u8 (byteAt b k)) rfl rfl (by kernel_rfl) (by kernel_rfl) (by kernel_rfl) (fun _ _ _ _ h => h) (by rfl) ?_ hHeld ?_
      · (have hb := Hb.out; intro w hSw; clear hSw; go_simp; first | (rw [byteAt_get _ _ hb]; done) | (rw [dif_pos ⟨by omega, by omega⟩]; simp only [Result.andThen]; first | (rw [byteAt_get _ _ hb]; done) | (rw [byteAt_int _ _ k (by omega)]; done)))
      simp only [List.setIfInBounds_toArray, List.set_cons_zero, List.set_cons_succ]
      refine held_take 7 26 (v := .int .u8 ((byteU a k ^^^ byteU b k).toNat : Int)) rfl rfl (by kernel_rfl) (by kernel_rfl) (by kernel_rfl) (fun _ _ _ _ h => h) (by rfl) ?_ hHeld ?_
      · (intro w hSw; clear hSw; go_simp; try exact xor_byte a b k)
      simp only [List.setIfInBounds_toArray, List.set_cons_zero, List.set_cons_succ]
      refine held_make 8 27 rfl rfl (by kernel_rfl) (by rfl) (v := ?_) (w' := ?_) ?_ ?_ (fun hNew => ?_)
      rotate_left 2; · (go_simp; first | done | with_reducible rfl | (constructor <;> with_reducible rfl))
      · trivial
      clear hHeld; have hHeld := hNew; clear hNew
      simp only [List.setIfInBounds_toArray, List.set_cons_zero, List.set_cons_succ]
      refine held_make 9 28 rfl rfl (by kernel_rfl) (by rfl) (v := v') (w' := w3) ?_ ?_ (fun hNew => ?_)
      · (exact op_append (.tmp 19) (.tmp 27) 44 44 rfl rfl rfl rfl hrun)
      · trivial
      clear hHeld; have hHeld := hNew; clear hNew
      simp only [List.setIfInBounds_toArray, List.set_cons_zero, List.set_cons_succ]
      refine held_take 10 6 (v := ?_) rfl rfl (by kernel_rfl) (by kernel_rfl) (by kernel_rfl) (fun _ _ _ _ h => h) (by rfl) ?_ hHeld ?_
      rotate_left; · (intro w hSw; clear hSw; go_simp; first | done | with_reducible rfl)
      simp only [List.setIfInBounds_toArray, List.set_cons_zero, List.set_cons_succ]
      refine wpAnyH_done (by kernel_rfl) ?_ _
      go_wp2_with fail
      go_roundw
      case rel => exact ⟨k + 1, by omega, by go_num, acc3⟩
      case measure => simp [intOf]; omega
    · obtain rfl : k = a.size := by omega
      have HS := Lib.hid acc.str
      have hcv := HS.out
      go_wp2_with fail
      go_ret2
      exact ⟨rfl, acc.2⟩
theorem rxor_bad (a b : ByteArray) (w : World) (hab : a.size ≠ b.size) :
    Calls Try.prog 24 #[.string a, .string b] w fun e w' => e = .returned (.tuple #[.string ⟨#[]⟩, .int .i64 1]) ∧ w = w' := by
  have hne : (((a.size : Nat) : Int) != ((b.size : Nat) : Int)) = true := by rw [bne_iff_ne]; omega
  go_enter Try.func24, Try.ntmps24
  go_wp2_with fail
  go_ret2
  exact ⟨rfl, rfl⟩
theorem bytes_back' (s : ByteArray) : (⟨(bytes s).toArray⟩ : ByteArray) = s := rfl
/-- The bytes' differences, joined. -/
def diffs (a b : ByteArray) : Nat → UInt8
  | 0 => 0
  | k + 1 => diffs a b k ||| (byteU a k ^^^ byteU b k)
theorem diffs_zero (a b : ByteArray) (k : Nat) : diffs a b k = 0 ↔ ∀ j, j < k → byteU a j = byteU b j := by
  induction k with
  | zero => simp [diffs]
  | succ k ih =>
    show diffs a b k ||| (byteU a k ^^^ byteU b k) = 0 ↔ _
    rw [UInt8.or_eq_zero_iff, UInt8.xor_eq_zero_iff, ih]
    constructor
    · rintro ⟨h1, h2⟩ j hj
      by_cases e : j = k
      · subst e; exact h2
      · exact h1 j (by omega)
    · intro h
      exact ⟨fun j hj => h j (by omega), h k (by omega)⟩
set_option maxRecDepth 100000 in
set_option maxHeartbeats 4000000 in
theorem same_ok (a b : ByteArray) (w : World) (ha : a.size ≤ 100000) (hab : a.size = b.size) (r : Bool) (hr : ((((diffs a b a.size).toNat : Nat) : Int) == 0) = r) :
    Calls Try.prog 25 #[.string a, .string b] w fun e w' => e = .returned (.bool r) ∧ Mod (fun _ => False) w w' := by
  have hne : (((a.size : Nat) : Int) != ((b.size : Nat) : Int)) = false := by rw [bne_eq_false_iff_eq]; omega
  have HAB := Lib.hid hab
  have HR := Lib.hid hr
  clear hab hr
  go_enter Try.func25, Try.ntmps25
  go_wp2_with fail
  go_loopw [5, 14] (fun d i wr => ∃ k : Nat, k ≤ a.size ∧ i = .int .i64 (k : Int) ∧ d = .int .u8 ((diffs a b k).toNat : Int) ∧ Mod (fun _ => False) w wr) (fun _ i _ => a.size - (intOf i).toNat)
  case atStart => exact ⟨0, by omega, rfl, rfl, Mod.refl _ _⟩
  case round =>
    obtain ⟨k, hk, rfl, rfl, hm⟩ := hrel
    by_cases hlt : k < a.size
    · have hi0 : (0 : Int) ≤ (k : Int) := by omega
      have hlt2 : (k : Int) < ((a.size : Nat) : Int) := by omega
      have hlt3 : (k : Int) < ((b.size : Nat) : Int) := by have := HAB.out; omega
      have Ha := Lib.hid (show k < a.size by omega)
      have Hb := Lib.hid (show k < b.size by have := HAB.out; omega)
      obtain ⟨X, HX⟩ : ∃ X : UInt8, Hid (bits BinOp.xor IntKind.u8 (byteAt a k : Int) (byteAt b k : Int) = (X.toNat : Int)) ∧ Hid (X = byteU a k ^^^ byteU b k) := ⟨_, xor_byte a b k, rfl⟩
      obtain ⟨HX, HX2⟩ := HX
      obtain ⟨E, HE, HD⟩ : ∃ E : UInt8, Hid (bits BinOp.or IntKind.u8 ((diffs a b k).toNat : Int) (X.toNat : Int) = (E.toNat : Int)) ∧ Hid (diffs a b (k + 1) = E) := ⟨_, or_byte _ _, by rw [HX2.out]; exact rfl⟩
      generalize diffs a b k = D at HE ⊢
      go_wp2_with fail
      refine wp_region_held_drew (S := (fun _ => True)) (by kernel_rfl) trivial (fun hHeld => ?_)
      refine held_take 0 17 (v := ?_) rfl rfl (by kernel_rfl) (by kernel_rfl) (by kernel_rfl) (fun _ _ _ _ h => h) (by rfl) ?_ hHeld ?_
      rotate_left; · (intro w hSw; clear hSw; go_simp; first | done | with_reducible rfl)
      simp only [List.setIfInBounds_toArray, List.set_cons_zero, List.set_cons_succ]
      refine held_take 1 18 (v := ?_) rfl rfl (by kernel_rfl) (by kernel_rfl) (by kernel_rfl) (fun _ _ _ _ h => h) (by rfl) ?_ hHeld ?_
      rotate_left; · (intro w hSw; clear hSw; go_simp; first | done | with_reducible rfl)
      simp only [List.setIfInBounds_toArray, List.set_cons_zero, List.set_cons_succ]
      refine held_take 2 19 (v := ?_) rfl rfl (by kernel_rfl) (by kernel_rfl) (by kernel_rfl) (fun _ _ _ _ h => h) (by rfl) ?_ hHeld ?_
      rotate_left; · (intro w hSw; clear hSw; go_simp; first | done | with_reducible rfl)
      simp only [List.setIfInBounds_toArray, List.set_cons_zero, List.set_cons_succ]
      refine held_take 3 20 (v := .int .u8 (byteAt a k)) rfl rfl (by kernel_rfl) (by kernel_rfl) (by kernel_rfl) (fun _ _ _ _ h => h) (by rfl) ?_ hHeld ?_
      · (have hb := Ha.out; intro w hSw; clear hSw; go_simp; first | (rw [byteAt_get _ _ hb]; done) | (rw [dif_pos ⟨by omega, by omega⟩]; simp only [Result.andThen]; first | (rw [byteAt_get _ _ hb]; done) | (rw [byteAt_int _ _ k (by omega)]; done)))
      simp only [List.setIfInBounds_toArray, List.set_cons_zero, List.set_cons_succ]
      refine held_take 4 21 (v := ?_) rfl rfl (by kernel_rfl) (by kernel_rfl) (by kernel_rfl) (fun _ _ _ _ h => h) (by rfl) ?_ hHeld ?_
      rotate_left; · (intro w hSw; clear hSw; go_simp; first | done | with_reducible rfl)
      simp only [List.setIfInBounds_toArray, List.set_cons_zero, List.set_cons_succ]
      refine held_take 5 22 (v := ?_) rfl rfl (by kernel_rfl) (by kernel_rfl) (by kernel_rfl) (fun _ _ _ _ h => h) (by rfl) ?_ hHeld ?_
      rotate_left; · (intro w hSw; clear hSw; go_simp; first | done | with_reducible rfl)
      simp only [List.setIfInBounds_toArray, List.set_cons_zero, List.set_cons_succ]
      refine held_take 6 23 (v := .int .u8 (byteAt b k)) rfl rfl (by kernel_rfl) (by kernel_rfl) (by kernel_rfl) (fun _ _ _ _ h => h) (by rfl) ?_ hHeld ?_
      · (have hb := Hb.out; intro w hSw; clear hSw; go_simp; first | (rw [byteAt_get _ _ hb]; done) | (rw [dif_pos ⟨by omega, by omega⟩]; simp only [Result.andThen]; first | (rw [byteAt_get _ _ hb]; done) | (rw [byteAt_int _ _ k (by omega)]; done)))
      simp only [List.setIfInBounds_toArray, List.set_cons_zero, List.set_cons_succ]
      refine held_take 7 24 (v := .int .u8 (X.toNat : Int)) rfl rfl (by kernel_rfl) (by kernel_rfl) (by kernel_rfl) (fun _ _ _ _ h => h) (by rfl) ?_ hHeld ?_
      · (intro w hSw; clear hSw; go_simp; first | exact HX.out | (rw [HX.out]; done))
      simp only [List.setIfInBounds_toArray, List.set_cons_zero, List.set_cons_succ]
      refine held_take 8 25 (v := .int .u8 (E.toNat : Int)) rfl rfl (by kernel_rfl) (by kernel_rfl) (by kernel_rfl) (fun _ _ _ _ h => h) (by rfl) ?_ hHeld ?_
      · (intro w hSw; clear hSw; go_simp; first | exact HE.out | (rw [HE.out]; done))
      simp only [List.setIfInBounds_toArray, List.set_cons_zero, List.set_cons_succ]
      refine held_take 9 5 (v := ?_) rfl rfl (by kernel_rfl) (by kernel_rfl) (by kernel_rfl) (fun _ _ _ _ h => h) (by rfl) ?_ hHeld ?_
      rotate_left; · (intro w hSw; clear hSw; go_simp; first | done | with_reducible rfl)
      simp only [List.setIfInBounds_toArray, List.set_cons_zero, List.set_cons_succ]
      refine wpAnyH_done (by kernel_rfl) ?_ _
      go_wp2_with fail
      go_roundw
      case rel => exact ⟨k + 1, by omega, by go_num, by rw [HD.out], hm.drew⟩
      case measure => simp [intOf]; omega
    · obtain rfl : k = a.size := by omega
      have hr2 := HR.out
      go_wp2_with fail
      go_ret
      exact ⟨rfl, hm⟩
theorem same_no (a b : ByteArray) (w : World) (hab : a.size ≠ b.size) :
    Calls Try.prog 25 #[.string a, .string b] w fun e w' => e = .returned (.bool false) ∧ w = w' := by
  have hne : (((a.size : Nat) : Int) != ((b.size : Nat) : Int)) = true := by rw [bne_iff_ne]; omega
  go_enter Try.func25, Try.ntmps25
  go_wp2_with fail
  go_ret
  exact ⟨rfl, rfl⟩
theorem bytes_ext {a b : ByteArray} (hs : a.size = b.size) (h : ∀ j, j < a.size → byteU a j = byteU b j) : a = b := by
  rw [← bytes_back' a, ← bytes_back' b]
  congr 2
  apply List.ext_getElem?
  intro j
  have la : (bytes a).length = a.size := by unfold bytes; simp
  have lb : (bytes b).length = b.size := by unfold bytes; simp
  by_cases hj : j < a.size
  · have := h j hj
    unfold byteU at this
    rw [List.getD_eq_getElem?_getD, List.getD_eq_getElem?_getD, List.getElem?_eq_getElem (by omega), List.getElem?_eq_getElem (by omega)] at this
    rw [List.getElem?_eq_getElem (by omega), List.getElem?_eq_getElem (by omega)]
    exact congrArg some this
  · rw [List.getElem?_eq_none (by omega), List.getElem?_eq_none (by omega)]
theorem same_any (a b : ByteArray) (w : World) (ha : a.size ≤ 100000) :
    Calls Try.prog 25 #[.string a, .string b] w fun e w' => e = .returned (.bool (decide (a = b))) ∧ Mod (fun _ => False) w w' := by
  by_cases hab : a.size = b.size
  · refine same_ok a b w ha hab (decide (a = b)) ?_
    by_cases h : a = b
    · subst h
      have hz := (diffs_zero a a a.size).2 (fun _ _ => rfl)
      rw [hz]; simp
    · have hz : diffs a b a.size ≠ 0 := fun e => h (bytes_ext hab ((diffs_zero a b a.size).1 e))
      have hn : (diffs a b a.size).toNat ≠ 0 := fun e => hz (UInt8.toNat_inj.mp (by rw [e]; rfl))
      rw [decide_eq_false h, beq_eq_false_iff_ne]
      omega
  · refine (same_no a b w hab).mono ?_
    rintro e w' ⟨rfl, rfl⟩
    have h : a ≠ b := fun e => hab (by rw [e])
    exact ⟨by rw [decide_eq_false h], Mod.refl _ _⟩
end Go.Proofs.Ytbmeejopfcpoaaa
