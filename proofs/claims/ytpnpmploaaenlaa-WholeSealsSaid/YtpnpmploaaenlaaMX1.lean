/- Two texts turned into one another; whether two are the same. One text turned into another, in place. -/
import Derived.Test.YtpnpmploaaenlaaMW5
import Derived.Laws.BitsAllLaws
namespace Go.Proofs.Ytpnpmploaaenlaa.Wd
open Go.RowKit
set_option linter.unusedSimpArgs false
set_option linter.unusedVariables false

def xorL (a b : ByteArray) (k : Nat) : List UInt8 := (List.range k).map fun j => byteU a j ^^^ byteU b j
theorem xorL_succ (a b : ByteArray) (k : Nat) : xorL a b (k + 1) = xorL a b k ++ [byteU a k ^^^ byteU b k] := by
  unfold xorL; rw [List.range_succ]; simp
theorem xorL_length (a b : ByteArray) (k : Nat) : (xorL a b k).length = k := by simp [xorL]
theorem xor_byte (a b : ByteArray) (k : Nat) : bits BinOp.xor IntKind.u8 (byteAt a k : Int) (byteAt b k : Int) = ((byteU a k ^^^ byteU b k).toNat : Int) := by
  rw [u8_xor_nat _ _ (byteAt_lt a k) (byteAt_lt b k), UInt8.toNat_xor]; rfl
theorem or_byte (d e : UInt8) : bits BinOp.or IntKind.u8 (d.toNat : Int) (e.toNat : Int) = ((d ||| e).toNat : Int) := by
  rw [u8_or_nat _ _ d.toNat_lt e.toNat_lt, UInt8.toNat_or]
set_option maxRecDepth 100000 in
set_option maxHeartbeats 4000000 in
theorem rxor_ok (a b : ByteArray) (w : World) (ha : a.size ≤ 100000) (hab : a.size = b.size) :
    Calls Try.prog 28 #[.string a, .string b] w fun e w' => e = .returned (.tuple #[.string ⟨(xorL a b a.size).toArray⟩, .int .i64 0]) ∧ Mod (fun _ => False) w w' := by
  have hne : (((a.size : Nat) : Int) != ((b.size : Nat) : Int)) = false := by rw [bne_eq_false_iff_eq]; omega
  have HAB := Lib.hid hab
  clear hab
  go_enter Try.func28, Try.ntmps28
  go_wp2_with fail
  go_loopw [6, 7] (fun v i wr => ∃ k : Nat, k ≤ a.size ∧ i = .int .i64 (k : Int) ∧ Acc w wr v (xorL a b k)) (fun _ i _ => a.size - (intOf i).toNat)
  case atStart => exact ⟨0, by omega, rfl, Acc.nil _⟩
  case round =>
    obtain ⟨k, hk, rfl, acc⟩ := hrel
    by_cases hlt : k < a.size
    · have hi0 : (0 : Int) ≤ (k : Int) := by omega
      have hlt2 : (k : Int) < ((a.size : Nat) : Int) := by omega
      have hlt3 : (k : Int) < ((b.size : Nat) : Int) := by have := HAB.out; omega
      have Ha := Lib.hid (show k < a.size by omega)
      have Hb := Lib.hid (show k < b.size by have := HAB.out; omega)
      have HL := Lib.hid (xorL_succ a b k)
      obtain ⟨v', w3, hrun, acc3⟩ := acc_push acc (by rw [xorL_length]; omega) (byteU a k ^^^ byteU b k) _ rfl _ (.inr rfl)
      rw [← HL.out] at acc3
      clear acc
      go_wp2_with fail
      refine wp_region_held_drew (S := (fun _ => True)) (by kernel_rfl) trivial (fun hHeld => ?_)
      refine held_take 0 19 (v := ?_) rfl rfl (by kernel_rfl) (by kernel_rfl) (by kernel_rfl) (fun _ _ _ _ h => h) (by rfl) ?_ hHeld ?_
      rotate_left; · (intro w hSw; clear hSw; go_simp; first | done | with_reducible rfl)
      simp only [List.setIfInBounds_toArray, List.set_cons_zero, List.set_cons_succ]
      refine held_take 1 20 (v := ?_) rfl rfl (by kernel_rfl) (by kernel_rfl) (by kernel_rfl) (fun _ _ _ _ h => h) (by rfl) ?_ hHeld ?_
      rotate_left; · (intro w hSw; clear hSw; go_simp; first | done | with_reducible rfl)
      simp only [List.setIfInBounds_toArray, List.set_cons_zero, List.set_cons_succ]
      refine held_take 2 21 (v := ?_) rfl rfl (by kernel_rfl) (by kernel_rfl) (by kernel_rfl) (fun _ _ _ _ h => h) (by rfl) ?_ hHeld ?_
      rotate_left; · (intro w hSw; clear hSw; go_simp; first | done | with_reducible rfl)
      simp only [List.setIfInBounds_toArray, List.set_cons_zero, List.set_cons_succ]
      refine held_take 3 22 (v := .int .u8 (byteAt a k)) rfl rfl (by kernel_rfl) (by kernel_rfl) (by kernel_rfl) (fun _ _ _ _ h => h) (by rfl) ?_ hHeld ?_
      · (have hb := Ha.out; intro w hSw; clear hSw; go_simp; first | (rw [byteAt_get _ _ hb]; done) | (rw [dif_pos ⟨by omega, by omega⟩]; simp only [Result.andThen]; first | (rw [byteAt_get _ _ hb]; done) | (rw [byteAt_int _ _ k (by omega)]; done)))
      simp only [List.setIfInBounds_toArray, List.set_cons_zero, List.set_cons_succ]
      refine held_take 4 23 (v := ?_) rfl rfl (by kernel_rfl) (by kernel_rfl) (by kernel_rfl) (fun _ _ _ _ h => h) (by rfl) ?_ hHeld ?_
      rotate_left; · (intro w hSw; clear hSw; go_simp; first | done | with_reducible rfl)
      simp only [List.setIfInBounds_toArray, List.set_cons_zero, List.set_cons_succ]
      refine held_take 5 24 (v := ?_) rfl rfl (by kernel_rfl) (by kernel_rfl) (by kernel_rfl) (fun _ _ _ _ h => h) (by rfl) ?_ hHeld ?_
      rotate_left; · (intro w hSw; clear hSw; go_simp; first | done | with_reducible rfl)
      simp only [List.setIfInBounds_toArray, List.set_cons_zero, List.set_cons_succ]
      refine held_take 6 25 (v := .int .u8 (byteAt b k)) rfl rfl (by kernel_rfl) (by kernel_rfl) (by kernel_rfl) (fun _ _ _ _ h => h) (by rfl) ?_ hHeld ?_
      · (have hb := Hb.out; intro w hSw; clear hSw; go_simp; first | (rw [byteAt_get _ _ hb]; done) | (rw [dif_pos ⟨by omega, by omega⟩]; simp only [Result.andThen]; first | (rw [byteAt_get _ _ hb]; done) | (rw [byteAt_int _ _ k (by omega)]; done)))
      simp only [List.setIfInBounds_toArray, List.set_cons_zero, List.set_cons_succ]
      refine held_take 7 26 (v := .int .u8 ((byteU a k ^^^ byteU b k).toNat : Int)) rfl rfl (by kernel_rfl) (by kernel_rfl) (by kernel_rfl) (fun _ _ _ _ h => h) (by rfl) ?_ hHeld ?_
      · (intro w hSw; clear hSw; go_simp; try exact xor_byte a b k)
      simp only [List.setIfInBounds_toArray, List.set_cons_zero, List.set_cons_succ]
      refine held_make 8 27 rfl rfl (by kernel_rfl) (by rfl) (v := ?_) (w' := ?_) ?_ ?_ (fun hNew => ?_)
      rotate_left 2; · (go_simp; first | done | with_reducible rfl | (constructor <;> with_reducible rfl))
      · trivial
      clear hHeld; have hHeld := hNew; clear hNew
      simp only [List.setIfInBounds_toArray, List.set_cons_zero, List.set_cons_succ]
      refine held_make 9 28 rfl rfl (by kernel_rfl) (by rfl) (v := v') (w' := w3) ?_ ?_ (fun hNew => ?_)
      · (exact op_append (.tmp 19) (.tmp 27) 33 33 rfl rfl rfl rfl hrun)
      · trivial
      clear hHeld; have hHeld := hNew; clear hNew
      simp only [List.setIfInBounds_toArray, List.set_cons_zero, List.set_cons_succ]
      refine held_take 10 6 (v := ?_) rfl rfl (by kernel_rfl) (by kernel_rfl) (by kernel_rfl) (fun _ _ _ _ h => h) (by rfl) ?_ hHeld ?_
      rotate_left; · (intro w hSw; clear hSw; go_simp; first | done | with_reducible rfl)
      simp only [List.setIfInBounds_toArray, List.set_cons_zero, List.set_cons_succ]
      refine wpAnyH_done (by kernel_rfl) ?_ _
      go_wp2_with fail
      go_roundw
      case rel => exact ⟨k + 1, by omega, by go_num, acc3⟩
      case measure => simp [intOf]; omega
    · obtain rfl : k = a.size := by omega
      have HS := Lib.hid acc.str
      have hcv := HS.out
      go_wp2_with fail
      go_ret2
      exact ⟨rfl, acc.2⟩
theorem rxor_bad (a b : ByteArray) (w : World) (hab : a.size ≠ b.size) :
    Calls Try.prog 28 #[.string a, .string b] w fun e w' => e = .returned (.tuple #[.string ⟨#[]⟩, .int .i64 1]) ∧ w = w' := by
  have hne : (((a.size : Nat) : Int) != ((b.size : Nat) : Int)) = true := by rw [bne_iff_ne]; omega
  go_enter Try.func28, Try.ntmps28
  go_wp2_with fail
  go_ret2
  exact ⟨rfl, rfl⟩
theorem bytes_back' (s : ByteArray) : (⟨(bytes s).toArray⟩ : ByteArray) = s := rfl
/-- The bytes' differences, joined. -/
def diffs (a b : ByteArray) : Nat → UInt8
  | 0 => 0
  | k + 1 => diffs a b k ||| (byteU a k ^^^ byteU b k)
theorem diffs_zero (a b : ByteArray) (k : Nat) : diffs a b k = 0 ↔ ∀ j, j < k → byteU a j = byteU b j := by
  induction k with
  | zero => simp [diffs]
  | succ k ih =>
    show diffs a b k ||| (byteU a k ^^^ byteU b k) = 0 ↔ _
    rw [UInt8.or_eq_zero_iff, UInt8.xor_eq_zero_iff, ih]
    constructor
    · rintro ⟨h1, h2⟩ j hj
      by_cases e : j = k
      · subst e; exact h2
      · exact h1 j (by omega)
    · intro h
      exact ⟨fun j hj => h j (by omega), h k (by omega)⟩
theorem bytes_ext {a b : ByteArray} (hs : a.size = b.size) (h : ∀ j, j < a.size → byteU a j = byteU b j) : a = b := by
  rw [← bytes_back' a, ← bytes_back' b]
  congr 2
  apply List.ext_getElem?
  intro j
  have la : (bytes a).length = a.size := by unfold bytes; simp
  have lb : (bytes b).length = b.size := by unfold bytes; simp
  by_cases hj : j < a.size
  · have := h j hj
    unfold byteU at this
    rw [List.getD_eq_getElem?_getD, List.getD_eq_getElem?_getD, List.getElem?_eq_getElem (by omega), List.getElem?_eq_getElem (by omega)] at this
    rw [List.getElem?_eq_getElem (by omega), List.getElem?_eq_getElem (by omega)]
    exact congrArg some this
  · rw [List.getElem?_eq_none (by omega), List.getElem?_eq_none (by omega)]
end Go.Proofs.Ytpnpmploaaenlaa.Wd
namespace Go.Proofs.Ytpnpmploaaenlaa.Wd
open Go.RowKit
set_option linter.unusedSimpArgs false
set_option linter.unusedVariables false

/-- Block g holds n bytes, the j-th f j, and none of them is frozen. -/
def Row (w : World) (g n : Nat) (f : Nat → UInt8) : Prop := ∃ cs fr, w.heap[g]? = some (.cells cs 5 fr) ∧ n ≤ fr.1 ∧ n ≤ cs.size ∧ ∀ j, j < n → cs[j]? = some (.int .u8 ((f j).toNat : Int))
theorem Row.cell {w : World} {g n : Nat} {f : Nat → UInt8} (h : Row w g n f) (j : Nat) (hj : j < n) : w.cell? ⟨g, j, none⟩ = some (.int .u8 ((f j).toNat : Int)) := by
  obtain ⟨cs, fr, hb, _, _, hc⟩ := h
  unfold World.cell?; simp only [hb]; simpa using hc j hj
theorem Row.free {w : World} {g n : Nat} {f : Nat → UInt8} (h : Row w g n f) (j : Nat) (hj : j < n) : w.frozen? ⟨g, j, none⟩ = false := by
  obtain ⟨cs, fr, hb, hf, _, hc⟩ := h
  unfold World.frozen?; simp only [hb]
  simp; omega
theorem Row.set {w : World} {g n : Nat} {f : Nat → UInt8} (h : Row w g n f) (k : Nat) (hk : k < n) (x : UInt8) (f' : Nat → UInt8) (h1 : f' k = x) (h2 : ∀ j, j < n → j ≠ k → f' j = f j) : Row (w.setCell ⟨g, k, none⟩ (.int .u8 (x.toNat : Int))) g n f' := by
  obtain ⟨cs, fr, hb, hf, hs, hc⟩ := h
  refine ⟨cs.setIfInBounds k (.int .u8 (x.toNat : Int)), fr, ?_, hf, by simpa using hs, fun j hj => ?_⟩
  · have hlt := lt_of_block hb
    have h' : w.heap[g] = .cells cs 5 fr := by simpa [Array.getElem?_eq_getElem hlt] using hb
    show (w.heap.modify g _)[g]? = _
    rw [Array.getElem?_eq_getElem (by simpa using hlt), Array.getElem_modify_self, h']
    rfl
  · by_cases e : j = k
    · subst e; rw [h1]; simp [show j < cs.size by omega]
    · rw [Array.getElem?_setIfInBounds_ne (fun e' => e e'.symm), hc j hj, h2 j hj e]
theorem Row.drew {w : World} {g n : Nat} {f : Nat → UInt8} (h : Row w g n f) : Row w.drew g n f := h
def xorF (a b : ByteArray) (k : Nat) (j : Nat) : UInt8 := if j < k then byteU a j ^^^ byteU b j else byteU a j
theorem conv_row (a : ByteArray) (w : World) : ∃ C W1, (convert 9 33 (.string a)).run Try.prog w = .ok (.slice (some ⟨w.heap.size, 0, none⟩) a.size C) W1 ∧ Mod (fun _ => False) w W1 ∧ w.heap.size < W1.heap.size ∧ Row W1 w.heap.size a.size (fun j => byteU a j) := by
  have h := Lib.run_convert_string_bytes (P := Try.prog) w 9 33 5 a Try.underlying9 Try.underlying33 Try.underlying5
  refine ⟨_, _, h, ⟨rfl, rfl, rfl, by rw [Lib.bytesWorld_size]; omega, fun j hj _ => Lib.bytesWorld_at_old w 5 _ j hj⟩, by rw [Lib.bytesWorld_size]; omega, _, _, Lib.bytesWorld_at_new w 5 a, ?_, ?_, ?_⟩
  · show a.size ≤ (Lib.bytesCells w 5 a).size
    simp [Lib.bytesCells]
  · simp [Lib.bytesCells]
  · intro j hj
    have := Lib.bytesWorld_cell w 5 a j hj
    unfold World.cell? at this
    simp only [Lib.bytesWorld_at_new] at this
    simpa [byteU, bytes] using this
theorem Row.str {w : World} {g : Nat} {l : List UInt8} (h : Row w g l.length (fun j => l.getD j 0)) (C : Nat) : (convert 33 9 (.slice (some ⟨g, 0, none⟩) l.length C)).run Try.prog w = .ok (.string ⟨l.toArray⟩) w := by
  refine run_convert_bytes_back w 33 9 5 ⟨g, 0, none⟩ C l Try.underlying33 Try.underlying5 Try.underlying9 ?_
  intro j hj
  have := h.cell j hj
  have e : ((⟨g, 0, none⟩ : Addr).add j) = ⟨g, j, none⟩ := by unfold Addr.add; split <;> simp_all
  rw [e, this]
  simp [List.getD_eq_getElem?_getD, hj]
end Go.Proofs.Ytpnpmploaaenlaa.Wd
