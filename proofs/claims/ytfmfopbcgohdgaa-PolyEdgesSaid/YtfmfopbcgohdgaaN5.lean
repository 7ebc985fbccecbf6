/- A text's tag: what it is, in numbers. -/
import Derived.Test.YtfmfopbcgohdgaaN4
namespace Go.Proofs.Ytfmfopbcgohdgaa
open Go.RowKit
set_option linter.unusedSimpArgs false
set_option linter.unusedVariables false

/-- How many bytes block k has. -/
def bn (s : ByteArray) (k : Nat) : Nat := min 16 (s.size - 16 * k)
/-- Block k's bytes, and a byte 1 behind. -/
def bl (s : ByteArray) (k j : Nat) : Nat := if j < bn s k then byteAt s (16 * k + j) else 1
def blkN (s : ByteArray) (k : Nat) : Nat := le (bl s k) (bn s k + 1)
/-- The sum behind k blocks. -/
def macA (s : ByteArray) (r : Nat) : Nat → Nat
  | 0 => 0
  | k + 1 => (macA s r k + blkN s k) * r % P130
def blocks (s : ByteArray) : Nat := (s.size + 15) / 16
/-- What stands behind k blocks. -/
def rest (s : ByteArray) (k : Nat) : ByteArray := s.extract (16 * k) s.size
theorem bytes_extract (s : ByteArray) (a b : Nat) : bytes (s.extract a b) = ((bytes s).drop a).take (b - a) := by
  unfold bytes
  simp [ByteArray.data_extract, Array.toList_extract, List.drop_take]
theorem rest_size (s : ByteArray) (k : Nat) : (rest s k).size = s.size - 16 * k := by
  unfold rest; simp
theorem rest_zero (s : ByteArray) : rest s 0 = s := by
  unfold rest; simp
theorem byteAt_extract (s : ByteArray) (a b j : Nat) (hj : a + j < b) : byteAt (s.extract a b) j = byteAt s (a + j) := by
  unfold byteAt
  rw [bytes_extract, List.getD_eq_getElem?_getD, List.getD_eq_getElem?_getD, List.getElem?_take, if_pos (by omega), List.getElem?_drop]
theorem rest_at (s : ByteArray) (k j : Nat) (h : 16 * k + j < s.size) : byteAt (rest s k) j = byteAt s (16 * k + j) := byteAt_extract _ _ _ _ h
theorem rest_rest (s : ByteArray) (k : Nat) (h : 16 * k + 16 ≤ s.size) : (rest s k).extract 16 (rest s k).size = rest s (k + 1) := by
  have hs := rest_size s k
  rw [hs]
  unfold rest
  rw [ByteArray.extract_extract]
  congr 1
  omega
theorem byteAt_append_left (a b : ByteArray) (j : Nat) (h : j < a.size) : byteAt (a ++ b) j = byteAt a j := by
  have : bytes (a ++ b) = bytes a ++ bytes b := by unfold bytes; simp
  unfold byteAt
  rw [this, List.getD_eq_getElem?_getD, List.getElem?_append_left (by simpa [bytes] using h), List.getD_eq_getElem?_getD]
theorem byteAt_append_right (a b : ByteArray) (j : Nat) (h : a.size ≤ j) : byteAt (a ++ b) j = byteAt b (j - a.size) := by
  have : bytes (a ++ b) = bytes a ++ bytes b := by unfold bytes; simp
  have hl : (bytes a).length = a.size := by simp [bytes]
  unfold byteAt
  rw [this, List.getD_eq_getElem?_getD, List.getElem?_append_right (by omega), List.getD_eq_getElem?_getD, hl]
theorem byteAt_beyond (s : ByteArray) (j : Nat) (h : s.size ≤ j) : byteAt s j = 0 := by
  unfold byteAt
  rw [List.getD_eq_getElem?_getD, List.getElem?_eq_none (by simpa [bytes] using h)]
  rfl
def one1 : ByteArray := ⟨#[1]⟩
theorem blk_size (s : ByteArray) (k n : Nat) (hn : n ≤ (rest s k).size) : ((rest s k).extract 0 n ++ one1).size = n + 1 := by
  simp [one1]; have : (⟨#[1]⟩ : ByteArray).size = 1 := rfl
  omega
theorem blk_at (s : ByteArray) (k : Nat) (j : Nat) (hj : j < bn s k + 1) : byteAt ((rest s k).extract 0 (bn s k) ++ one1) j = bl s k j := by
  have hs := rest_size s k
  have hb : bn s k ≤ s.size - 16 * k := Nat.min_le_right _ _
  have he : ((rest s k).extract 0 (bn s k)).size = bn s k := by simp; omega
  unfold bl
  by_cases h : j < bn s k
  · rw [if_pos h, byteAt_append_left _ _ _ (by rw [he]; exact h), byteAt_extract _ _ _ _ (by omega), Nat.zero_add, rest_at _ _ _ (by omega)]
  · rw [if_neg h, byteAt_append_right _ _ _ (by rw [he]; omega), he, show j - bn s k = 0 by omega]
    rfl
theorem blk_top (s : ByteArray) (k : Nat) : byteAt ((rest s k).extract 0 (bn s k) ++ one1) 16 < 4 := by
  have hs := rest_size s k
  have hn := blk_size s k (bn s k) (by rw [hs]; exact Nat.min_le_right _ _)
  have h16 : bn s k ≤ 16 := Nat.min_le_left _ _
  by_cases h : bn s k = 16
  · rw [blk_at s k 16 (by omega)]
    unfold bl
    rw [if_neg (by omega)]; omega
  · rw [byteAt_beyond _ _ (by omega)]; omega
theorem blk_num (s : ByteArray) (k : Nat) : leN ((rest s k).extract 0 (bn s k) ++ one1) (bn s k + 1) = blkN s k := by
  rw [leN_le]
  exact le_congr _ _ _ (fun j hj => blk_at s k j hj)
theorem val_add (f p : Nat → Nat) : val (fun j => f j + p j) = val f + val p := by
  unfold val; grind
end Go.Proofs.Ytfmfopbcgohdgaa
