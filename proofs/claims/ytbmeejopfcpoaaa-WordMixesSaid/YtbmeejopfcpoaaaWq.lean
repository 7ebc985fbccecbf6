/- Words and bytes, there and back: plain laws. -/
import Derived.Test.YtbmeejopfcpoaaaWp
namespace Go.Proofs.Ytbmeejopfcpoaaa
open Go.RowKit
set_option linter.unusedSimpArgs false
set_option linter.unusedVariables false

theorem flat4_length (f : Nat → List UInt8) (hf : ∀ j, (f j).length = 4) (n : Nat) : ((List.range n).flatMap f).length = 4 * n := by
  induction n with
  | zero => rfl
  | succ n ih => rw [List.range_succ, List.flatMap_append, List.length_append, ih]; simp [hf]; omega
theorem flat4_get (f : Nat → List UInt8) (hf : ∀ j, (f j).length = 4) (n k i : Nat) (hk : k < n) (hi : i < 4) : ((List.range n).flatMap f)[4 * k + i]? = (f k)[i]? := by
  induction n with
  | zero => omega
  | succ n ih =>
    have hl := flat4_length f hf n
    rw [List.range_succ, List.flatMap_append]
    by_cases h : k < n
    · rw [List.getElem?_append_left (by rw [hl]; omega)]; exact ih h
    · obtain rfl : k = n := by omega
      rw [List.getElem?_append_right (by rw [hl]; omega), hl]
      simp
theorem flat4_byte (f : Nat → List UInt8) (hf : ∀ j, (f j).length = 4) (n k i : Nat) (hk : k < n) (hi : i < 4) : byteU ⟨((List.range n).flatMap f).toArray⟩ (4 * k + i) = (f k).getD i 0 := by
  unfold byteU bytes
  rw [List.getD_eq_getElem?_getD, List.getD_eq_getElem?_getD]
  show (((List.range n).flatMap f)[4 * k + i]?).getD 0 = _
  rw [flat4_get f hf n k i hk hi]
theorem flat4_bytes (s : ByteArray) (m : Nat) (hm : s.size = 4 * m) : (List.range m).flatMap (fun j => [byteU s (4 * j), byteU s (4 * j + 1), byteU s (4 * j + 2), byteU s (4 * j + 3)]) = bytes s := by
  have hbl : (bytes s).length = 4 * m := by unfold bytes; simpa using hm
  apply List.ext_getElem?
  intro p
  by_cases hp : p < 4 * m
  · have e : p = 4 * (p / 4) + p % 4 := by omega
    generalize hq : p / 4 = q at e
    generalize hr : p % 4 = r at e
    have hr4 : r < 4 := by omega
    subst e
    rw [flat4_get _ (fun _ => rfl) m q r (by omega) hr4]
    have hg : ∀ t, t < 4 → (bytes s)[4 * q + t]? = some (byteU s (4 * q + t)) := by
      intro t ht
      unfold byteU
      rw [List.getD_eq_getElem?_getD, List.getElem?_eq_getElem (by omega)]
      rfl
    rw [hg r hr4]
    match r, hr4 with
    | 0, _ => rfl
    | 1, _ => rfl
    | 2, _ => rfl
    | 3, _ => rfl
  · rw [List.getElem?_eq_none (by rw [flat4_length _ (fun _ => rfl)]; omega), List.getElem?_eq_none (by omega)]
theorem bytes_back (s : ByteArray) : (⟨(bytes s).toArray⟩ : ByteArray) = s := by
  unfold bytes; rfl
theorem u8_eq {a b : UInt8} (h : a.toNat = b.toNat) : a = b := UInt8.toNat_inj.mp h
theorem b4_be4 (x0 x1 x2 x3 : UInt8) : b4 ((be4 x0.toNat x1.toNat x2.toNat x3.toNat : Nat) : Int) = [x0, x1, x2, x3] := by
  have h0 := x0.toNat_lt; have h1 := x1.toNat_lt; have h2 := x2.toNat_lt; have h3 := x3.toNat_lt
  have hw : wordN ((be4 x0.toNat x1.toNat x2.toNat x3.toNat : Nat) : Int) = be4 x0.toNat x1.toNat x2.toNat x3.toNat := by unfold wordN be4; omega
  unfold b4
  rw [hw]
  congr 1
  · apply u8_eq; rw [UInt8.toNat_ofNat']; unfold be4; omega
  congr 1
  · apply u8_eq; rw [UInt8.toNat_ofNat']; unfold be4; omega
  congr 1
  · apply u8_eq; rw [UInt8.toNat_ofNat']; unfold be4; omega
  congr 1
  · apply u8_eq; rw [UInt8.toNat_ofNat']; unfold be4; omega
theorem put_words (s : ByteArray) (m : Nat) (hm : s.size = 4 * m) : (⟨(putL (fun j => (wordAt true s j : Int)) m).toArray⟩ : ByteArray) = s := by
  have : putL (fun j => (wordAt true s j : Int)) m = bytes s := by
    rw [← flat4_bytes s m hm]
    unfold putL
    congr 1
    funext j
    exact b4_be4 _ _ _ _
  rw [this, bytes_back]
theorem puts_words (s : ByteArray) (m : Nat) (hm : s.size = 4 * m) : (⟨(putS (fun j => (wordAt false s j : Int)) m).toArray⟩ : ByteArray) = s := by
  have : putS (fun j => (wordAt false s j : Int)) m = bytes s := by
    rw [← flat4_bytes s m hm]
    unfold putS
    congr 1
    funext j
    show (b4 ((be4 (byteU s (4 * j + 3)).toNat (byteU s (4 * j + 2)).toNat (byteU s (4 * j + 1)).toNat (byteU s (4 * j)).toNat : Nat) : Int)).reverse = _
    rw [b4_be4]
    rfl
  rw [this, bytes_back]
theorem turned_put (z : Nat → Int) (n : Nat) : rev4 ⟨(putL z n).toArray⟩ n = putS z n := by
  unfold rev4 putS
  have h : ∀ j ∈ List.range n, ([byteU ⟨(putL z n).toArray⟩ (4 * j + 3), byteU ⟨(putL z n).toArray⟩ (4 * j + 2), byteU ⟨(putL z n).toArray⟩ (4 * j + 1), byteU ⟨(putL z n).toArray⟩ (4 * j)] : List UInt8) = (b4 (z j)).reverse := by
    intro j hj
    have hj' : j < n := by simpa using hj
    unfold putL
    have e0 := flat4_byte (fun j => b4 (z j)) (fun _ => rfl) n j 0 hj' (by decide)
    rw [flat4_byte (fun j => b4 (z j)) (fun _ => rfl) n j 3 hj' (by decide), flat4_byte (fun j => b4 (z j)) (fun _ => rfl) n j 2 hj' (by decide), flat4_byte (fun j => b4 (z j)) (fun _ => rfl) n j 1 hj' (by decide)]
    rw [Nat.add_zero] at e0
    rw [e0]
    rfl
  rw [List.flatMap_def, List.flatMap_def, List.map_congr_left h]
theorem turned_word (s : ByteArray) (m k : Nat) (hk : k < m) : wordAt true ⟨(rev4 s m).toArray⟩ k = wordAt false s k := by
  have g : ∀ i, i < 4 → byteAt ⟨(rev4 s m).toArray⟩ (4 * k + i) = (([byteU s (4 * k + 3), byteU s (4 * k + 2), byteU s (4 * k + 1), byteU s (4 * k)] : List UInt8).getD i 0).toNat := by
    intro i hi
    rw [← byteU_at]
    unfold rev4
    rw [flat4_byte _ (fun _ => rfl) m k i hk hi]
  have g0 := g 0 (by decide)
  rw [Nat.add_zero] at g0
  unfold wordAt
  simp only [if_true, if_false, Bool.false_eq_true, g 1 (by decide), g 2 (by decide), g 3 (by decide), g0]
  rfl
theorem rev4_size (s : ByteArray) (m : Nat) : (⟨(rev4 s m).toArray⟩ : ByteArray).size = 4 * m := by
  show (rev4 s m).toArray.size = _
  simp [rev4_length]
theorem putL_size (z : Nat → Int) (m : Nat) : (⟨(putL z m).toArray⟩ : ByteArray).size = 4 * m := by
  show (putL z m).toArray.size = _
  simp [putL_length]
end Go.Proofs.Ytbmeejopfcpoaaa
