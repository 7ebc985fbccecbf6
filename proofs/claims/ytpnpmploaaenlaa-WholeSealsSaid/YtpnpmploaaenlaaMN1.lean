/- A number read: the plain step. -/
import Derived.Test.YtpnpmploaaenlaaMP2
namespace Go.Proofs.Ytpnpmploaaenlaa
open Go.RowKit
set_option linter.unusedSimpArgs false
set_option linter.unusedVariables false

def bytes (s : ByteArray) : List UInt8 := s.data.toList
def byteU (s : ByteArray) (i : Nat) : UInt8 := (bytes s).getD i 0
def byteAt (s : ByteArray) (i : Nat) : Nat := ((bytes s).getD i 0).toNat
theorem byteAt_lt (s : ByteArray) (i : Nat) : byteAt s i < 256 := UInt8.toNat_lt _
theorem byteU_at (s : ByteArray) (i : Nat) : (byteU s i).toNat = byteAt s i := rfl
theorem byteAt_get (s : ByteArray) (i : Nat) (h : i < s.size) : s[i].toNat = byteAt s i := by
  unfold byteAt bytes
  rw [List.getD_eq_getElem?_getD, Array.getElem?_toList, Array.getElem?_eq_getElem h]
  rfl
/-- The number of the first k bytes, the lowest first. -/
def leN (s : ByteArray) : Nat → Nat
  | 0 => 0
  | k + 1 => leN s k + byteAt s k * 256 ^ k
def val (f : Nat → Nat) : Nat := f 0 + f 1 * 67108864 + f 2 * 4503599627370496 + f 3 * 302231454903657293676544 + f 4 * 20282409603651670423947251286016
theorem val_pow (f : Nat → Nat) : val f = f 0 + f 1 * 2 ^ 26 + f 2 * 2 ^ 52 + f 3 * 2 ^ 78 + f 4 * 2 ^ 104 := rfl
structure Rd (s : ByteArray) (k : Nat) (f : Nat → Nat) : Prop where
  v : val f = leN s k
  lt : ∀ j, j < 5 → f j < 67108864
  top : k ≤ 16 → f (8 * k / 26) < 2 ^ (8 * k % 26)
  zero : ∀ j, 8 * k / 26 < j → j < 5 → f j = 0
theorem Rd.start (s : ByteArray) : Rd s 0 (fun _ => 0) := ⟨rfl, fun _ _ => by decide, fun _ => by decide, fun _ _ _ => rfl⟩
theorem Rd.mk5 {s : ByteArray} {k : Nat} {f : Nat → Nat} (N : Nat) (hN : Hid (leN s k = N)) (a0 a1 a2 a3 a4 : Nat) (e0 : f 0 = a0) (e1 : f 1 = a1) (e2 : f 2 = a2) (e3 : f 3 = a3) (e4 : f 4 = a4) (hv : a0 + a1 * 67108864 + a2 * 4503599627370496 + a3 * 302231454903657293676544 + a4 * 20282409603651670423947251286016 = N)
    (l0 : a0 < 67108864) (l1 : a1 < 67108864) (l2 : a2 < 67108864) (l3 : a3 < 67108864) (l4 : a4 < 67108864) (ht : k ≤ 16 → f (8 * k / 26) < 2 ^ (8 * k % 26)) (z1 : 8 * k / 26 < 1 → a1 = 0) (z2 : 8 * k / 26 < 2 → a2 = 0) (z3 : 8 * k / 26 < 3 → a3 = 0) (z4 : 8 * k / 26 < 4 → a4 = 0) : Rd s k f := by
  refine ⟨?_, ?_, ht, ?_⟩
  · unfold val; rw [e0, e1, e2, e3, e4, hv, hN.out]
  · intro j hj
    have h : j = 0 ∨ j = 1 ∨ j = 2 ∨ j = 3 ∨ j = 4 := by omega
    rcases h with rfl | rfl | rfl | rfl | rfl
    · rw [e0]; exact l0
    · rw [e1]; exact l1
    · rw [e2]; exact l2
    · rw [e3]; exact l3
    · rw [e4]; exact l4
  · intro j hj1 hj
    have h : j = 1 ∨ j = 2 ∨ j = 3 ∨ j = 4 := by omega
    rcases h with rfl | rfl | rfl | rfl
    · rw [e1]; exact z1 hj1
    · rw [e2]; exact z2 hj1
    · rw [e3]; exact z3 hj1
    · rw [e4]; exact z4 hj1
set_option maxHeartbeats 4000000 in
theorem Rd.step {s : ByteArray} {k : Nat} {f : Nat → Nat} (h : Rd s k f) (hk : k ≤ 16) (h16 : k = 16 → byteAt s k < 4) (q r : Nat) (hq : q = 8 * k / 26) (hr : r = 8 * k % 26) :
    f q < 2 ^ r ∧ f q + byteAt s k * 2 ^ r < 17179869184 ∧ (f q + byteAt s k * 2 ^ r < 67108864 → Rd s (k + 1) (upd f q (f q + byteAt s k * 2 ^ r))) ∧
    (67108864 ≤ f q + byteAt s k * 2 ^ r → q < 4 ∧ f (q + 1) = 0 ∧ ∀ x, Rd s (k + 1) (upd (upd (upd f q x) (q + 1) ((f q + byteAt s k * 2 ^ r) / 67108864)) q ((f q + byteAt s k * 2 ^ r) % 67108864))) := by
  have hb := byteAt_lt s k
  have hv : leN s (k + 1) = leN s k + byteAt s k * 256 ^ k := rfl
  have ht := h.top hk
  have hval := h.v
  have hz := h.zero
  have l0 := h.lt 0 (by omega); have l1 := h.lt 1 (by omega); have l2 := h.lt 2 (by omega); have l3 := h.lt 3 (by omega); have l4 := h.lt 4 (by omega)
  unfold val at hval
  clear h
  generalize byteAt s k = B at *
  obtain ⟨N1, HN1⟩ : ∃ N1, Hid (leN s (k + 1) = N1) := ⟨_, rfl⟩
  rw [HN1.out] at hv
  generalize leN s k = N0 at *
  obtain ⟨V, hV⟩ : ∃ V, V = f q + B * 2 ^ r := ⟨_, rfl⟩
  rw [← hV]
  obtain ⟨D, hD⟩ : ∃ D, D = V / 67108864 := ⟨_, rfl⟩
  obtain ⟨M, hM⟩ : ∃ M, M = V % 67108864 := ⟨_, rfl⟩
  have hDM : V = 67108864 * D + M := by omega
  have hM2 : M < 67108864 := by omega
  rw [← hD, ← hM]
  clear hD hM
  have hc : k = 0 ∨ k = 1 ∨ k = 2 ∨ k = 3 ∨ k = 4 ∨ k = 5 ∨ k = 6 ∨ k = 7 ∨ k = 8 ∨ k = 9 ∨ k = 10 ∨ k = 11 ∨ k = 12 ∨ k = 13 ∨ k = 14 ∨ k = 15 ∨ k = 16 := by omega
  have z1 := fun h => hz 1 h (by omega); have z2 := fun h => hz 2 h (by omega); have z3 := fun h => hz 3 h (by omega); have z4 := fun h => hz 4 h (by omega)
  clear hz
  rcases hc with rfl | rfl | rfl | rfl | rfl | rfl | rfl | rfl | rfl | rfl | rfl | rfl | rfl | rfl | rfl | rfl | rfl <;>
  · simp only [Nat.reduceMul, Nat.reduceDiv, Nat.reduceMod, Nat.reducePow, Nat.reduceAdd, Nat.reduceLT, Nat.reduceEqDiff, true_implies, false_implies, forall_const, Nat.mul_one, Nat.zero_div, Nat.zero_mod, Nat.mul_zero, Nat.zero_add, Nat.lt_add_one] at hq hr hv ht z1 z2 z3 z4 h16
    subst hq hr
    simp only [Nat.reducePow, Nat.reduceAdd] at ht hV ⊢
    refine ⟨ht, by omega, fun hlt => ?_, fun hge => ⟨by omega, by omega, fun x => ?_⟩⟩
    · refine Rd.mk5 N1 HN1 _ _ _ _ _ rfl rfl rfl rfl rfl ?_ ?_ ?_ ?_ ?_ ?_ (fun _ => ?_) (fun hh => ?_) (fun hh => ?_) (fun hh => ?_) (fun hh => ?_)
      · simp only [upd, Nat.reduceAdd, Nat.reduceEqDiff, if_true, if_false, reduceIte, reduceCtorEq]
        first | (exfalso; clear hval hv HN1; omega) | (clear HN1 l0 l1 l2 l3 l4 hb hk ht; grind)
      all_goals (try simp only [upd, Nat.reduceMul, Nat.reduceDiv, Nat.reduceMod, Nat.reducePow, Nat.reduceAdd, Nat.reduceEqDiff, if_true, if_false, reduceIte, reduceCtorEq, Nat.reduceBEq, Nat.reduceLT] at *)
      all_goals (clear hv hval; omega)
    · refine Rd.mk5 N1 HN1 _ _ _ _ _ rfl rfl rfl rfl rfl ?_ ?_ ?_ ?_ ?_ ?_ (fun _ => ?_) (fun hh => ?_) (fun hh => ?_) (fun hh => ?_) (fun hh => ?_)
      · simp only [upd, Nat.reduceAdd, Nat.reduceEqDiff, if_true, if_false, reduceIte, reduceCtorEq]
        first | (exfalso; clear hval hv HN1; omega) | (clear HN1 l0 l1 l2 l3 l4 hb hk ht; grind)
      all_goals (try simp only [upd, Nat.reduceMul, Nat.reduceDiv, Nat.reduceMod, Nat.reducePow, Nat.reduceAdd, Nat.reduceEqDiff, if_true, if_false, reduceIte, reduceCtorEq, Nat.reduceBEq, Nat.reduceLT] at *)
      all_goals (clear hv hval; omega)
end Go.Proofs.Ytpnpmploaaenlaa
