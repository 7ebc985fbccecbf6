/- Words of 32 bits: turned, and out of four bytes. Rows of words of 32 bits in memory; the sum's plain functions. -/
import Derived.Test.YtpnpmploaaenlaaMWp
import Derived.Test.YtpnpmploaaenlaaMP0
namespace Go.Proofs.Ytpnpmploaaenlaa
open Go.RowKit Wd
set_option linter.unusedSimpArgs false
set_option linter.unusedVariables false

theorem ret_u32 {a b : Int} (h : a = b) : Ending.returned (.int .u32 a) = .returned (.int .u32 b) := by rw [h]
theorem u32_wrap (n : Int) : IntKind.u32.wrap n = n % 4294967296 := by simp [IntKind.wrap, IntKind.bits, IntKind.signed]
theorem rot_val32 (X k : Nat) (hX : X < 4294967296) : bits BinOp.or IntKind.u32 ((X : Int) * 2 ^ k % 4294967296) ((X : Int) / 2 ^ (32 - k)) = (rotN X k : Int) := by
  have e1 : (X : Int) * 2 ^ k % 4294967296 = ((X * 2 ^ k % 4294967296 : Nat) : Int) := by simp
  have e2 : (X : Int) / 2 ^ (32 - k) = ((X / 2 ^ (32 - k) : Nat) : Int) := by simp
  rw [e1, e2, u32_or_nat _ _ (Nat.mod_lt _ (by decide)) (Nat.lt_of_le_of_lt (Nat.div_le_self _ _) hX)]
  rfl
theorem rotl_any (X : Nat) (hX : X < 4294967296) (n : Int) (w : World) :
    Calls Try.prog 67 #[.int .u32 (X : Int), .int .i64 n] w fun e w' => e = .returned (.int .u32 (rotN X (turnN n))) ∧ w = w' := by
  obtain ⟨k, hk, hk2, hk4⟩ : ∃ k : Nat, bits BinOp.and IntKind.u64 (IntKind.u64.wrap n) 31 = (k : Int) ∧ k < 32 ∧ turnN n = k := ⟨(n % 32).toNat, by rw [u64_and31]; omega, by omega, rfl⟩
  have hk3 : IntKind.u64.wrap (32 - (k : Int)) = ((32 - k : Nat) : Int) := by
    have hw : IntKind.u64.wrap (32 - (k : Int)) = (32 - (k : Int)) % 18446744073709551616 := by simp [IntKind.wrap, IntKind.bits, IntKind.signed]
    rw [hw]; omega
  have hv := rot_val32 X k hX
  rw [hk4]
  clear hk4
  go_enter Try.func67, Try.ntmps67
  go_wp2
  go_ret
  exact ⟨rfl, rfl⟩
theorem right_any (X n : Nat) (hX : X < 4294967296) (h1 : 1 ≤ n) (h2 : n ≤ 31) (w : World) :
    Calls Try.prog 87 #[.int .u32 (X : Int), .int .i64 (n : Int)] w fun e w' => e = .returned (.int .u32 (rotN X (32 - n))) ∧ w' = w := by
  have ht : turnN (-(n : Int)) = 32 - n := by unfold turnN; omega
  have hw : wrap64 (-(n : Int)) = -(n : Int) := by unfold wrap64; omega
  go_enter Try.func87, Try.ntmps87
  go_wp2_with (go_at_call 67; refine (rotl_any X hX _ _).mono ?_; rintro e w' ⟨rfl, rfl⟩)
  go_ret
  exact ⟨rfl, rfl⟩
theorem u32_join (i a b : Nat) (h : a % 2 ^ i = 0) (ha : a < 4294967296) (hb : b < 2 ^ i) (hi : i ≤ 32) : bits .or .u32 (a : Int) (b : Int) = ((a + b : Nat) : Int) := by
  rw [u32_or_nat a b ha (Nat.lt_of_lt_of_le hb (Nat.pow_le_pow_right (by decide) hi)), nat_join i a b h hb]
theorem or_be32 (b0 b1 b2 b3 : Nat) (h0 : b0 < 256) (h1 : b1 < 256) (h2 : b2 < 256) (h3 : b3 < 256) :
    bits BinOp.or IntKind.u32 (bits BinOp.or IntKind.u32 (bits BinOp.or IntKind.u32 ((b0 : Int) * 16777216) ((b1 : Int) * 65536)) ((b2 : Int) * 256)) (b3 : Int) = (be4 b0 b1 b2 b3 : Int) := by
  have e1 : (b0 : Int) * 16777216 = ((b0 * 16777216 : Nat) : Int) := by simp
  have e2 : (b1 : Int) * 65536 = ((b1 * 65536 : Nat) : Int) := by simp
  have e3 : (b2 : Int) * 256 = ((b2 * 256 : Nat) : Int) := by simp
  rw [e1, e2, u32_join 24 _ _ (by omega) (by omega) (by omega) (by decide), e3, u32_join 16 _ _ (by omega) (by omega) (by omega) (by decide), u32_join 8 _ _ (by omega) (by omega) (by omega) (by decide)]
  rfl
theorem or_be32w (b0 b1 b2 b3 : Nat) (h0 : b0 < 256) (h1 : b1 < 256) (h2 : b2 < 256) (h3 : b3 < 256) :
    bits BinOp.or IntKind.u32 (bits BinOp.or IntKind.u32 (bits BinOp.or IntKind.u32 ((b0 : Int) % 4294967296 * 16777216 % 4294967296) ((b1 : Int) % 4294967296 * 65536 % 4294967296)) ((b2 : Int) % 4294967296 * 256 % 4294967296)) ((b3 : Int) % 4294967296) = (be4 b0 b1 b2 b3 : Int) := by
  rw [show (b0 : Int) % 4294967296 * 16777216 % 4294967296 = (b0 : Int) * 16777216 by omega, show (b1 : Int) % 4294967296 * 65536 % 4294967296 = (b1 : Int) * 65536 by omega, show (b2 : Int) % 4294967296 * 256 % 4294967296 = (b2 : Int) * 256 by omega, show (b3 : Int) % 4294967296 = (b3 : Int) by omega]
  exact or_be32 b0 b1 b2 b3 h0 h1 h2 h3
theorem big_any (s : ByteArray) (hs : 4 ≤ s.size) (w : World) :
    Calls Try.prog 86 #[.string s] w fun e w' => e = .returned (.int .u32 (be4 (byteAt s 0) (byteAt s 1) (byteAt s 2) (byteAt s 3))) ∧ ∃ n, w' = w.drewN n := by
  have g0 : 0 < s.size := by omega
  have g1 : (1 : Int) < s.size := by omega
  have g2 : (2 : Int) < s.size := by omega
  have g3 : (3 : Int) < s.size := by omega
  go_enter Try.func86, Try.ntmps86
  go_wp2
  go_region
  go_wp2
  go_ret
  refine ⟨ret_u32 ?_, _, rfl⟩
  rw [byteAt_get s 0, byteAt_get s 1, byteAt_get s 2, byteAt_get s 3]
  exact or_be32w _ _ _ _ (byteAt_lt _ _) (byteAt_lt _ _) (byteAt_lt _ _) (byteAt_lt _ _)
theorem small_any (s : ByteArray) (hs : 4 ≤ s.size) (w : World) :
    Calls Try.prog 37 #[.string s] w fun e w' => e = .returned (.int .u32 (be4 (byteAt s 3) (byteAt s 2) (byteAt s 1) (byteAt s 0))) ∧ ∃ n, w' = w.drewN n := by
  have g0 : 0 < s.size := by omega
  have g1 : (1 : Int) < s.size := by omega
  have g2 : (2 : Int) < s.size := by omega
  have g3 : (3 : Int) < s.size := by omega
  go_enter Try.func37, Try.ntmps37
  go_wp2
  go_region
  go_wp2
  go_ret
  refine ⟨ret_u32 ?_, _, rfl⟩
  rw [byteAt_get s 0, byteAt_get s 1, byteAt_get s 2, byteAt_get s 3]
  exact or_be32w _ _ _ _ (byteAt_lt _ _) (byteAt_lt _ _) (byteAt_lt _ _) (byteAt_lt _ _)
end Go.Proofs.Ytpnpmploaaenlaa
namespace Go.Proofs.Ytpnpmploaaenlaa
open Go.RowKit Wd
set_option linter.unusedSimpArgs false
set_option linter.unusedVariables false

def rowV (n : Nat) (z : Nat → Nat) : Array Value := ((List.range n).map fun j => Value.int .u32 ((z j : Nat) : Int)).toArray
def U (ty n : Nat) (w : World) (g : Nat) (z : Nat → Nat) : Prop := w.heap[g]? = some (.cells (rowV n z) ty (0, 0))
theorem rowV_size (n : Nat) (z : Nat → Nat) : (rowV n z).size = n := by simp [rowV]
theorem rowV_get (n : Nat) (z : Nat → Nat) (k : Nat) (hk : k < n) : (rowV n z)[k]? = some (.int .u32 ((z k : Nat) : Int)) := by
  unfold rowV
  simp [hk]
theorem rowV_set (n : Nat) (z : Nat → Nat) (k x : Nat) (hk : k < n) : (rowV n z).setIfInBounds k (.int .u32 (x : Int)) = rowV n (upd z k x) := by
  apply Array.ext_getElem?
  intro i
  by_cases hi : i < n
  · rw [rowV_get _ _ _ hi, Array.getElem?_setIfInBounds]
    by_cases e : k = i
    · subst e; simp [rowV_size, hk, upd]
    · rw [if_neg e, rowV_get _ _ _ hi]; unfold upd; rw [if_neg (fun h => e h.symm)]
  · rw [Array.getElem?_eq_none (by rw [Array.size_setIfInBounds, rowV_size]; omega), Array.getElem?_eq_none (by rw [rowV_size]; omega)]
theorem rowV_eq {n : Nat} {z z' : Nat → Nat} (e : ∀ k, k < n → z k = z' k) : rowV n z = rowV n z' := by
  unfold rowV
  congr 1
  apply List.map_congr_left
  intro a ha
  rw [e a (by simpa using ha)]
theorem rowV_one (n : Nat) (z : Nat → Nat) : (rowV n z).all (·.oneCell') = true := by
  simp [rowV, Array.all_eq_true, Value.oneCell']
section
variable {ty n : Nat} {w : World} {g : Nat} {f : Nat → Nat}
theorem U.lt (h : U ty n w g f) : g < w.heap.size := lt_of_block h
theorem U.cell (h : U ty n w g f) (k : Nat) (hk : k < n) : w.cell? ⟨g, k, none⟩ = some (.int .u32 ((f k : Nat) : Int)) := blk_cell h (rowV_get n f k hk)
theorem U.free (h : U ty n w g f) (k : Nat) : w.frozen? ⟨g, k, none⟩ = false := blk_free h
theorem U.kept {S : Nat → Prop} {w' : World} (h : U ty n w g f) (m : Mod S w w') (hs : ¬ S g) : U ty n w' g f := m.blk h hs
theorem U.drew (h : U ty n w g f) : U ty n w.drew g f := h
theorem U.set (h : U ty n w g f) (k x : Nat) (hk : k < n) : U ty n (w.setCell ⟨g, k, none⟩ (.int .u32 (x : Int))) g (upd f k x) := by
  have := set_block h (o := k) (.int .u32 (x : Int))
  unfold U
  rw [this, rowV_set n f k x hk]
theorem U.set' (h : U ty n w g f) (k x : Nat) (hk : k < n) (y : Int) (hy : y = (x : Int)) : U ty n (w.setCell ⟨g, k, none⟩ (.int .u32 y)) g (upd f k x) := by subst hy; exact h.set k x hk
theorem U.other (h : U ty n w g f) {p : Addr} (hp : p.block ≠ g) (u : Value) : U ty n (w.setCell p u) g f := (Below.heap_setCell _ _ _ _ (fun e => hp e.symm)).trans h
theorem U.alloc (h : U ty n w g f) (o : Obj) : U ty n (w.alloc o) g f := (Below.heap_alloc _ _ _ h.lt).trans h
theorem U.eq {f' : Nat → Nat} (h : U ty n w g f) (e : ∀ k, k < n → f k = f' k) : U ty n w g f' := by
  unfold U at h ⊢
  rw [h, rowV_eq e]
theorem U.new (w : World) (f : Nat → Nat) (g : Nat) (hg : g = w.heap.size) : U ty n (w.alloc (.cells (rowV n f) ty)) g f := new_block w _ _ g hg
theorem U.row (h : U ty n w g f) (f' : Nat → Nat) : U ty n (w.setRow g (rowV n f')) g f' := setRow_heap w g _ _ _ _ h
theorem U.rowOther {k : Nat} (h : U ty n w g f) (hne : g ≠ k) (cs : Array Value) : U ty n (w.setRow k cs) g f := (setRow_other w k g cs hne).trans h
end
/- The plain functions. -/
def sg0 (x : Nat) : Nat := rotN x 25 ^^^ rotN x 14 ^^^ x / 8
def sg1 (y : Nat) : Nat := rotN y 15 ^^^ rotN y 13 ^^^ y / 1024
def sb1 (e : Nat) : Nat := rotN e 26 ^^^ rotN e 21 ^^^ rotN e 7
def sb0 (a : Nat) : Nat := rotN a 30 ^^^ rotN a 19 ^^^ rotN a 10
def chN (e f g : Nat) : Nat := (e &&& f) ^^^ ((4294967295 - e) &&& g)
def majN (a b c : Nat) : Nat := (a &&& b) ^^^ (a &&& c) ^^^ (b &&& c)
def sched (b : Nat → Nat) (k : Nat) : Nat := if h : k < 16 then b k else (sched b (k - 16) + sg0 (sched b (k - 15)) + sched b (k - 7) + sg1 (sched b (k - 2))) % 4294967296
termination_by k
decreasing_by all_goals omega
def kL : List Nat := [0x428a2f98, 0x71374491, 0xb5c0fbcf, 0xe9b5dba5, 0x3956c25b, 0x59f111f1, 0x923f82a4, 0xab1c5ed5, 0xd807aa98, 0x12835b01, 0x243185be, 0x550c7dc3, 0x72be5d74, 0x80deb1fe, 0x9bdc06a7, 0xc19bf174, 0xe49b69c1, 0xefbe4786, 0x0fc19dc6, 0x240ca1cc, 0x2de92c6f, 0x4a7484aa, 0x5cb0a9dc, 0x76f988da, 0x983e5152, 0xa831c66d, 0xb00327c8, 0xbf597fc7, 0xc6e00bf3, 0xd5a79147, 0x06ca6351, 0x14292967, 0x27b70a85, 0x2e1b2138, 0x4d2c6dfc, 0x53380d13, 0x650a7354, 0x766a0abb, 0x81c2c92e, 0x92722c85, 0xa2bfe8a1, 0xa81a664b, 0xc24b8b70, 0xc76c51a3, 0xd192e819, 0xd6990624, 0xf40e3585, 0x106aa070, 0x19a4c116, 0x1e376c08, 0x2748774c, 0x34b0bcb5, 0x391c0cb3, 0x4ed8aa4a, 0x5b9cca4f, 0x682e6ff3, 0x748f82ee, 0x78a5636f, 0x84c87814, 0x8cc70208, 0x90befffa, 0xa4506ceb, 0xbef9a3f7, 0xc67178f2]
def kN (k : Nat) : Nat := kL.getD k 0
def hL : List Nat := [0x6a09e667, 0xbb67ae85, 0x3c6ef372, 0xa54ff53a, 0x510e527f, 0x9b05688c, 0x1f83d9ab, 0x5be0cd19]
def hN (k : Nat) : Nat := hL.getD k 0
def rndT (v : Nat → Nat) (k x : Nat) : Nat := v 7 + sb1 (v 4) + chN (v 4) (v 5) (v 6) + k + x
def rndU (v : Nat → Nat) : Nat := sb0 (v 0) + majN (v 0) (v 1) (v 2)
def pick8 (a0 a1 a2 a3 a4 a5 a6 a7 : Nat) : Nat → Nat
  | 0 => a0
  | 1 => a1
  | 2 => a2
  | 3 => a3
  | 4 => a4
  | 5 => a5
  | 6 => a6
  | _ => a7
theorem pick8_lt {M a0 a1 a2 a3 a4 a5 a6 a7 : Nat} (h0 : a0 < M) (h1 : a1 < M) (h2 : a2 < M) (h3 : a3 < M) (h4 : a4 < M) (h5 : a5 < M) (h6 : a6 < M) (h7 : a7 < M) (j : Nat) : pick8 a0 a1 a2 a3 a4 a5 a6 a7 j < M := by
  unfold pick8
  split <;> assumption
theorem pick8_row (a0 a1 a2 a3 a4 a5 a6 a7 : Nat) : (#[.int .u32 (a0 : Int), .int .u32 (a1 : Int), .int .u32 (a2 : Int), .int .u32 (a3 : Int), .int .u32 (a4 : Int), .int .u32 (a5 : Int), .int .u32 (a6 : Int), .int .u32 (a7 : Int)] : Array Value) = rowV 8 (pick8 a0 a1 a2 a3 a4 a5 a6 a7) := rfl
def rnd (v : Nat → Nat) (k x : Nat) : Nat → Nat := pick8 ((rndT v k x + rndU v) % 4294967296) (v 0) (v 1) (v 2) ((v 3 + rndT v k x) % 4294967296) (v 4) (v 5) (v 6)
theorem rnd_row (v : Nat → Nat) (k x : Nat) : (#[.int .u32 ((rndT v k x + rndU v) % 4294967296 : Nat), .int .u32 (v 0 : Nat), .int .u32 (v 1 : Nat), .int .u32 (v 2 : Nat), .int .u32 ((v 3 + rndT v k x) % 4294967296 : Nat), .int .u32 (v 4 : Nat), .int .u32 (v 5 : Nat), .int .u32 (v 6 : Nat)] : Array Value) = rowV 8 (rnd v k x) := by
  unfold rnd
  exact pick8_row _ _ _ _ _ _ _ _
def rnds (v : Nat → Nat) (x : Nat → Nat) : Nat → Nat → Nat
  | 0 => v
  | k + 1 => rnd (rnds v x k) (kN k) (x k)
def stepN (h b : Nat → Nat) : Nat → Nat := fun j => (h j + rnds h (sched b) 64 j) % 4294967296
theorem kN_lt (k : Nat) : kN k < 4294967296 := by
  have : ∀ k, k < 64 → kN k < 4294967296 := by decide
  by_cases h : k < 64
  · exact this k h
  · unfold kN; rw [List.getD_eq_getElem?_getD, List.getElem?_eq_none (by show 64 ≤ k; omega)]; decide
theorem hN_lt (k : Nat) : hN k < 4294967296 := by
  have : ∀ k, k < 8 → hN k < 4294967296 := by decide
  by_cases h : k < 8
  · exact this k h
  · unfold hN; rw [List.getD_eq_getElem?_getD, List.getElem?_eq_none (by show 8 ≤ k; omega)]; decide
theorem sched_lt (b : Nat → Nat) (hb : ∀ k, b k < 4294967296) (k : Nat) : sched b k < 4294967296 := by
  unfold sched
  by_cases h : k < 16
  · rw [dif_pos h]; exact hb k
  · rw [dif_neg h]; exact Nat.mod_lt _ (by decide)
theorem rnd_lt (v : Nat → Nat) (hv : ∀ k, v k < 4294967296) (k x : Nat) (j : Nat) : rnd v k x j < 4294967296 := by
  unfold rnd
  exact pick8_lt (Nat.mod_lt _ (by decide)) (hv _) (hv _) (hv _) (Nat.mod_lt _ (by decide)) (hv _) (hv _) (hv _) j
theorem rnds_lt (v x : Nat → Nat) (hv : ∀ k, v k < 4294967296) (n : Nat) : ∀ j, rnds v x n j < 4294967296 := by
  induction n with
  | zero => exact hv
  | succ n ih => exact rnd_lt _ ih _ _
theorem stepN_lt (h b : Nat → Nat) (j : Nat) : stepN h b j < 4294967296 := Nat.mod_lt _ (by decide)
end Go.Proofs.Ytpnpmploaaenlaa
