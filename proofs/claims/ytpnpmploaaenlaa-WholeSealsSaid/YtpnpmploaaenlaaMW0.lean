/- Rot: a word turned. Rot, as plain numbers: turned twice is turned once. The words of bytes: a word of four bytes. Big, Small, SameInts; what words must be. -/
import Derived.Test.YtpnpmploaaenlaaRows
import Derived.Test.YtpnpmploaaenlaaMBase
import Derived.Laws.BitsLemmas
import Derived.Laws.BitsAllLaws
import Derived.Lib.ConvBytes
namespace Go.Proofs.Ytpnpmploaaenlaa.Wd
open Go.RowKit
set_option linter.unusedSimpArgs false
set_option linter.unusedVariables false

theorem u64_and31 (n : Int) : bits BinOp.and IntKind.u64 (IntKind.u64.wrap n) 31 = n % 32 := by
  have hm : (BitVec.ofInt 64 31).toNat = 2 ^ 5 - 1 := by decide
  have hw : IntKind.u64.wrap n = n % 18446744073709551616 := by simp [IntKind.wrap, IntKind.bits, IntKind.signed]
  have key : (BitVec.ofInt 64 (n % 18446744073709551616) &&& BitVec.ofInt 64 31).toNat = ((n % 18446744073709551616) % ((2 ^ 64 : Nat) : Int)).toNat % 2 ^ 5 := by
    rw [BitVec.toNat_and, BitVec.toNat_ofInt, hm, Nat.and_two_pow_sub_one_eq_mod]
  rw [hw]
  show IntKind.u64.wrap ((BitVec.ofInt 64 (n % 18446744073709551616) &&& BitVec.ofInt 64 31).toNat : Nat) = n % 32
  rw [key]
  simp [IntKind.wrap, IntKind.bits, IntKind.signed]
  omega
theorem i64_and_word (n : Int) : bits .and .i64 n 4294967295 = n % 4294967296 := by
  have hm : (BitVec.ofInt 64 4294967295).toNat = 2 ^ 32 - 1 := by decide
  have key : (BitVec.ofInt 64 n &&& BitVec.ofInt 64 4294967295).toNat = (n % ((2 ^ 64 : Nat) : Int)).toNat % 2 ^ 32 := by
    rw [BitVec.toNat_and, BitVec.toNat_ofInt, hm, Nat.and_two_pow_sub_one_eq_mod]
  show IntKind.i64.wrap ((BitVec.ofInt 64 n &&& BitVec.ofInt 64 4294967295).toNat : Nat) = n % 4294967296
  rw [key, IntKind.wrap_i64]
  omega
theorem word_any (x : Int) (w : World) :
    Calls Try.prog 77 #[.int .i64 x] w fun e w' => e = .returned (.int .i64 (x % 4294967296)) ∧ w = w' := by
  have h := i64_and_word x
  go_enter Try.func77, Try.ntmps77
  go_wp2
  go_ret
  exact ⟨rfl, rfl⟩
theorem word_same (x : Int) (w : World) :
    Calls Try.prog 77 #[.int .i64 x] w fun e w' => e = .returned (.int .i64 (x % 4294967296)) ∧ w' = w := (word_any x w).mono fun _ _ h => ⟨h.1, h.2.symm⟩
/-- A word of 32 bits, turned left by k. -/
def rotN (X k : Nat) : Nat := (X * 2 ^ k % 4294967296) ||| (X / 2 ^ (32 - k))
theorem rotN_lt (X k : Nat) (hX : X < 4294967296) : rotN X k < 4294967296 := by
  unfold rotN
  refine Nat.or_lt_two_pow (n := 32) (Nat.mod_lt _ (by decide)) (Nat.lt_of_le_of_lt (Nat.div_le_self _ _) hX)
def wordN (x : Int) : Nat := (x % 4294967296).toNat
def turnN (n : Int) : Nat := (n % 32).toNat
theorem ret_i64 {a b : Int} (h : a = b) : Ending.returned (.int .i64 a) = .returned (.int .i64 b) := by rw [h]
theorem rot_val (X k : Nat) (hX : X < 4294967296) : wrap64 (bits BinOp.or IntKind.u32 ((X : Int) * 2 ^ k % 4294967296) ((X : Int) / 2 ^ (32 - k))) = (rotN X k : Int) := by
  have e1 : (X : Int) * 2 ^ k % 4294967296 = ((X * 2 ^ k % 4294967296 : Nat) : Int) := by simp
  have e2 : (X : Int) / 2 ^ (32 - k) = ((X / 2 ^ (32 - k) : Nat) : Int) := by simp
  rw [e1, e2, u32_or_nat _ _ (Nat.mod_lt _ (by decide)) (Nat.lt_of_le_of_lt (Nat.div_le_self _ _) hX)]
  have := rotN_lt X k hX
  show wrap64 ((rotN X k : Nat) : Int) = _
  unfold wrap64; omega
theorem Mod.drewN {S : Nat → Prop} (w : World) (n : Nat) : Mod S w (w.drewN n) := ⟨rfl, rfl, rfl, Nat.le_refl _, fun _ _ _ => rfl⟩
theorem rrot_val (X k : Nat) (hX : X < 4294967296) (hk : k < 32) : bits BinOp.or IntKind.i64 (wrap64 ((X : Int) * 2 ^ k)) ((X : Int) / 2 ^ (32 - k)) % 4294967296 = (rotN X k : Int) := by
  have h2 : 2 ^ k ≤ 2 ^ 31 := Nat.pow_le_pow_right (by decide) (by omega)
  have h3 : X * 2 ^ k < 2 ^ 63 := by
    have : X * 2 ^ k ≤ X * 2 ^ 31 := Nat.mul_le_mul_left _ h2
    omega
  have e1 : wrap64 ((X : Int) * 2 ^ k) = ((X * 2 ^ k : Nat) : Int) := by
    have e : (X : Int) * 2 ^ k = ((X * 2 ^ k : Nat) : Int) := by simp
    rw [e]; unfold wrap64; omega
  have e2 : (X : Int) / 2 ^ (32 - k) = ((X / 2 ^ (32 - k) : Nat) : Int) := by simp
  have h4 : X / 2 ^ (32 - k) < 2 ^ 32 := Nat.lt_of_le_of_lt (Nat.div_le_self _ _) hX
  rw [e1, e2, (bits_nat .i64 63 (by decide) (fun n h0 h1 => by rw [IntKind.wrap_i64]; omega) (X * 2 ^ k) (X / 2 ^ (32 - k)) h3 (by omega)).2]
  have e3 : (X * 2 ^ k ||| X / 2 ^ (32 - k)) % 2 ^ 32 = rotN X k := by
    rw [Nat.or_mod_two_pow, Nat.mod_eq_of_lt h4]
    rfl
  rw [← e3]
  simp
theorem rrot_any (x n : Int) (w : World) :
    Calls Try.prog 88 #[.int .i64 x, .int .i64 n] w fun e w' => e = .returned (.int .i64 (rotN (wordN x) (turnN n))) ∧ Mod (fun _ => False) w w' := by
  obtain ⟨X, hX, hX2, hX3⟩ : ∃ X : Nat, x % 4294967296 = (X : Int) ∧ X < 4294967296 ∧ wordN x = X := ⟨(x % 4294967296).toNat, by omega, by omega, rfl⟩
  obtain ⟨k, hk, hk2, hk4⟩ : ∃ k : Nat, bits BinOp.and IntKind.i64 n 31 = (k : Int) ∧ k < 32 ∧ turnN n = k := ⟨(n % 32).toNat, by rw [i64_and31]; omega, by omega, rfl⟩
  rw [hX3, hk4]
  clear hX3 hk4
  go_enter Try.func88, Try.ntmps88
  go_wp2_with fail
  go_quiet ((go_at_call 77; exact Calls.quiet_of_same (word_same _ _)))
  go_wp2
  go_ret
  exact ⟨ret_i64 (rrot_val X k hX2 hk2), Mod.drewN _ _⟩
end Go.Proofs.Ytpnpmploaaenlaa.Wd
namespace Go.Proofs.Ytpnpmploaaenlaa.Wd
theorem rot_bit (X k i : Nat) (hX : X < 4294967296) (hk : k < 32) : (rotN X k).testBit i = (decide (i < 32) && X.testBit ((i + (32 - k)) % 32)) := by
  unfold rotN
  rw [Nat.testBit_or, show (4294967296 : Nat) = 2 ^ 32 from rfl, Nat.testBit_mod_two_pow, Nat.testBit_mul_two_pow, Nat.testBit_div_two_pow]
  by_cases hi : i < 32
  · by_cases hik : k ≤ i
    · have h1 : X.testBit (i + (32 - k)) = false := Nat.testBit_lt_two_pow (Nat.lt_of_lt_of_le hX (Nat.pow_le_pow_right (n := 2) (i := 32) (by decide) (by omega)))
      have h2 : (i + (32 - k)) % 32 = i - k := by omega
      simp [hi, hik, h1, h2]
    · have h2 : (i + (32 - k)) % 32 = i + (32 - k) := by omega
      simp [hi, hik, h2]
  · have h1 : X.testBit (i + (32 - k)) = false := Nat.testBit_lt_two_pow (Nat.lt_of_lt_of_le hX (Nat.pow_le_pow_right (n := 2) (i := 32) (by decide) (by omega)))
    simp [hi, h1]
theorem rot_rot (X a b : Nat) (hX : X < 4294967296) (ha : a < 32) (hb : b < 32) : rotN (rotN X a) b = rotN X ((a + b) % 32) := by
  apply Nat.eq_of_testBit_eq
  intro i
  rw [rot_bit _ _ _ (rotN_lt X a hX) hb, rot_bit _ _ _ hX ha, rot_bit _ _ _ hX (Nat.mod_lt _ (by decide))]
  by_cases hi : i < 32
  · have h1 : (i + (32 - b)) % 32 < 32 := Nat.mod_lt _ (by decide)
    have h2 : ((i + (32 - b)) % 32 + (32 - a)) % 32 = (i + (32 - (a + b) % 32)) % 32 := by omega
    simp [hi, h1, h2]
  · simp [hi]
theorem rot_zero (X : Nat) (hX : X < 4294967296) : rotN X 0 = X := by
  unfold rotN
  rw [Nat.pow_zero, Nat.mul_one, Nat.mod_eq_of_lt hX, Nat.div_eq_of_lt (by simpa using hX), Nat.or_zero]
theorem rot_back (X a : Nat) (hX : X < 4294967296) (ha : a < 32) : rotN (rotN X a) ((32 - a) % 32) = X := by
  rw [rot_rot X a _ hX ha (Nat.mod_lt _ (by decide)), show (a + (32 - a) % 32) % 32 = 0 by omega, rot_zero X hX]
end Go.Proofs.Ytpnpmploaaenlaa.Wd
namespace Go.Proofs.Ytpnpmploaaenlaa.Wd
open Go.RowKit
set_option linter.unusedSimpArgs false
set_option linter.unusedVariables false

def be4 (b0 b1 b2 b3 : Nat) : Nat := b0 * 16777216 + b1 * 65536 + b2 * 256 + b3
theorem i64_or (a b : Nat) (ha : a < 2 ^ 63) (hb : b < 2 ^ 63) : bits .or .i64 (a : Int) (b : Int) = ((a ||| b : Nat) : Int) :=
  (bits_nat .i64 63 (by decide) (fun n h0 h1 => by rw [IntKind.wrap_i64]; omega) a b ha hb).2
theorem i64_join (i a b : Nat) (h : a % 2 ^ i = 0) (ha : a < 2 ^ 63) (hb : b < 2 ^ i) (hi : i ≤ 63) : bits .or .i64 (a : Int) (b : Int) = ((a + b : Nat) : Int) := by
  rw [i64_or a b ha (Nat.lt_of_lt_of_le hb (Nat.pow_le_pow_right (by decide) hi)), nat_join i a b h hb]
theorem or_be4 (b0 b1 b2 b3 : Nat) (h0 : b0 < 256) (h1 : b1 < 256) (h2 : b2 < 256) (h3 : b3 < 256) :
    bits BinOp.or IntKind.i64 (bits BinOp.or IntKind.i64 (bits BinOp.or IntKind.i64 ((b0 : Int) * 16777216) ((b1 : Int) * 65536)) ((b2 : Int) * 256)) (b3 : Int) = (be4 b0 b1 b2 b3 : Int) := by
  have e1 : (b0 : Int) * 16777216 = ((b0 * 16777216 : Nat) : Int) := by simp
  have e2 : (b1 : Int) * 65536 = ((b1 * 65536 : Nat) : Int) := by simp
  have e3 : (b2 : Int) * 256 = ((b2 * 256 : Nat) : Int) := by simp
  rw [e1, e2, i64_join 24 _ _ (by omega) (by omega) (by omega) (by decide), e3, i64_join 16 _ _ (by omega) (by omega) (by omega) (by decide), i64_join 8 _ _ (by omega) (by omega) (by omega) (by decide)]
  rfl
def bytes (s : ByteArray) : List UInt8 := s.data.toList
def byteAt (s : ByteArray) (i : Nat) : Nat := ((bytes s).getD i 0).toNat
/-- The k-th word of bytes. -/
def wordAt (big : Bool) (s : ByteArray) (k : Nat) : Nat := if big then be4 (byteAt s (4 * k)) (byteAt s (4 * k + 1)) (byteAt s (4 * k + 2)) (byteAt s (4 * k + 3)) else be4 (byteAt s (4 * k + 3)) (byteAt s (4 * k + 2)) (byteAt s (4 * k + 1)) (byteAt s (4 * k))
def wordsL (big : Bool) (s : ByteArray) (k : Nat) : List Value := (List.range k).map fun j => .int .i64 (wordAt big s j)
theorem wordsL_succ (big : Bool) (s : ByteArray) (k : Nat) : wordsL big s (k + 1) = wordsL big s k ++ [.int .i64 (wordAt big s k)] := by
  unfold wordsL; rw [List.range_succ]; simp
theorem info3 : (Try.prog.info? 3).map (fun i => (i.zero, i.size, i.bytes)) = some (some (.int .i64 0), 1, 8) := by kernel_rfl
theorem conv4 (s : ByteArray) (k : Nat) (w : World) (hb : 4 * k + 4 ≤ s.size) : ∃ C W1, (convert 9 33 (.string (s.extract (4 * k) (4 * k + 4)))).run Try.prog w = .ok (.slice (some ⟨w.heap.size, 0, none⟩) 4 C) W1 ∧ Mod (fun _ => False) w W1 ∧ w.heap.size < W1.heap.size ∧
    W1.cell? ⟨w.heap.size, 0, none⟩ = some (.int .u8 (byteAt s (4 * k))) ∧ W1.cell? ⟨w.heap.size, 1, none⟩ = some (.int .u8 (byteAt s (4 * k + 1))) ∧ W1.cell? ⟨w.heap.size, 2, none⟩ = some (.int .u8 (byteAt s (4 * k + 2))) ∧ W1.cell? ⟨w.heap.size, 3, none⟩ = some (.int .u8 (byteAt s (4 * k + 3))) := by
  have hsz : (s.extract (4 * k) (4 * k + 4)).size = 4 := by simp; omega
  have h := Lib.run_convert_string_bytes (P := Try.prog) w 9 33 5 (s.extract (4 * k) (4 * k + 4)) Try.underlying9 Try.underlying33 Try.underlying5
  have hc : ∀ j, j < 4 → (Lib.bytesWorld w 5 (s.extract (4 * k) (4 * k + 4))).cell? ⟨w.heap.size, j, none⟩ = some (.int .u8 (byteAt s (4 * k + j))) := by
    intro j hj
    rw [Lib.bytesWorld_cell _ _ _ _ (by rw [hsz]; exact hj)]
    have e : (s.extract (4 * k) (4 * k + 4)).data.toList.getD j 0 = (bytes s).getD (4 * k + j) 0 := by
      unfold bytes
      simp [List.getD_eq_getElem?_getD, List.getElem?_take, hj, List.getElem?_drop, show j < 4 * k + 4 - 4 * k by omega]
    rw [e]
    rfl
  rw [hsz] at h
  refine ⟨_, _, h, ⟨rfl, rfl, rfl, by rw [Lib.bytesWorld_size]; omega, fun j hj _ => Lib.bytesWorld_at_old w 5 _ j hj⟩, by rw [Lib.bytesWorld_size]; omega, hc 0 (by omega), hc 1 (by omega), hc 2 (by omega), hc 3 (by omega)⟩
theorem byteAt_lt (s : ByteArray) (i : Nat) : byteAt s i < 256 := UInt8.toNat_lt _
theorem own_ge {w : World} {base size n : Nat} {e : TypeId} {v : Value} {xs : List Value} (h : w.ownsRow base e size v n xs) (k : Nat) (hk : some k = v.ownBlock) : base ≤ k := by
  rcases h.2 with ⟨h2, _⟩ | ⟨g, cap, cur, hv, hg, _⟩
  · subst h2; simp [Value.ownBlock] at hk
  · subst hv; simp [Value.ownBlock] at hk; omega
theorem own_grown {W w2 w3 : World} {size n : Nat} {e : TypeId} {v : Value} {xs : List Value} (hm : Mod (fun _ => False) W w2) (own : w2.ownsRow W.heap.size e size v n xs) (g : w2.grownBy w3 v.ownBlock) : Mod (fun _ => False) W w3 :=
  hm.new (S := fun k => some k = v.ownBlock) ⟨g.os, g.tape, g.output, g.size, fun k hk hs => g.block k hk hs⟩ (fun i e => own_ge own i e)
theorem own_mod {S : Nat → Prop} {w w' : World} {base size n : Nat} {e : TypeId} {v : Value} {xs : List Value} (m : Mod S w w') (h : w.ownsRow base e size v n xs) (hs : ∀ g, base ≤ g → S g → False) : w'.ownsRow base e size v n xs := by
  obtain ⟨h1, h2⟩ := h
  refine ⟨h1, ?_⟩
  rcases h2 with h2 | ⟨g, cap, cur, hv, hg, hh, r⟩
  · exact .inl h2
  · exact .inr ⟨g, cap, cur, hv, hg, m.blk hh (fun s => hs g hg s), r⟩
theorem own_form {w : World} {base size n : Nat} {e : TypeId} {v : Value} {xs : List Value} (h : w.ownsRow base e size v n xs) : ∃ a cap, v = .slice a n cap := by
  rcases h.2 with ⟨h2, hn⟩ | ⟨g, cap, cur, hv, _⟩
  · subst hn; exact ⟨_, _, h2⟩
  · exact ⟨_, _, hv⟩
end Go.Proofs.Ytpnpmploaaenlaa.Wd
namespace Go.Proofs.Ytpnpmploaaenlaa.Wd
open Go.RowKit
set_option linter.unusedSimpArgs false
set_option linter.unusedVariables false

/-- The cells of n numbers. -/
def Ints (w : World) (a : Option Addr) (n : Nat) (z : Nat → Int) : Prop :=
  ∀ k, k < n → ∃ b off, a = some ⟨b, off, none⟩ ∧ w.cell? ⟨b, off + k, none⟩ = some (.int .i64 (z k))
theorem Ints.kept {w w' : World} {a : Option Addr} {n : Nat} {z : Nat → Int} (h : Ints w a n z) (m : Mod (fun _ => False) w w') : Ints w' a n z := fun k hk => by
  obtain ⟨b, off, e, c⟩ := h k hk
  exact ⟨b, off, e, m.at c⟩
theorem own_ints {w : World} {base n cap : Nat} {a : Option Addr} {x : Nat → Int} (h : w.ownsRow base 3 1 (.slice a n cap) n ((List.range n).map fun j => .int .i64 (x j))) : Ints w a n x := by
  intro k hk
  rcases h.2 with ⟨h2, hn⟩ | ⟨g, cap', cur, hv, hg, hh, hc1, hc2, hsz, htk⟩
  · omega
  · simp at hv
    obtain ⟨rfl, rfl⟩ := hv
    refine ⟨g, 0, rfl, ?_⟩
    rw [Nat.zero_add]
    refine blk_cell hh ?_
    have h3 : (cur.toList.take (n * 1))[k]? = some (.int .i64 (x k)) := by rw [htk]; simp [hk]
    rw [List.getElem?_take, if_pos (by omega)] at h3
    simpa using h3
theorem one_ints (w : World) (v : Int) : Ints (w.alloc (.cells #[.int .i64 v] 3)) (some ⟨w.heap.size, 0, none⟩) 1 (fun _ => v) := fun k hk => by
  obtain rfl : k = 0 := by omega
  exact ⟨_, _, rfl, cell_new w #[.int .i64 v] 3 0 _ rfl⟩
def bstr (l : List UInt8) : ByteArray := ⟨l.toArray⟩
end Go.Proofs.Ytpnpmploaaenlaa.Wd
