/- The words of bytes: a word of four bytes. -/
import Derived.Test.YtbmeejopfcpoaaaW1
import Derived.Lib.ConvBytes
namespace Go.Proofs.Ytbmeejopfcpoaaa
open Go.RowKit
set_option linter.unusedSimpArgs false
set_option linter.unusedVariables false

def be4 (b0 b1 b2 b3 : Nat) : Nat := b0 * 16777216 + b1 * 65536 + b2 * 256 + b3
theorem i64_or (a b : Nat) (ha : a < 2 ^ 63) (hb : b < 2 ^ 63) : bits .or .i64 (a : Int) (b : Int) = ((a ||| b : Nat) : Int) :=
  (bits_nat .i64 63 (by decide) (fun n h0 h1 => by rw [IntKind.wrap_i64]; omega) a b ha hb).2
theorem i64_join (i a b : Nat) (h : a % 2 ^ i = 0) (ha : a < 2 ^ 63) (hb : b < 2 ^ i) (hi : i ≤ 63) : bits .or .i64 (a : Int) (b : Int) = ((a + b : Nat) : Int) := by
  rw [i64_or a b ha (Nat.lt_of_lt_of_le hb (Nat.pow_le_pow_right (by decide) hi)), nat_join i a b h hb]
theorem or_be4 (b0 b1 b2 b3 : Nat) (h0 : b0 < 256) (h1 : b1 < 256) (h2 : b2 < 256) (h3 : b3 < 256) :
    bits BinOp.or IntKind.i64 (bits BinOp.or IntKind.i64 (bits BinOp.or IntKind.i64 ((b0 : Int) * 16777216) ((b1 : Int) * 65536)) ((b2 : Int) * 256)) (b3 : Int) = (be4 b0 b1 b2 b3 : Int) := by
  have e1 : (b0 : Int) * 16777216 = ((b0 * 16777216 : Nat) : Int) := by simp
  have e2 : (b1 : Int) * 65536 = ((b1 * 65536 : Nat) : Int) := by simp
  have e3 : (b2 : Int) * 256 = ((b2 * 256 : Nat) : Int) := by simp
  rw [e1, e2, i64_join 24 _ _ (by omega) (by omega) (by omega) (by decide), e3, i64_join 16 _ _ (by omega) (by omega) (by omega) (by decide), i64_join 8 _ _ (by omega) (by omega) (by omega) (by decide)]
  rfl
theorem big4 (b0 b1 b2 b3 : Nat) (h0 : b0 < 256) (h1 : b1 < 256) (h2 : b2 < 256) (h3 : b3 < 256) (w : World) :
    Calls Try.prog 31 #[.agg #[.int .u8 b0, .int .u8 b1, .int .u8 b2, .int .u8 b3]] w fun e w' => e = .returned (.int .i64 (be4 b0 b1 b2 b3)) ∧ Mod (fun _ => False) w w' := by
  go_enter Try.func31, Try.ntmps31
  go_wp2
  go_ret
  exact ⟨ret_i64 (or_be4 b0 b1 b2 b3 h0 h1 h2 h3), (Mod.refl _ _).alloc _⟩
theorem small4 (b0 b1 b2 b3 : Nat) (h0 : b0 < 256) (h1 : b1 < 256) (h2 : b2 < 256) (h3 : b3 < 256) (w : World) :
    Calls Try.prog 33 #[.agg #[.int .u8 b0, .int .u8 b1, .int .u8 b2, .int .u8 b3]] w fun e w' => e = .returned (.int .i64 (be4 b3 b2 b1 b0)) ∧ Mod (fun _ => False) w w' := by
  go_enter Try.func33, Try.ntmps33
  go_wp2
  go_ret
  exact ⟨ret_i64 (or_be4 b3 b2 b1 b0 h3 h2 h1 h0), (Mod.refl _ _).alloc _⟩
def bytes (s : ByteArray) : List UInt8 := s.data.toList
def byteAt (s : ByteArray) (i : Nat) : Nat := ((bytes s).getD i 0).toNat
/-- The k-th word of bytes. -/
def wordAt (big : Bool) (s : ByteArray) (k : Nat) : Nat := if big then be4 (byteAt s (4 * k)) (byteAt s (4 * k + 1)) (byteAt s (4 * k + 2)) (byteAt s (4 * k + 3)) else be4 (byteAt s (4 * k + 3)) (byteAt s (4 * k + 2)) (byteAt s (4 * k + 1)) (byteAt s (4 * k))
def wordsL (big : Bool) (s : ByteArray) (k : Nat) : List Value := (List.range k).map fun j => .int .i64 (wordAt big s j)
theorem wordsL_succ (big : Bool) (s : ByteArray) (k : Nat) : wordsL big s (k + 1) = wordsL big s k ++ [.int .i64 (wordAt big s k)] := by
  unfold wordsL; rw [List.range_succ]; simp
theorem info3 : (Try.prog.info? 3).map (fun i => (i.zero, i.size, i.bytes)) = some (some (.int .i64 0), 1, 8) := by kernel_rfl
theorem conv4 (s : ByteArray) (k : Nat) (w : World) (hb : 4 * k + 4 ≤ s.size) : ∃ C W1, (convert 9 44 (.string (s.extract (4 * k) (4 * k + 4)))).run Try.prog w = .ok (.slice (some ⟨w.heap.size, 0, none⟩) 4 C) W1 ∧ Mod (fun _ => False) w W1 ∧ w.heap.size < W1.heap.size ∧
    W1.cell? ⟨w.heap.size, 0, none⟩ = some (.int .u8 (byteAt s (4 * k))) ∧ W1.cell? ⟨w.heap.size, 1, none⟩ = some (.int .u8 (byteAt s (4 * k + 1))) ∧ W1.cell? ⟨w.heap.size, 2, none⟩ = some (.int .u8 (byteAt s (4 * k + 2))) ∧ W1.cell? ⟨w.heap.size, 3, none⟩ = some (.int .u8 (byteAt s (4 * k + 3))) := by
  have hsz : (s.extract (4 * k) (4 * k + 4)).size = 4 := by simp; omega
  have h := Lib.run_convert_string_bytes (P := Try.prog) w 9 44 5 (s.extract (4 * k) (4 * k + 4)) Try.underlying9 Try.underlying44 Try.underlying5
  have hc : ∀ j, j < 4 → (Lib.bytesWorld w 5 (s.extract (4 * k) (4 * k + 4))).cell? ⟨w.heap.size, j, none⟩ = some (.int .u8 (byteAt s (4 * k + j))) := by
    intro j hj
    rw [Lib.bytesWorld_cell _ _ _ _ (by rw [hsz]; exact hj)]
    have e : (s.extract (4 * k) (4 * k + 4)).data.toList.getD j 0 = (bytes s).getD (4 * k + j) 0 := by
      unfold bytes
      simp [List.getD_eq_getElem?_getD, List.getElem?_take, hj, List.getElem?_drop, show j < 4 * k + 4 - 4 * k by omega]
    rw [e]
    rfl
  rw [hsz] at h
  refine ⟨_, _, h, ⟨rfl, rfl, rfl, by rw [Lib.bytesWorld_size]; omega, fun j hj _ => Lib.bytesWorld_at_old w 5 _ j hj⟩, by rw [Lib.bytesWorld_size]; omega, hc 0 (by omega), hc 1 (by omega), hc 2 (by omega), hc 3 (by omega)⟩
theorem byteAt_lt (s : ByteArray) (i : Nat) : byteAt s i < 256 := UInt8.toNat_lt _
theorem own_ge {w : World} {base size n : Nat} {e : TypeId} {v : Value} {xs : List Value} (h : w.ownsRow base e size v n xs) (k : Nat) (hk : some k = v.ownBlock) : base ≤ k := by
  rcases h.2 with ⟨h2, _⟩ | ⟨g, cap, cur, hv, hg, _⟩
  · subst h2; simp [Value.ownBlock] at hk
  · subst hv; simp [Value.ownBlock] at hk; omega
theorem own_grown {W w2 w3 : World} {size n : Nat} {e : TypeId} {v : Value} {xs : List Value} (hm : Mod (fun _ => False) W w2) (own : w2.ownsRow W.heap.size e size v n xs) (g : w2.grownBy w3 v.ownBlock) : Mod (fun _ => False) W w3 :=
  hm.new (S := fun k => some k = v.ownBlock) ⟨g.os, g.tape, g.output, g.size, fun k hk hs => g.block k hk hs⟩ (fun i e => own_ge own i e)
theorem own_mod {S : Nat → Prop} {w w' : World} {base size n : Nat} {e : TypeId} {v : Value} {xs : List Value} (m : Mod S w w') (h : w.ownsRow base e size v n xs) (hs : ∀ g, base ≤ g → S g → False) : w'.ownsRow base e size v n xs := by
  obtain ⟨h1, h2⟩ := h
  refine ⟨h1, ?_⟩
  rcases h2 with h2 | ⟨g, cap, cur, hv, hg, hh, r⟩
  · exact .inl h2
  · exact .inr ⟨g, cap, cur, hv, hg, m.blk hh (fun s => hs g hg s), r⟩
theorem own_form {w : World} {base size n : Nat} {e : TypeId} {v : Value} {xs : List Value} (h : w.ownsRow base e size v n xs) : ∃ a cap, v = .slice a n cap := by
  rcases h.2 with ⟨h2, hn⟩ | ⟨g, cap, cur, hv, _⟩
  · subst hn; exact ⟨_, _, h2⟩
  · exact ⟨_, _, hv⟩
set_option maxHeartbeats 4000000 in
theorem words_big (s : ByteArray) (w : World) (hs : s.size ≤ 100000) (m : Nat) (hm : s.size = 4 * m) :
    Calls Try.prog 30 #[.string s, .func (.func 31) #[] #[]] w fun e w' => ∃ v, e = .returned (.tuple #[v, .int .i64 0]) ∧ w'.ownsRow w.heap.size 3 1 v m (wordsL true s m) ∧ Mod (fun _ => False) w w' := by
  obtain ⟨i0, hi, hz0, hz1, hz2⟩ := info_parts info3
  have hr : (((s.size : Nat) : Int) % 4 != 0) = false := by rw [bne_eq_false_iff_eq]; omega
  have hq : ((s.size : Nat) : Int) / 4 = (m : Int) := by omega
  have HM := Lib.hid hm
  clear hm
  go_enter Try.func30, Try.ntmps30
  go_wp2_with fail
  go_loopw [6, 15] (fun v i wr => ∃ k : Nat, k ≤ m ∧ i = .int .i64 k ∧ wr.ownsRow w.heap.size 3 1 v k (wordsL true s k) ∧ Mod (fun _ => False) w wr) (fun _ i _ => m - (intOf i).toNat)
  case atStart => exact ⟨0, by omega, rfl, World.ownsRow_nil _ _ _ _, Mod.refl _ _⟩
  case round =>
    obtain ⟨k, hk, rfl, own, hmr⟩ := hrel
    by_cases hlt : k < m
    · have hi0 : (0 : Int) ≤ (k : Int) := by omega
      have hi1 : (k : Int) < (m : Int) := by omega
      have hb4 : 4 * k + 4 ≤ s.size := by have := HM.out; omega
      have hb5 : (4 * (k : Int) + 4) ≤ ((s.size : Nat) : Int) := by omega
      have HL := Lib.hid (wordsL_succ true s k)
      have hm10 : m ≤ 25000 := by have := HM.out; omega
      obtain ⟨C, W1, hcv, m1, hs1, b0, b1, b2, b3⟩ := conv4 s k wr hb4
      have harr : ∀ W, (Instr.arrayAt 41 (.slice (some ⟨wr.heap.size, 0, none⟩) 4 C)).run Try.prog W = .ok (.pointer (some ⟨wr.heap.size, 0, none⟩)) W := fun W => by kernel_rfl
      go_wp2_with fail
      refine (big4 _ _ _ _ (byteAt_lt _ _) (byteAt_lt _ _) (byteAt_lt _ _) (byteAt_lt _ _) _).mono ?_
      rintro e w2 ⟨rfl, m2⟩
      have own2 := own_mod (m1.tr m2) own (fun _ _ e => e)
      have hm2 := (hmr.tr m1).tr m2
      have hw2 := hm2.size
      rw [show be4 (byteAt s (4 * k)) (byteAt s (4 * k + 1)) (byteAt s (4 * k + 2)) (byteAt s (4 * k + 3)) = wordAt true s k from rfl]
      clear own hmr m1 m2 b0 b1 b2 b3 hcv harr hs1
      generalize wordAt true s k = x at *
      go_wp2_with (at_builtin; refine wpList_append_own _ rfl (.tmp 18) (.tmp 31) 26 rfl w.heap.size 3 i0 (.int .i64 0) 1 8 Try.underlying26 hi hz0 hz1 hz2 rfl (by decide) _ _ _ rfl (own2.alloc _) ⟨w2.heap.size, 0, none⟩ 1 1 [.int .i64 (x : Int)] rfl rfl ?c1 ?c2 ?c3 ?c4 ?c5 ?_)
      case c1 =>
        intro j u hj
        match j, hj with
        | 0, hj => simp at hj; subst hj; simp [Addr.add]
      case c2 => intro u hu; simp at hu; subst hu; rfl
      case c3 => unfold maxLen; omega
      case c4 => omega
      case c5 => simp; omega
      intro v' w3 hown hgrow _
      have hm3 := own_grown (hm2.alloc _) (own2.alloc (.cells #[.int .i64 (x : Int)] 3)) hgrow
      rw [← HL.out] at hown
      clear own2 hgrow hm2
      go_wp2_with fail
      go_roundw
      case rel => exact ⟨k + 1, by omega, by go_num, hown, hm3⟩
      case measure => simp [intOf]; omega
    · obtain rfl : k = m := by omega
      go_wp2_with fail
      go_ret2
      exact ⟨_, rfl, own, hmr⟩
set_option maxHeartbeats 4000000 in
theorem words_small (s : ByteArray) (w : World) (hs : s.size ≤ 100000) (m : Nat) (hm : s.size = 4 * m) :
    Calls Try.prog 30 #[.string s, .func (.func 33) #[] #[]] w fun e w' => ∃ v, e = .returned (.tuple #[v, .int .i64 0]) ∧ w'.ownsRow w.heap.size 3 1 v m (wordsL false s m) ∧ Mod (fun _ => False) w w' := by
  obtain ⟨i0, hi, hz0, hz1, hz2⟩ := info_parts info3
  have hr : (((s.size : Nat) : Int) % 4 != 0) = false := by rw [bne_eq_false_iff_eq]; omega
  have hq : ((s.size : Nat) : Int) / 4 = (m : Int) := by omega
  have HM := Lib.hid hm
  clear hm
  go_enter Try.func30, Try.ntmps30
  go_wp2_with fail
  go_loopw [6, 15] (fun v i wr => ∃ k : Nat, k ≤ m ∧ i = .int .i64 k ∧ wr.ownsRow w.heap.size 3 1 v k (wordsL false s k) ∧ Mod (fun _ => False) w wr) (fun _ i _ => m - (intOf i).toNat)
  case atStart => exact ⟨0, by omega, rfl, World.ownsRow_nil _ _ _ _, Mod.refl _ _⟩
  case round =>
    obtain ⟨k, hk, rfl, own, hmr⟩ := hrel
    by_cases hlt : k < m
    · have hi0 : (0 : Int) ≤ (k : Int) := by omega
      have hi1 : (k : Int) < (m : Int) := by omega
      have hb4 : 4 * k + 4 ≤ s.size := by have := HM.out; omega
      have hb5 : (4 * (k : Int) + 4) ≤ ((s.size : Nat) : Int) := by omega
      have HL := Lib.hid (wordsL_succ false s k)
      have hm10 : m ≤ 25000 := by have := HM.out; omega
      obtain ⟨C, W1, hcv, m1, hs1, b0, b1, b2, b3⟩ := conv4 s k wr hb4
      have harr : ∀ W, (Instr.arrayAt 41 (.slice (some ⟨wr.heap.size, 0, none⟩) 4 C)).run Try.prog W = .ok (.pointer (some ⟨wr.heap.size, 0, none⟩)) W := fun W => by kernel_rfl
      go_wp2_with fail
      refine (small4 _ _ _ _ (byteAt_lt _ _) (byteAt_lt _ _) (byteAt_lt _ _) (byteAt_lt _ _) _).mono ?_
      rintro e w2 ⟨rfl, m2⟩
      have own2 := own_mod (m1.tr m2) own (fun _ _ e => e)
      have hm2 := (hmr.tr m1).tr m2
      have hw2 := hm2.size
      rw [show be4 (byteAt s (4 * k + 3)) (byteAt s (4 * k + 2)) (byteAt s (4 * k + 1)) (byteAt s (4 * k)) = wordAt false s k from rfl]
      clear own hmr m1 m2 b0 b1 b2 b3 hcv harr hs1
      generalize wordAt false s k = x at *
      go_wp2_with (at_builtin; refine wpList_append_own _ rfl (.tmp 18) (.tmp 31) 26 rfl w.heap.size 3 i0 (.int .i64 0) 1 8 Try.underlying26 hi hz0 hz1 hz2 rfl (by decide) _ _ _ rfl (own2.alloc _) ⟨w2.heap.size, 0, none⟩ 1 1 [.int .i64 (x : Int)] rfl rfl ?c1 ?c2 ?c3 ?c4 ?c5 ?_)
      case c1 =>
        intro j u hj
        match j, hj with
        | 0, hj => simp at hj; subst hj; simp [Addr.add]
      case c2 => intro u hu; simp at hu; subst hu; rfl
      case c3 => unfold maxLen; omega
      case c4 => omega
      case c5 => simp; omega
      intro v' w3 hown hgrow _
      have hm3 := own_grown (hm2.alloc _) (own2.alloc (.cells #[.int .i64 (x : Int)] 3)) hgrow
      rw [← HL.out] at hown
      clear own2 hgrow hm2
      go_wp2_with fail
      go_roundw
      case rel => exact ⟨k + 1, by omega, by go_num, hown, hm3⟩
      case measure => simp [intOf]; omega
    · obtain rfl : k = m := by omega
      go_wp2_with fail
      go_ret2
      exact ⟨_, rfl, own, hmr⟩
theorem words_bad (s : ByteArray) (w : World) (f : Value) (hm : s.size % 4 ≠ 0) (hs : s.size ≤ 100000) :
    Calls Try.prog 30 #[.string s, f] w fun e w' => e = .returned (.tuple #[.slice none 0 0, .int .i64 1]) ∧ w = w' := by
  have hr : (((s.size : Nat) : Int) % 4 != 0) = true := by rw [bne_iff_ne]; omega
  go_enter Try.func30, Try.ntmps30
  go_wp2_with fail
  go_ret2
  exact ⟨rfl, rfl⟩
end Go.Proofs.Ytbmeejopfcpoaaa
