/- A block of the stream: plain words for both sides. A block of the stream on both sides. -/
import Derived.Test.YtpnpmploaaenlaaMSn
namespace Go.Proofs.Ytpnpmploaaenlaa
open Go.RowKit
set_option linter.unusedSimpArgs false
set_option linter.unusedVariables false
def ctrS (ctr : Nat) : ByteArray := ⟨(Wd.putS (fun _ => (ctr : Int)) 1).toArray⟩
def initT (key nonce : ByteArray) (ctr : Nat) : ByteArray := head16 ++ key ++ ctrS ctr ++ nonce
abbrev wordS (s : ByteArray) (k : Nat) : Nat := Wd.wordAt false s k
theorem wordS_lt (s : ByteArray) (k : Nat) : wordS s k < 4294967296 := by
  have h0 := byteAt_lt s (4 * k); have h1 := byteAt_lt s (4 * k + 1); have h2 := byteAt_lt s (4 * k + 2); have h3 := byteAt_lt s (4 * k + 3)
  show Wd.be4 _ _ _ _ < _
  unfold Wd.be4
  have h0 : Wd.byteAt s (4 * k) < 256 := h0
  have h1 : Wd.byteAt s (4 * k + 1) < 256 := h1
  have h2 : Wd.byteAt s (4 * k + 2) < 256 := h2
  have h3 : Wd.byteAt s (4 * k + 3) < 256 := h3
  omega
def chX (key nonce : ByteArray) (ctr : Nat) : Nat → Nat → Nat
  | 0 => wordS (initT key nonce ctr)
  | k + 1 => dblQ QR (chX key nonce ctr k)
theorem dblQ_lt (x : Nat → Nat) (hx : ∀ k, x k < 4294967296) : ∀ k, dblQ QR x k < 4294967296 := by
  unfold dblQ
  exact QR_lt _ (QR_lt _ (QR_lt _ (QR_lt _ (QR_lt _ (QR_lt _ (QR_lt _ (QR_lt _ hx _ _ _ _) _ _ _ _) _ _ _ _) _ _ _ _) _ _ _ _) _ _ _ _) _ _ _ _) _ _ _ _
theorem chX_lt (key nonce : ByteArray) (ctr : Nat) (k : Nat) : ∀ j, chX key nonce ctr k j < 4294967296 := by
  induction k with
  | zero => exact wordS_lt _
  | succ k ih => exact dblQ_lt _ ih
def blkZ (key nonce : ByteArray) (ctr : Nat) (k : Nat) : Nat := wordS (initT key nonce ctr) k + chX key nonce ctr 10 k
def blkL (key nonce : ByteArray) (ctr : Nat) : List UInt8 := Wd.putS (fun j => (blkZ key nonce ctr j : Int)) 16
theorem putS_len (z : Nat → Int) (n : Nat) : (Wd.putS z n).length = 4 * n := by
  induction n with
  | zero => rfl
  | succ n ih =>
    have : Wd.putS z (n + 1) = Wd.putS z n ++ (Wd.b4 (z n)).reverse := by unfold Wd.putS; rw [List.range_succ, List.flatMap_append]; simp
    rw [this, List.length_append, ih]; show 4 * n + 4 = _; omega
theorem putS_at (z : Nat → Int) (n k i : Nat) (hk : k < n) (hi : i < 4) : (Wd.putS z n).getD (4 * k + i) 0 = (Wd.b4 (z k)).reverse.getD i 0 := by
  induction n with
  | zero => omega
  | succ n ih =>
    have e : Wd.putS z (n + 1) = Wd.putS z n ++ (Wd.b4 (z n)).reverse := by unfold Wd.putS; rw [List.range_succ, List.flatMap_append]; simp
    rw [e]
    by_cases h : k < n
    · rw [← ih h, List.getD_eq_getElem?_getD, List.getD_eq_getElem?_getD, List.getElem?_append_left (by rw [putS_len]; omega)]
    · obtain rfl : k = n := by omega
      rw [List.getD_eq_getElem?_getD, List.getD_eq_getElem?_getD, List.getElem?_append_right (by rw [putS_len]; omega), putS_len, Nat.add_sub_cancel_left]
theorem ctrS_size (ctr : Nat) : (ctrS ctr).size = 4 := by
  show (Wd.putS _ 1).toArray.size = 4
  rw [List.size_toArray, putS_len]
theorem ctrS_word (ctr : Nat) (h : ctr < 4294967296) : wordS (ctrS ctr) 0 = ctr := by
  have e : ∀ i, i < 4 → Wd.byteAt (ctrS ctr) i = ((Wd.b4 (ctr : Int)).reverse.getD i 0).toNat := by
    intro i hi
    have := putS_at (fun _ => (ctr : Int)) 1 0 i (by decide) hi
    rw [Nat.mul_zero, Nat.zero_add] at this
    show ((Wd.putS (fun _ => (ctr : Int)) 1).getD i 0).toNat = _
    rw [this]
  show Wd.be4 (Wd.byteAt _ 3) (Wd.byteAt _ 2) (Wd.byteAt _ 1) (Wd.byteAt _ 0) = ctr
  rw [e 3 (by decide), e 2 (by decide), e 1 (by decide), e 0 (by decide)]
  unfold Wd.b4 Wd.be4
  rw [wordN_nat _ h]
  simp
  omega
theorem ba_l (a b : ByteArray) (j : Nat) (h : j < a.size) : Wd.byteAt (a ++ b) j = Wd.byteAt a j := byteAt_append_left a b j h
theorem ba_r (a b : ByteArray) (j : Nat) (h : a.size ≤ j) : Wd.byteAt (a ++ b) j = Wd.byteAt b (j - a.size) := byteAt_append_right a b j h
theorem ba_e (b : ByteArray) (i j k : Nat) (h : i + k < j) : Wd.byteAt (b.extract i j) k = Wd.byteAt b (i + k) := ext_byte b i j k h
theorem head16_size : head16.size = 16 := rfl
theorem init_h (key nonce : ByteArray) (ctr j : Nat) (h : j < 16) : Wd.byteAt (initT key nonce ctr) j = Wd.byteAt head16 j := by
  unfold initT
  rw [ba_l _ _ _ (by rw [ByteArray.size_append, ByteArray.size_append, head16_size]; omega), ba_l _ _ _ (by rw [ByteArray.size_append, head16_size]; omega), ba_l _ _ _ (by rw [head16_size]; omega)]
theorem init_k (key nonce : ByteArray) (ctr j : Nat) (hk : key.size = 32) (h : j < 32) : Wd.byteAt (initT key nonce ctr) (16 + j) = Wd.byteAt key j := by
  unfold initT
  rw [ba_l _ _ _ (by rw [ByteArray.size_append, ByteArray.size_append, head16_size]; omega), ba_l _ _ _ (by rw [ByteArray.size_append, head16_size]; omega), ba_r _ _ _ (by rw [head16_size]; omega), head16_size, Nat.add_sub_cancel_left]
theorem init_c (key nonce : ByteArray) (ctr j : Nat) (hk : key.size = 32) (h : j < 4) : Wd.byteAt (initT key nonce ctr) (48 + j) = Wd.byteAt (ctrS ctr) j := by
  unfold initT
  rw [ba_l _ _ _ (by rw [ByteArray.size_append, ByteArray.size_append, head16_size, ctrS_size]; omega), ba_r _ _ _ (by rw [ByteArray.size_append, head16_size]; omega), ByteArray.size_append, head16_size, hk, show 48 + j - (16 + 32) = j by omega]
theorem init_n (key nonce : ByteArray) (ctr j : Nat) (hk : key.size = 32) : Wd.byteAt (initT key nonce ctr) (52 + j) = Wd.byteAt nonce j := by
  unfold initT
  rw [ba_r _ _ _ (by rw [ByteArray.size_append, ByteArray.size_append, head16_size, ctrS_size]; omega), ByteArray.size_append, ByteArray.size_append, head16_size, ctrS_size, hk, show 52 + j - (16 + 32 + 4) = j by omega]
theorem small_w (s T : ByteArray) (k : Nat) (hs : 4 ≤ s.size) (h : ∀ r, r < 4 → Wd.byteAt s r = Wd.byteAt T (4 * k + r)) (w : World) :
    Calls Try.prog 37 #[.string s] w fun e w' => e = .returned (.int .u32 (wordS T k : Int)) ∧ ∃ n, w' = w.drewN n := by
  refine (small_any s hs w).mono ?_
  rintro e w' ⟨rfl, n, rfl⟩
  refine ⟨?_, n, rfl⟩
  have e : Wd.be4 (Wd.byteAt s 3) (Wd.byteAt s 2) (Wd.byteAt s 1) (Wd.byteAt s 0) = wordS T k := by
    rw [h 3 (by decide), h 2 (by decide), h 1 (by decide), h 0 (by decide)]; rfl
  exact congrArg (fun x : Nat => Ending.returned (.int .u32 (x : Int))) e
theorem wordN_mod (n : Nat) : Wd.wordN (n : Int) = n % 4294967296 := by unfold Wd.wordN; omega
theorem b4r (n : Nat) : (Wd.b4 (n : Int)).reverse = [UInt8.ofNat (n % 4294967296), UInt8.ofNat (n % 4294967296 / 256), UInt8.ofNat (n % 4294967296 / 65536), UInt8.ofNat (n % 4294967296 / 16777216)] := by
  unfold Wd.b4
  rw [wordN_mod]
  simp only [List.reverse_cons, List.reverse_nil, List.nil_append, List.cons_append]
theorem sum_m (a b : Nat) : ((a : Int) + (b : Int)) % 4294967296 = (((b + a) % 4294967296 : Nat) : Int) := by omega
theorem p_blk (key nonce : ByteArray) (ctr : Nat) (hk : key.size = 32) (hn : nonce.size = 12) (hc : ctr < 4294967296) :
    PBlk QR (chX key nonce ctr) (wordS (initT key nonce ctr)) key nonce ctr (fun k => blkZ key nonce ctr k % 4294967296) (blkL key nonce ctr) where
  q := fun x a b c d hx => ⟨_, _, _, _, quarter_any _ _ _ _ (hx a) (hx b) (hx c) (hx d), rfl⟩
  ql := fun x a b c d hx => QR_lt x hx a b c d
  x0 := rfl
  x1 := fun k => by show dblQ QR _ = _; rw [dbl_eq]
  wl := wordS_lt _
  xl := chX_lt key nonce ctr
  h := fun k hk4 w => small_w _ _ k (by show 4 ≤ (head16.extract (4 * k) 16).size; rw [ByteArray.size_extract, head16_size]; omega) (fun r hr => by
    show Wd.byteAt (head16.extract (4 * k) 16) r = _
    rw [ba_e _ _ _ _ (by omega), init_h _ _ _ _ (by omega)]) w
  k := fun k hk8 w => small_w _ _ (4 + k) (by rw [ByteArray.size_extract]; omega) (fun r hr => by
    rw [ba_e _ _ _ _ (by omega), show 4 * (4 + k) + r = 16 + (4 * k + r) by omega, init_k _ _ _ _ hk (by omega)]) w
  n := fun k hk3 w => small_w _ _ (13 + k) (by rw [ByteArray.size_extract]; omega) (fun r hr => by
    rw [ba_e _ _ _ _ (by omega), show 4 * (13 + k) + r = 52 + (4 * k + r) by omega, init_n _ _ _ _ hk]) w
  c := by
    rw [← ctrS_word ctr hc]
    show Wd.be4 (Wd.byteAt _ (48 + 3)) (Wd.byteAt _ (48 + 2)) (Wd.byteAt _ (48 + 1)) (Wd.byteAt _ (48 + 0)) = Wd.be4 (Wd.byteAt _ 3) (Wd.byteAt _ 2) (Wd.byteAt _ 1) (Wd.byteAt _ 0)
    rw [ctrS_word ctr hc, init_c _ _ _ _ hk (by decide), init_c _ _ _ _ hk (by decide), init_c _ _ _ _ hk (by decide), init_c _ _ _ _ hk (by decide)]
  ks := hk
  ns := hn
  cl := hc
  a := fun k => sum_m _ _
  al := fun k => Nat.mod_lt _ (by decide)
  bl0 := fun k hk => by
    have := putS_at (fun j => (blkZ key nonce ctr j : Int)) 16 k 0 hk (by decide)
    rw [b4r] at this
    exact this
  bl1 := fun k hk => by
    have := putS_at (fun j => (blkZ key nonce ctr j : Int)) 16 k 1 hk (by decide)
    rw [b4r] at this
    exact this
  bl2 := fun k hk => by
    have := putS_at (fun j => (blkZ key nonce ctr j : Int)) 16 k 2 hk (by decide)
    rw [b4r] at this
    exact this
  bl3 := fun k hk => by
    have := putS_at (fun j => (blkZ key nonce ctr j : Int)) 16 k 3 hk (by decide)
    rw [b4r] at this
    exact this
end Go.Proofs.Ytpnpmploaaenlaa
namespace Go.Proofs.Ytpnpmploaaenlaa
open Go.RowKit
set_option linter.unusedSimpArgs false
set_option linter.unusedVariables false
theorem pblk_any (key nonce : ByteArray) (ctr : Nat) (hk : key.size = 32) (hn : nonce.size = 12) (hc : ctr < 4294967296) (w : World) :
    Calls Try.prog 22 #[.string key, .string nonce, .int .i64 (ctr : Int)] w fun e w' => e = .returned (.agg (rowB (blkL key nonce ctr) 64)) ∧ Mod (fun _ => False) w w' :=
  pblk_walk _ _ _ key nonce ctr _ _ (p_blk key nonce ctr hk hn hc) w
set_option maxHeartbeats 2000000 in
theorem may_any (key nonce : ByteArray) (ctr : Nat) (hk : key.size = 32) (hn : nonce.size = 12) (hc : ctr < 4294967296) (w : World) :
    Calls Try.prog 21 #[.string key, .string nonce, .int .i64 (ctr : Int)] w fun e w' => e = .returned (.bool true) ∧ w' = w := by
  have h0 : (0 : Int) ≤ (ctr : Int) := by omega
  have h1 : (ctr : Int) < 4294967296 := by omega
  go_enter Try.func21, Try.ntmps21
  go_wp2_with fail
  go_ret
  exact ⟨rfl, rfl⟩
theorem rowB_str (w : World) (g : Nat) (L : List UInt8) (hL : L.length = 64) (h : UB w g L 64) : (convert 33 9 (.slice (some ⟨g, 0, none⟩) 64 64)).run Try.prog w = .ok (.string ⟨L.toArray⟩) w := by
  have hrow : Ytpnpmploaaenlaa.Row w g L.length (fun j => L.getD j 0) := by
    rw [hL]
    refine ⟨rowB L 64, 42, (0, 0), h, .inr rfl, by rw [rowB_size]; exact Nat.le_refl _, fun j hj => ?_⟩
    rw [rowB_get L 64 j hj, tx_lo L hj]
  have := hrow.str 64
  rw [hL] at this
  exact this
set_option maxRecDepth 100000 in
set_option maxHeartbeats 2000000 in
theorem block_walk (key nonce : ByteArray) (ctr : Nat) (L : List UInt8) (hL : L.length = 64) (hm : ∀ w, Calls Try.prog 21 #[.string key, .string nonce, .int .i64 (ctr : Int)] w fun e w' => e = .returned (.bool true) ∧ w' = w)
    (hb : ∀ w, Calls Try.prog 22 #[.string key, .string nonce, .int .i64 (ctr : Int)] w fun e w' => e = .returned (.agg (rowB L 64)) ∧ Mod (fun _ => False) w w') (w : World) :
    Calls Try.prog 23 #[.string key, .string nonce, .int .i64 (ctr : Int)] w fun e w' => e = .returned (.tuple #[.string ⟨L.toArray⟩, .int .i64 0]) ∧ Mod (fun _ => False) w w' := by
  have H1 := Lib.hid hm
  have H2 := Lib.hid hb
  clear hm hb
  go_enter Try.func23, Try.ntmps23
  go_upto_region 4 with (first | (go_at_call 21; refine (H1.out _).mono ?_; rintro e w' ⟨rfl, rfl⟩) | (go_at_call 22; refine (H2.out _).mono ?_; rintro e w1 ⟨rfl, hm1⟩) | (refine wpList_store_row rfl 42 (.tmp 8) (.tmp 17) rfl _ (rowB L 64) rfl rfl _ (rowB L 0) (new_block _ _ 42 _ rfl) (by kernel_rfl) (by rw [rowB_size, rowB_size]) (rowB_one L 64) ?_))
  rw [zeroB L]
  have HU := Lib.hid (show UB ((w1.alloc (.cells (rowB L 0) 42)).setRow w1.heap.size (rowB L 64)) w1.heap.size L 64 from setRow_heap _ _ _ _ _ _ (new_block w1 _ 42 _ rfl))
  have HMM := Lib.hid ((hm1.alloc (.cells (rowB L 0) 42)).row (g := w1.heap.size) (fun hh => absurd hh (by have := hm1.size; omega)) (rowB L 64))
  have hst := rowB_str _ _ L hL HU.out
  generalize (w1.alloc (.cells (rowB L 0) 42)).setRow w1.heap.size (rowB L 64) = W1 at HU HMM hst ⊢
  clear hm1
  try go_frame
  go_wp2_with fail
  go_ret2
  exact ⟨rfl, HMM.out⟩
theorem block_any (key nonce : ByteArray) (ctr : Nat) (hk : key.size = 32) (hn : nonce.size = 12) (hc : ctr < 4294967296) (w : World) :
    Calls Try.prog 23 #[.string key, .string nonce, .int .i64 (ctr : Int)] w fun e w' => e = .returned (.tuple #[.string ⟨(blkL key nonce ctr).toArray⟩, .int .i64 0]) ∧ Mod (fun _ => False) w w' :=
  block_walk key nonce ctr _ (by unfold blkL; rw [putS_len]) (may_any key nonce ctr hk hn hc) (pblk_any key nonce ctr hk hn hc) w
open Wd in
theorem rsmall_dg (s : ByteArray) (w : World) (hs : s.size ≤ 100000) (m : Nat) (hm : s.size = 4 * m) (h0 : 0 < m) :
    Calls Try.prog 46 #[.string s] w fun e w' => (∃ g c, e = .returned (.tuple #[.slice (some ⟨g, 0, none⟩) m c, .int .i64 0]) ∧ Dg w' g m (wordS s)) ∧ Mod (fun _ => False) w w' := by
  have hr : (((s.size : Nat) : Int) % 4 != 0) = false := by rw [bne_eq_false_iff_eq]; omega
  have HM := Lib.hid hm
  clear hm
  go_enter Try.func46, Try.ntmps46
  go_wp2_with fail
  refine (Wd.turned_any s _ hs m HM.out).mono ?_
  rintro e w1 ⟨rfl, m1⟩
  go_wp2_with fail
  refine (rbig_dg _ _ (by rw [rev4_size]; have := HM.out; omega) m (rev4_size s m) h0 (wordS s) (fun j hj => turned_word s m j hj)).mono ?_
  rintro e w2 ⟨⟨g, c, rfl, _, hd⟩, m2⟩
  have HI := Lib.hid hd
  clear hd
  go_wp2_with fail
  go_ret2
  exact ⟨⟨g, c, rfl, HI.out⟩, m1.tr m2⟩
theorem r_blk (key nonce : ByteArray) (ctr : Nat) : RBlk QR (chX key nonce ctr) (wordS (initT key nonce ctr)) (blkZ key nonce ctr) where
  rc := round_any
  x0 := rfl
  x1 := fun _ => rfl
  wl := wordS_lt _
  z := fun _ => rfl
theorem initT_size (key nonce : ByteArray) (ctr : Nat) (hk : key.size = 32) (hn : nonce.size = 12) : (initT key nonce ctr).size = 64 := by
  unfold initT
  rw [ByteArray.size_append, ByteArray.size_append, ByteArray.size_append, head16_size, ctrS_size, hk, hn]
theorem rblk_any (key nonce : ByteArray) (ctr : Nat) (hk : key.size = 32) (hn : nonce.size = 12) (hc : ctr < 4294967296) (w : World) :
    Calls Try.prog 27 #[.string key, .string nonce, .int .i64 (ctr : Int)] w fun e w' => e = .returned (.tuple #[.string ⟨(blkL key nonce ctr).toArray⟩, .int .i64 0]) ∧ Mod (fun _ => False) w w' :=
  rblk_walk QR _ _ _ (r_blk key nonce ctr) key nonce (ctrS ctr) (initT key nonce ctr) ctr hk hn hc (fun w => Wd.rputsmall_any _ 1 1 (fun _ => (ctr : Int)) _ (by decide) (Wd.one_ints w (ctr : Int))) (ctrS_size ctr) rfl
    (fun w => rsmall_dg _ w (by rw [initT_size key nonce ctr hk hn]; decide) 16 (initT_size key nonce ctr hk hn) (by decide)) w
end Go.Proofs.Ytpnpmploaaenlaa
