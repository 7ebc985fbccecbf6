/- A step of the sum: the walk. -/
import Derived.Test.YtpnpmploaaenlaaMS2
import Derived.StillTailTactics
namespace Go.Proofs.Ytpnpmploaaenlaa
open Go.RowKit Wd
set_option linter.unusedSimpArgs false
set_option linter.unusedVariables false

theorem wp_still_tail {P : Program} {id : Nat} {Q : Exit → Act → World → Prop} {a : Act} {w : World} {l : List Oper} (n : Nat) (w2 : World) (e : w.drew = w2) (hm : P.follows .mixedOrders = true) (hB : Region.lexTailB .any l.toArray n = true)
    (h : wpStill P l.toArray w2 (fun a' => wpList P l.toArray Q (l.drop n) a' w2) (l.take n) a) : (Code.region id l.toArray true).wp P Q a w := by
  subst e
  exact wp_region_still_tail n hm hB h
theorem wp_still_all {P : Program} {id : Nat} {Q : Exit → Act → World → Prop} {a : Act} {w : World} {l : List Oper} (w2 : World) (e : w.drew = w2) (hm : P.follows .mixedOrders = true) (hB : Region.lexB .any l.toArray = true)
    (h : wpStill P l.toArray w2 (fun a' => Q .normal a' w2) l a) : (Code.region id l.toArray true).wp P Q a w := by
  subst e
  exact wp_region_still_lit hm hB h
theorem xor_lt32 {a b : Nat} (ha : a < 4294967296) (hb : b < 4294967296) : a ^^^ b < 4294967296 := Nat.xor_lt_two_pow (n := 32) ha hb
theorem xor3_val (x a b c : Nat) (hx : x < 4294967296) (hc : 0 < c) : bits BinOp.xor IntKind.u32 (bits BinOp.xor IntKind.u32 (rotN x a : Int) (rotN x b : Int)) ((x : Int) / (c : Int)) = ((rotN x a ^^^ rotN x b ^^^ x / c : Nat) : Int) := by
  rw [u32_xor_nat _ _ (rotN_lt x a hx) (rotN_lt x b hx), show (x : Int) / (c : Int) = ((x / c : Nat) : Int) by simp, u32_xor_nat _ _ (xor_lt32 (rotN_lt x a hx) (rotN_lt x b hx)) (Nat.lt_of_le_of_lt (Nat.div_le_self _ _) hx)]
theorem sg0_val (x : Nat) (hx : x < 4294967296) : bits BinOp.xor IntKind.u32 (bits BinOp.xor IntKind.u32 (rotN x 25 : Int) (rotN x 14 : Int)) ((x : Int) / 8) = ((sg0 x : Nat) : Int) := xor3_val x 25 14 8 hx (by decide)
theorem sg1_val (x : Nat) (hx : x < 4294967296) : bits BinOp.xor IntKind.u32 (bits BinOp.xor IntKind.u32 (rotN x 15 : Int) (rotN x 13 : Int)) ((x : Int) / 1024) = ((sg1 x : Nat) : Int) := xor3_val x 15 13 1024 hx (by decide)
theorem right_m (X : Nat) (hX : X < 4294967296) (n : Int) (m : Nat) (h1 : 1 ≤ n ∧ n ≤ 31) (hm : 32 - n.toNat = m) (w : World) :
    Calls Try.prog 87 #[.int .u32 (X : Int), .int .i64 n] w fun e w' => e = .returned (.int .u32 (rotN X m : Nat)) ∧ w' = w := by
  have := right_any X n.toNat hX (by omega) (by omega) w
  rw [show ((n.toNat : Nat) : Int) = n by omega, hm] at this
  exact this
theorem U.drewN {ty n : Nat} {w : World} {g : Nat} {f : Nat → Nat} (h : U ty n w g f) (m : Nat) : U ty n (w.drewN m) g f := h
def schZ (X : Nat → Nat) (k : Nat) : Nat → Nat := fun j => if j < k then X j else 0
theorem schZ_lo (X : Nat → Nat) {k j : Nat} (h : j < k) : schZ X k j = X j := by unfold schZ; rw [if_pos h]
theorem schZ_hi (X : Nat → Nat) {k j : Nat} (h : ¬ j < k) : schZ X k j = 0 := by unfold schZ; rw [if_neg h]
theorem schZ_upd (X : Nat → Nat) (k : Nat) (j : Nat) : upd (schZ X k) k (X k) j = schZ X (k + 1) j := by
  unfold upd
  by_cases e : j = k
  · subst e; rw [if_pos rfl, schZ_lo _ (by omega)]
  · rw [if_neg e]
    by_cases e2 : j < k
    · rw [schZ_lo _ e2, schZ_lo _ (by omega)]
    · rw [schZ_hi _ e2, schZ_hi _ (by omega)]
theorem sch_val (x0 x1 x9 x14 : Nat) (l1 : x1 < 4294967296) (l14 : x14 < 4294967296) : ((x0 : Int) + bits BinOp.xor IntKind.u32 (bits BinOp.xor IntKind.u32 (rotN x1 25 : Int) (rotN x1 14 : Int)) ((x1 : Int) / 8) + (x9 : Int) + bits BinOp.xor IntKind.u32 (bits BinOp.xor IntKind.u32 (rotN x14 15 : Int) (rotN x14 13 : Int)) ((x14 : Int) / 1024)) % 4294967296 = (((x0 + sg0 x1 + x9 + sg1 x14) % 4294967296 : Nat) : Int) := by
  rw [sg0_val x1 l1, sg1_val x14 l14]
  generalize sg0 x1 = A
  generalize sg1 x14 = B
  omega
structure StepWord (h : Nat → Nat) (b : ByteArray) (R X K : Nat → Nat) (Y : Nat → Nat → Nat) : Prop where
  hl : ∀ j, h j < 4294967296
  kl : ∀ j, K j < 4294967296
  xl : ∀ j, X j < 4294967296
  x0 : ∀ k, k < 16 → X k = wordAt true b k
  x1 : ∀ k m, k = m + 16 → X k = (X m + sg0 (X (m + 1)) + X (m + 9) + sg1 (X (m + 14))) % 4294967296
  y0 : Y 0 = h
  y1 : ∀ k, Y (k + 1) = rnd (Y k) (K k) (X k)
  yl : ∀ k j, Y k j < 4294967296
  r : ∀ j, R j = (h j + Y 64 j) % 4294967296
theorem sched_low (b : Nat → Nat) (k : Nat) (h : k < 16) : sched b k = b k := by unfold sched; rw [dif_pos h]
theorem sched_high (b : Nat → Nat) (k : Nat) (h : 16 ≤ k) : sched b k = (sched b (k - 16) + sg0 (sched b (k - 15)) + sched b (k - 7) + sg1 (sched b (k - 2))) % 4294967296 := by
  rw [sched, dif_neg (by omega)]
theorem tail_word (b : ByteArray) (k : Nat) (h : 4 * k + 4 ≤ b.size) : be4 (byteAt (b.extract (4 * k) b.size) 0) (byteAt (b.extract (4 * k) b.size) 1) (byteAt (b.extract (4 * k) b.size) 2) (byteAt (b.extract (4 * k) b.size) 3) = wordAt true b k := by
  have hc : ∀ j, j < 4 → byteAt (b.extract (4 * k) b.size) j = byteAt b (4 * k + j) := by
    intro j hj
    have e : (Wd.bytes (b.extract (4 * k) b.size)).getD j 0 = (Wd.bytes b).getD (4 * k + j) 0 := by
      unfold Wd.bytes
      simp [List.getD_eq_getElem?_getD, List.getElem?_take, List.getElem?_drop]
      rw [if_pos (by omega)]
    unfold byteAt
    rw [e]
  rw [hc 0 (by omega), hc 1 (by omega), hc 2 (by omega), hc 3 (by omega)]
  rfl
theorem wordAt_lt (s : ByteArray) (k : Nat) : wordAt true s k < 4294967296 := by
  have h0 := byteAt_lt s (4 * k); have h1 := byteAt_lt s (4 * k + 1); have h2 := byteAt_lt s (4 * k + 2); have h3 := byteAt_lt s (4 * k + 3)
  show be4 _ _ _ _ < _
  unfold be4; omega
def sums (h V : Nat → Nat) (k j : Nat) : Nat := if j < k then (h j + V j) % 4294967296 else h j
theorem sums_lo (h V : Nat → Nat) {k j : Nat} (hj : j < k) : sums h V k j = (h j + V j) % 4294967296 := by unfold sums; rw [if_pos hj]
theorem sums_hi (h V : Nat → Nat) {k j : Nat} (hj : ¬ j < k) : sums h V k j = h j := by unfold sums; rw [if_neg hj]
theorem sums_upd (h V : Nat → Nat) (k : Nat) (j : Nat) : upd (sums h V k) k ((h k + V k) % 4294967296) j = sums h V (k + 1) j := by
  unfold upd
  by_cases e : j = k
  · subst e; rw [if_pos rfl, sums_lo h V (by omega)]
  · rw [if_neg e]
    by_cases e2 : j < k
    · rw [sums_lo h V e2, sums_lo h V (by omega)]
    · rw [sums_hi h V e2, sums_hi h V (by omega)]
set_option maxRecDepth 100000 in
set_option maxHeartbeats 4000000 in
theorem step_walk (h : Nat → Nat) (b : ByteArray) (R X K : Nat → Nat) (Y : Nat → Nat → Nat) (hS : StepWord h b R X K Y) (gc : Nat) (hb : b.size = 64) (w : World) (hc : U 80 64 w gc K) :
    Calls Try.prog 64 #[.agg (rowV 8 h), .pointer (some ⟨gc, 0, none⟩), .string b] w fun e w' => e = .returned (.agg (rowV 8 R)) ∧ Mod (fun _ => False) w w' := by
  have HH := Lib.hid hS
  have HB := Lib.hid hb
  have HC := Lib.hid hc
  have hgc := hc.lt
  clear hS hb hc
  go_enter Try.func64, Try.ntmps64
  go_upto_region 2 with (fail)
  rw [zero64, zero8]
  obtain ⟨W, hW⟩ : ∃ W, W = ((w.alloc (.cells (rowV 8 h) 83)).alloc (.cells (rowV 8 fun _ => 0) 83)).alloc (.cells (rowV 64 fun _ => 0) 80) := ⟨_, rfl⟩
  have HG : Hid (U 83 8 W w.heap.size h ∧ U 83 8 W (w.heap.size + 1) (fun _ => 0) ∧ U 80 64 W (w.heap.size + 1 + 1) (fun _ => 0) ∧ U 80 64 W gc K ∧ Mod (fun _ => False) w W) := by
    subst hW
    exact ⟨((U.new w h _ rfl).alloc _).alloc _, (U.new _ _ _ (by simp)).alloc _, U.new _ _ _ (by simp), ((HC.out.alloc _).alloc _).alloc _, (((Mod.refl _ w).alloc _).alloc _).alloc _⟩
  rw [← hW]
  clear hW
  go_wp2_with fail
  go_loopw [18] (fun i wr => ∃ k : Nat, k ≤ 64 ∧ i = .int .i64 (k : Int) ∧ U 83 8 wr w.heap.size h ∧ U 83 8 wr (w.heap.size + 1) (fun _ => 0) ∧ U 80 64 wr (w.heap.size + 1 + 1) (schZ X k) ∧ U 80 64 wr gc K ∧ Mod (fun _ => False) w wr) (fun i _ => 64 - (intOf i).toNat)
  case atStart =>
    obtain ⟨n0, n1, n2, n3, hm⟩ := HG.out
    exact ⟨0, by omega, rfl, n0, n1, n2.eq (fun j hj => by rw [schZ_hi X (by omega)]), n3, hm⟩
  case round =>
    obtain ⟨k, hk, rfl, n0, n1, n2, n3, hm⟩ := hrel
    by_cases hlt : k < 64
    · have hi0 : (0 : Int) ≤ (k : Int) := by omega
      have hlt2 : (k : Int) < 64 := by omega
      have HN := Lib.hid (And.intro n0 (And.intro n1 (And.intro n2 (And.intro n3 hm))))
      clear n0 n1 n2 n3 hm HG
      by_cases h16 : k < 16
      · have h162 : (k : Int) < 16 := by omega
        have hX := HN.out.2.2.1.cell k hlt
        have hF := HN.out.2.2.1.free k
        have hs0 : 0 ≤ 4 * (k : Int) := by omega
        have hs1 : 4 * (k : Int) ≤ (b.size : Int) := by have := HB.out; omega
        have hsz : 4 ≤ (b.extract (4 * k) b.size).size := by have := HB.out; simp; omega
        have hval := tail_word b k (by have := HB.out; omega)
        go_wp2_with (go_at_call 86; refine (big_any _ hsz _).mono ?_; rintro e w' ⟨rfl, n, rfl⟩)
        obtain ⟨n0, n1, n2, n3, hm⟩ := HN.out
        have ht := hm.size
        refine ⟨⟨k + 1, by omega, by go_num, (n0.drewN n).other (by simp; omega) _, (n1.drewN n).other (by simp) _, ?_, (n3.drewN n).other (by simp; omega) _, (hm.tr (Mod.drewN wr n)).setCell (fun hh => absurd hh (by simp; omega)) _⟩, by simp [intOf]; omega⟩
        exact ((n2.drewN n).set k _ hlt).eq (fun j _ => by rw [← HH.out.x0 k h16]; exact schZ_upd X k j)
      · obtain ⟨m, hm16⟩ : ∃ m, k = m + 16 := ⟨k - 16, by omega⟩
        obtain ⟨n0, n1, n2, n3, hm⟩ := HN.out
        have c0 := n2.cell m (by omega)
        have c1 := n2.cell (m + 1) (by omega)
        have c9 := n2.cell (m + 9) (by omega)
        have c14 := n2.cell (m + 14) (by omega)
        have hX := n2.cell k hlt
        have hF := n2.free k
        clear n0 n1 n2 n3 hm
        have z : ∀ j, j < k → schZ X k j = X j := fun j hj => by rw [schZ_lo X hj]
        rw [z _ (by omega)] at c0 c1 c9 c14
        clear z
        have hs := HH.out.x1 k m hm16
        have l0 := HH.out.xl m
        have l1 := HH.out.xl (m + 1)
        have l9 := HH.out.xl (m + 9)
        have l14 := HH.out.xl (m + 14)
        have HS := Lib.hid hs
        clear hs
        obtain ⟨x0, hx0⟩ : ∃ x, X m = x := ⟨_, rfl⟩
        rw [hx0] at c0 l0 HS
        clear hx0
        obtain ⟨x1, hx1⟩ : ∃ x, X (m + 1) = x := ⟨_, rfl⟩
        rw [hx1] at c1 l1 HS
        clear hx1
        obtain ⟨x9, hx9⟩ : ∃ x, X (m + 9) = x := ⟨_, rfl⟩
        rw [hx9] at c9 l9 HS
        clear hx9
        obtain ⟨x14, hx14⟩ : ∃ x, X (m + 14) = x := ⟨_, rfl⟩
        rw [hx14] at c14 l14 HS
        clear hx14
        have e15 : (k : Int) - 15 = ((m + 1 : Nat) : Int) := by omega
        have e2 : (k : Int) - 2 = ((m + 14 : Nat) : Int) := by omega
        have e16 : (k : Int) - 16 = ((m : Nat) : Int) := by omega
        have e7 : (k : Int) - 7 = ((m + 9 : Nat) : Int) := by omega
        have hn16 : ¬ ((k : Int) < 16) := by omega
        have b1 : ((m + 1 : Nat) : Int) < 64 := by omega
        have b14 : ((m + 14 : Nat) : Int) < 64 := by omega
        have b0 : ((m : Nat) : Int) < 64 := by omega
        have b9 : (m : Int) + 9 < 64 := by omega
        have p9 : 0 ≤ (m : Int) + 9 := by omega
        have t9 : ((m : Int) + 9).toNat = m + 9 := by omega
        have w15 : IntKind.i64.wrap ((k : Int) - 15) = ((m + 1 : Nat) : Int) := by rw [IntKind.wrap_i64]; omega
        have w2 : IntKind.i64.wrap ((k : Int) - 2) = ((m + 14 : Nat) : Int) := by rw [IntKind.wrap_i64]; omega
        have w16 : IntKind.i64.wrap ((k : Int) - 16) = ((m : Nat) : Int) := by rw [IntKind.wrap_i64]; omega
        have w7 : IntKind.i64.wrap ((k : Int) - 7) = ((m + 9 : Nat) : Int) := by rw [IntKind.wrap_i64]; omega
        have HK := Lib.hid hm16
        clear hm16 e15 e2 e16 e7
        go_wp2_with fail
        go_quiet (fail)
        go_wp2_with fail
        obtain ⟨wd, hwd⟩ : ∃ wd, (wr.drewN nq).drew = wd := ⟨_, rfl⟩
        have HN2 : Hid (U 83 8 wd w.heap.size h ∧ U 83 8 wd (w.heap.size + 1) (fun _ => 0) ∧ U 80 64 wd (w.heap.size + 1 + 1) (schZ X k) ∧ U 80 64 wd gc K ∧ Mod (fun _ => False) w wd) := by
          subst hwd
          obtain ⟨n0, n1, n2, n3, hm⟩ := HN.out
          exact ⟨n0, n1, n2, n3, (hm.tr (Mod.drewN wr nq)).drew⟩
        have c0' : wd.cell? ⟨w.heap.size + 1 + 1, m, none⟩ = some (.int .u32 (x0 : Int)) := by subst hwd; exact c0
        have c9' : wd.cell? ⟨w.heap.size + 1 + 1, m + 9, none⟩ = some (.int .u32 (x9 : Int)) := by subst hwd; exact c9
        have hX' : wd.cell? ⟨w.heap.size + 1 + 1, k, none⟩ = some (.int .u32 (schZ X k k : Int)) := by subst hwd; exact hX
        have hF' : wd.frozen? ⟨w.heap.size + 1 + 1, k, none⟩ = false := by subst hwd; exact hF
        refine wp_still_tail 29 wd hwd (by kernel_rfl) (by kernel_rfl) ?_
        clear hwd HN c0 c1 c9 c14 hX hF
        simp only [List.take_succ_cons, List.take_zero, List.drop_succ_cons, List.drop_zero]
        repeat still_step
        still_call (right_m _ l1 _ 25 (by decide) (by decide) _)
        repeat still_step
        still_call (right_m _ l1 _ 14 (by decide) (by decide) _)
        repeat still_step
        still_call (right_m _ l14 _ 15 (by decide) (by decide) _)
        repeat still_step
        still_call (right_m _ l14 _ 13 (by decide) (by decide) _)
        repeat still_step
        refine wpStill_nil ?_
        go_wp2_with fail
        rw [sch_val x0 x1 x9 x14 l1 l14, ← HS.out]
        obtain ⟨n0, n1, n2, n3, hm⟩ := HN2.out
        have ht := hm.size
        refine ⟨⟨k + 1, by omega, by go_num, n0.other (by simp; omega) _, n1.other (by simp) _, ?_, n3.other (by simp; omega) _, hm.setCell (fun hh => absurd hh (by simp; omega)) _⟩, by simp [intOf]; omega⟩
        exact (n2.set k _ hlt).eq (fun j _ => schZ_upd _ k j)
    · obtain rfl : k = 64 := by omega
      have n2' : U 80 64 wr (w.heap.size + 1 + 1) X := n2.eq (fun j hj => by rw [schZ_lo X hj])
      clear n2 HG
      have HN := Lib.hid (And.intro n0 (And.intro n1 (And.intro n2' (And.intro n3 hm))))
      have HA := Lib.hid n0
      have HZ := Lib.hid (U.new (ty := 83) (n := 8) wr (fun _ => 0) wr.heap.size rfl)
      have hsz := n2'.lt
      clear n0 n1 n2' n3 hm
      go_upto_region 11 with (first | (refine wpList_load_row rfl 83 (.tmp 3) rfl _ rfl _ _ _ _ HA.out Try.underlying83 rfl (by kernel_rfl) ?_) | (refine wpList_store_row rfl 83 (.tmp 11) (.tmp 68) rfl wr.heap.size (rowV 8 h) rfl rfl _ _ HZ.out (by kernel_rfl) rfl (rowV_one 8 h) ?_))
      rw [zero8]
      obtain ⟨W2, hW2⟩ : ∃ W2, W2 = (wr.alloc (.cells (rowV 8 fun _ => 0) 83)).setRow wr.heap.size (rowV 8 h) := ⟨_, rfl⟩
      have HG2 : Hid (U 83 8 W2 w.heap.size h ∧ U 83 8 W2 (w.heap.size + 1) (fun _ => 0) ∧ U 80 64 W2 (w.heap.size + 1 + 1) X ∧ U 80 64 W2 gc K ∧ U 83 8 W2 wr.heap.size h ∧ Mod (fun _ => False) w W2) := by
        subst hW2
        obtain ⟨n0, n1, n2, n3, hm⟩ := HN.out
        exact ⟨(n0.alloc _).rowOther (by omega) _, (n1.alloc _).rowOther (by omega) _, (n2.alloc _).rowOther (by omega) _, (n3.alloc _).rowOther (by omega) _, HZ.out.row h, (hm.alloc _).row (fun hh => absurd hh (by omega)) _⟩
      rw [← hW2]
      obtain ⟨g, hg⟩ : ∃ g, wr.heap.size = g := ⟨_, rfl⟩
      rw [hg] at HG2 hsz ⊢
      clear hW2 HN HA HZ hg
      go_frame
      go_wp2_with fail
      go_loopw [69] (fun i wx => ∃ k : Nat, k ≤ 64 ∧ i = .int .i64 (k : Int) ∧ U 83 8 wx w.heap.size h ∧ U 83 8 wx (w.heap.size + 1) (fun _ => 0) ∧ U 80 64 wx (w.heap.size + 1 + 1) X ∧ U 80 64 wx gc K ∧ U 83 8 wx g (Y k) ∧ Mod (fun _ => False) w wx) (fun i _ => 64 - (intOf i).toNat)
      case atStart => exact ⟨0, by omega, rfl, by rw [HH.out.y0]; exact HG2.out⟩
      case round =>
        obtain ⟨k, hk, rfl, n0, n1, n2, n3, n4, hm⟩ := hrel
        by_cases hlt : k < 64
        · have hi0 : (0 : Int) ≤ (k : Int) := by omega
          have hlt2 : (k : Int) < 64 := by omega
          have v0 := n4.cell 0 (by decide)
          have v1 := n4.cell 1 (by decide)
          have v2 := n4.cell 2 (by decide)
          have v3 := n4.cell 3 (by decide)
          have v4 := n4.cell 4 (by decide)
          have v5 := n4.cell 5 (by decide)
          have v6 := n4.cell 6 (by decide)
          have v7 := n4.cell 7 (by decide)
          have ck := n3.cell k hlt
          have cx := n2.cell k hlt
          have hv := HH.out.yl k
          have HR := Lib.hid (show Y (k + 1) = rnd (Y k) (K k) (X k) from HH.out.y1 k)
          have HN := Lib.hid (And.intro n0 (And.intro n1 (And.intro n2 (And.intro n3 (And.intro n4 hm)))))
          clear n0 n1 n2 n3 n4 hm
          have hsg : (IntKind.u32.signed = true) = False := by simp [IntKind.signed]
          obtain ⟨y, hy⟩ : ∃ y, Y k = y := ⟨_, rfl⟩
          rw [hy] at v0 v1 v2 v3 v4 v5 v6 v7 hv HR HN
          clear hy
          have lX := HH.out.xl k
          have lK := HH.out.kl k
          obtain ⟨XX, hXX⟩ : ∃ x, X k = x := ⟨_, rfl⟩
          rw [hXX] at cx lX HR
          clear hXX
          obtain ⟨KK, hKK⟩ : ∃ x, K k = x := ⟨_, rfl⟩
          rw [hKK] at ck lK HR
          clear hKK
          have y0 := hv 0
          have y1 := hv 1
          have y2 := hv 2
          have y3 := hv 3
          have y4 := hv 4
          have y5 := hv 5
          have y6 := hv 6
          have y7 := hv 7
          clear hv
          go_wp2_with fail
          go_quiet (fail)
          go_wp2_with fail
          obtain ⟨wd, hwd⟩ : ∃ wd, (wr.drewN nq).drew = wd := ⟨_, rfl⟩
          have HN2 : Hid (U 83 8 wd w.heap.size h ∧ U 83 8 wd (w.heap.size + 1) (fun _ => 0) ∧ U 80 64 wd (w.heap.size + 1 + 1) X ∧ U 80 64 wd gc K ∧ U 83 8 wd g y ∧ Mod (fun _ => False) w wd) := by
            subst hwd
            obtain ⟨n0, n1, n2, n3, n4, hm⟩ := HN.out
            exact ⟨n0, n1, n2, n3, n4, (hm.tr (Mod.drewN wr nq)).drew⟩
          have v0' : wd.cell? ⟨g, 0, none⟩ = some (.int .u32 (y 0 : Int)) := by subst hwd; exact v0
          have v1' : wd.cell? ⟨g, 1, none⟩ = some (.int .u32 (y 1 : Int)) := by subst hwd; exact v1
          have v2' : wd.cell? ⟨g, 2, none⟩ = some (.int .u32 (y 2 : Int)) := by subst hwd; exact v2
          have v3' : wd.cell? ⟨g, 3, none⟩ = some (.int .u32 (y 3 : Int)) := by subst hwd; exact v3
          have v4' : wd.cell? ⟨g, 4, none⟩ = some (.int .u32 (y 4 : Int)) := by subst hwd; exact v4
          have v5' : wd.cell? ⟨g, 5, none⟩ = some (.int .u32 (y 5 : Int)) := by subst hwd; exact v5
          have v6' : wd.cell? ⟨g, 6, none⟩ = some (.int .u32 (y 6 : Int)) := by subst hwd; exact v6
          have v7' : wd.cell? ⟨g, 7, none⟩ = some (.int .u32 (y 7 : Int)) := by subst hwd; exact v7
          have ck' : wd.cell? ⟨gc, k, none⟩ = some (.int .u32 (KK : Int)) := by subst hwd; exact ck
          have cx' : wd.cell? ⟨w.heap.size + 1 + 1, k, none⟩ = some (.int .u32 (XX : Int)) := by subst hwd; exact cx
          refine wp_still_all wd hwd (by kernel_rfl) (by kernel_rfl) ?_
          clear hwd HN v0 v1 v2 v3 v4 v5 v6 v7 ck cx
          repeat still_step
          still_call (right_m _ y4 _ 26 (by decide) (by decide) _)
          repeat still_step
          still_call (right_m _ y4 _ 21 (by decide) (by decide) _)
          repeat still_step
          still_call (right_m _ y4 _ 7 (by decide) (by decide) _)
          repeat still_step
          refine wpStill_nil ?_
          go_wp2_with fail
          obtain ⟨we, hwe⟩ : ∃ we, wd.drew = we := ⟨_, rfl⟩
          have HN3 : Hid (U 83 8 we w.heap.size h ∧ U 83 8 we (w.heap.size + 1) (fun _ => 0) ∧ U 80 64 we (w.heap.size + 1 + 1) X ∧ U 80 64 we gc K ∧ U 83 8 we g y ∧ Mod (fun _ => False) w we) := by
            subst hwe
            obtain ⟨n0, n1, n2, n3, n4, hm⟩ := HN2.out
            exact ⟨n0, n1, n2, n3, n4, hm.drew⟩
          have u0 : we.cell? ⟨g, 0, none⟩ = some (.int .u32 (y 0 : Int)) := by subst hwe; exact v0'
          have u1 : we.cell? ⟨g, 1, none⟩ = some (.int .u32 (y 1 : Int)) := by subst hwe; exact v1'
          have u2 : we.cell? ⟨g, 2, none⟩ = some (.int .u32 (y 2 : Int)) := by subst hwe; exact v2'
          have u3 : we.cell? ⟨g, 3, none⟩ = some (.int .u32 (y 3 : Int)) := by subst hwe; exact v3'
          have u4 : we.cell? ⟨g, 4, none⟩ = some (.int .u32 (y 4 : Int)) := by subst hwe; exact v4'
          have u5 : we.cell? ⟨g, 5, none⟩ = some (.int .u32 (y 5 : Int)) := by subst hwe; exact v5'
          have u6 : we.cell? ⟨g, 6, none⟩ = some (.int .u32 (y 6 : Int)) := by subst hwe; exact v6'
          have u7 : we.cell? ⟨g, 7, none⟩ = some (.int .u32 (y 7 : Int)) := by subst hwe; exact v7'
          refine wp_still_all we hwe (by kernel_rfl) (by kernel_rfl) ?_
          clear hwe HN2 v0' v1' v2' v3' v4' v5' v6' v7' ck' cx'
          repeat still_step
          still_call (right_m _ y0 _ 30 (by decide) (by decide) _)
          repeat still_step
          still_call (right_m _ y0 _ 19 (by decide) (by decide) _)
          repeat still_step
          still_call (right_m _ y0 _ 10 (by decide) (by decide) _)
          repeat still_step
          refine wpStill_nil ?_
          rw [t_val y KK XX y4 y5 y6, u_val y y0 y1 y2]
          have H4 := Lib.hid HN3.out.2.2.2.2.1
          obtain ⟨t, ht⟩ : ∃ t, rndT y KK XX % 4294967296 = t := ⟨_, rfl⟩
          obtain ⟨u, hu⟩ : ∃ u, rndU y % 4294967296 = u := ⟨_, rfl⟩
          rw [ht, hu]
          have HRo := Lib.hid ((rnd_pick y KK XX t u ht hu).trans HR.out.symm)
          clear ht hu HR
          go_wp2_with (refine wpList_store_row rfl 83 (.tmp 11) (.tmp 149) rfl g _ rfl rfl _ _ H4.out (by kernel_rfl) rfl (by simp [Value.oneCell']) ?_)
          rw [add32 t u, add32 (y 3) t, pick8_row, HRo.out]
          obtain ⟨n0, n1, n2, n3, n4, hm⟩ := HN3.out
          have HV := n4.row (Y (k + 1))
          have ht := hm.size
          exact ⟨⟨k + 1, by omega, by go_num, n0.rowOther (by omega) _, n1.rowOther (by omega) _, n2.rowOther (by omega) _, n3.rowOther (by omega) _, HV, hm.row (fun hh => absurd hh (by omega)) _⟩, by simp [intOf]; omega⟩
        · have h64 : k = 64 := by omega
          have hge : ¬ ((k : Int) < 64) := by omega
          clear HG2
          have HN := Lib.hid (And.intro n0 (And.intro n1 (And.intro n2 (And.intro n3 (And.intro n4 hm)))))
          clear n0 n1 n2 n3 n4 hm
          obtain ⟨V, hV⟩ : ∃ V, V = Y k := ⟨_, rfl⟩
          have HS := Lib.hid hV
          rw [← hV] at HN
          have HVl := Lib.hid (show ∀ j, V j < 4294967296 by rw [hV]; exact HH.out.yl k)
          clear hV
          rw [h64] at HS
          clear h64 hlt hk
          go_wp2_with fail
          go_loopw [151] (fun i wx => ∃ k : Nat, k ≤ 8 ∧ i = .int .i64 (k : Int) ∧ U 83 8 wx w.heap.size (sums h V k) ∧ U 83 8 wx (w.heap.size + 1) (fun _ => 0) ∧ U 83 8 wx g V ∧ Mod (fun _ => False) w wx) (fun i _ => 8 - (intOf i).toNat)
          case atStart =>
            obtain ⟨n0, n1, n2, n3, n4, hm⟩ := HN.out
            exact ⟨0, by omega, rfl, n0.eq (fun j hj => (sums_hi h V (by omega)).symm), n1, n4, hm⟩
          case round =>
            obtain ⟨k, hk, rfl, n0, n1, n4, hm⟩ := hrel
            by_cases hlt : k < 8
            · have hi0 : (0 : Int) ≤ (k : Int) := by omega
              have hlt2 : (k : Int) < 8 := by omega
              have v0 := n0.cell k hlt
              rw [sums_hi h V (Nat.lt_irrefl k)] at v0
              have v1 := n4.cell k hlt
              have hF := n0.free k
              have HP := Lib.hid (And.intro n0 (And.intro n1 (And.intro n4 hm)))
              clear n0 n1 n4 hm HN
              go_wp2_with fail
              obtain ⟨wd, hwd⟩ : ∃ wd, wr.drew = wd := ⟨_, rfl⟩
              have HP2 : Hid (U 83 8 wd w.heap.size (sums h V k) ∧ U 83 8 wd (w.heap.size + 1) (fun _ => 0) ∧ U 83 8 wd g V ∧ Mod (fun _ => False) w wd) := by
                subst hwd
                exact ⟨HP.out.1, HP.out.2.1, HP.out.2.2.1, HP.out.2.2.2.drew⟩
              have v0' : wd.cell? ⟨w.heap.size, k, none⟩ = some (.int .u32 (h k : Int)) := by subst hwd; exact v0
              have v1' : wd.cell? ⟨g, k, none⟩ = some (.int .u32 (V k : Int)) := by subst hwd; exact v1
              have hF' : wd.frozen? ⟨w.heap.size, k, none⟩ = false := by subst hwd; exact hF
              refine wp_still_tail 8 wd hwd (by kernel_rfl) (by kernel_rfl) ?_
              clear hwd HP v0 v1 hF
              simp only [List.take_succ_cons, List.take_zero, List.drop_succ_cons, List.drop_zero]
              repeat still_step
              refine wpStill_nil ?_
              go_wp2_with fail
              obtain ⟨n0, n1, n4, hm⟩ := HP2.out
              have ht := hm.size
              have n0' := (n0.set' k ((h k + V k) % 4294967296) hlt _ (add32 (h k) (V k))).eq (fun j _ => sums_upd h V k j)
              go_roundw
              case rel => exact ⟨k + 1, by omega, by go_num, n0', n1.other (by simp) _, n4.other (by simp; omega) _, hm.setCell (fun hh => absurd hh (by simp)) _⟩
              case measure => simp [intOf]; omega
            · obtain rfl : k = 8 := by omega
              have n0' : U 83 8 wr w.heap.size (R) := n0.eq (fun j hj => by rw [sums_lo h V hj, HS.out]; exact (HH.out.r j).symm)
              clear n0 HN
              have HA := Lib.hid n0'
              have HM := Lib.hid hm
              have HA1 := Lib.hid n1
              clear n0' n1 n4 hm
              go_wp2_with (first | (refine wpList_load_row rfl 83 (.tmp 3) rfl _ rfl _ _ _ _ HA.out Try.underlying83 rfl (by kernel_rfl) ?_) | (refine wpList_store_row rfl 83 (.tmp 6) (.tmp 163) rfl (w.heap.size + 1) _ rfl rfl _ _ HA1.out (by kernel_rfl) rfl (rowV_one 8 _) ?_))
              exact bodyPost_ret (v := .agg (rowV 8 (R))) (results_cell_row (P := Try.prog) (fn := Try.f64) (p := 6) (ty := 83) rfl _ _ _ _ _ _ _ rfl (HA1.out.row _) Try.underlying83 rfl (by kernel_rfl)) rfl ⟨rfl, HM.out.row (fun hh => by omega) _⟩
theorem step_word (h : Nat → Nat) (hh : ∀ k, h k < 4294967296) (b : ByteArray) : StepWord h b (stepN h (wordAt true b)) (sched (wordAt true b)) kN (rnds h (sched (wordAt true b))) :=
  ⟨hh, kN_lt, sched_lt _ (wordAt_lt b), fun k hk => sched_low _ k hk, fun k m e => by subst e; exact sched_high (wordAt true b) (m + 16) (by omega), rfl, fun k => rnds_succ _ _ k, fun k => rnds_lt _ _ hh k, fun j => stepN_eq _ _ j⟩
theorem step_any (h : Nat → Nat) (hh : ∀ k, h k < 4294967296) (gc : Nat) (b : ByteArray) (hb : b.size = 64) (w : World) (hc : U 80 64 w gc kN) :
    Calls Try.prog 64 #[.agg (rowV 8 h), .pointer (some ⟨gc, 0, none⟩), .string b] w fun e w' => e = .returned (.agg (rowV 8 (stepN h (wordAt true b)))) ∧ Mod (fun _ => False) w w' :=
  step_walk h b _ _ _ _ (step_word h hh b) gc hb w hc
end Go.Proofs.Ytpnpmploaaenlaa
