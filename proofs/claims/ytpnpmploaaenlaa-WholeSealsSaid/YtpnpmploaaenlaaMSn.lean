/- The program's block of the stream: the walk. -/
import Derived.Test.YtpnpmploaaenlaaMSm
namespace Go.Proofs.Ytpnpmploaaenlaa
open Go.RowKit
set_option linter.unusedSimpArgs false
set_option linter.unusedVariables false
def colQ (Q : (Nat → Nat) → Nat → Nat → Nat → Nat → Nat → Nat) (x : Nat → Nat) : Nat → Nat → Nat
  | 0 => x
  | k + 1 => Q (colQ Q x k) k (k + 4) (k + 8) (k + 12)
def diagQ (Q : (Nat → Nat) → Nat → Nat → Nat → Nat → Nat → Nat) (x : Nat → Nat) : Nat → Nat → Nat
  | 0 => x
  | k + 1 => Q (diagQ Q x k) k (4 + (k + 1) % 4) (8 + (k + 2) % 4) (12 + (k + 3) % 4)
theorem dbl_eq (Q : (Nat → Nat) → Nat → Nat → Nat → Nat → Nat → Nat) (x : Nat → Nat) : dblQ Q x = diagQ Q (colQ Q x 4) 4 := rfl
structure PBlk (Q : (Nat → Nat) → Nat → Nat → Nat → Nat → Nat → Nat) (X : Nat → Nat → Nat) (W : Nat → Nat) (key nonce : ByteArray) (ctr : Nat) (A : Nat → Nat) (BL : List UInt8) : Prop where
  q : ∀ (x : Nat → Nat) (a b c d : Nat), (∀ k, x k < 4294967296) → ∃ va vb vc vd : Nat, (∀ w, Calls Try.prog 38 #[.int .u32 (x a : Int), .int .u32 (x b : Int), .int .u32 (x c : Int), .int .u32 (x d : Int)] w fun e w' => e = .returned (.tuple #[.int .u32 (va : Int), .int .u32 (vb : Int), .int .u32 (vc : Int), .int .u32 (vd : Int)]) ∧ w' = w) ∧ Q x a b c d = upd (upd (upd (upd x a va) b vb) c vc) d vd
  ql : ∀ (x : Nat → Nat) (a b c d : Nat), (∀ k, x k < 4294967296) → ∀ k, Q x a b c d k < 4294967296
  x0 : X 0 = W
  x1 : ∀ k, X (k + 1) = diagQ Q (colQ Q (X k) 4) 4
  wl : ∀ k, W k < 4294967296
  xl : ∀ k j, X k j < 4294967296
  h : ∀ k, k < 4 → ∀ w, Calls Try.prog 37 #[.string ((⟨#[101, 120, 112, 97, 110, 100, 32, 51, 50, 45, 98, 121, 116, 101, 32, 107]⟩ : ByteArray).extract (4 * k) 16)] w fun e w' => e = .returned (.int .u32 (W k : Int)) ∧ ∃ n, w' = w.drewN n
  k : ∀ k, k < 8 → ∀ w, Calls Try.prog 37 #[.string (key.extract (4 * k) 32)] w fun e w' => e = .returned (.int .u32 (W (4 + k) : Int)) ∧ ∃ n, w' = w.drewN n
  n : ∀ k, k < 3 → ∀ w, Calls Try.prog 37 #[.string (nonce.extract (4 * k) 12)] w fun e w' => e = .returned (.int .u32 (W (13 + k) : Int)) ∧ ∃ n, w' = w.drewN n
  c : W 12 = ctr
  ks : key.size = 32
  ns : nonce.size = 12
  cl : ctr < 4294967296
  a : ∀ k, ((X 10 k : Int) + (W k : Int)) % 4294967296 = (A k : Int)
  al : ∀ k, A k < 4294967296
  bl0 : ∀ k, k < 16 → BL.getD (4 * k) 0 = UInt8.ofNat (A k)
  bl1 : ∀ k, k < 16 → BL.getD (4 * k + 1) 0 = UInt8.ofNat (A k / 256)
  bl2 : ∀ k, k < 16 → BL.getD (4 * k + 2) 0 = UInt8.ofNat (A k / 65536)
  bl3 : ∀ k, k < 16 → BL.getD (4 * k + 3) 0 = UInt8.ofNat (A k / 16777216)
theorem col_lt (Q : (Nat → Nat) → Nat → Nat → Nat → Nat → Nat → Nat) (ql : ∀ (x : Nat → Nat) (a b c d : Nat), (∀ k, x k < 4294967296) → ∀ k, Q x a b c d k < 4294967296) (x : Nat → Nat) (hx : ∀ k, x k < 4294967296) (m : Nat) : ∀ k, colQ Q x m k < 4294967296 := by
  induction m with
  | zero => exact hx
  | succ m ih => exact ql _ _ _ _ _ ih
theorem diag_lt (Q : (Nat → Nat) → Nat → Nat → Nat → Nat → Nat → Nat) (ql : ∀ (x : Nat → Nat) (a b c d : Nat), (∀ k, x k < 4294967296) → ∀ k, Q x a b c d k < 4294967296) (x : Nat → Nat) (hx : ∀ k, x k < 4294967296) (m : Nat) : ∀ k, diagQ Q x m k < 4294967296 := by
  induction m with
  | zero => exact hx
  | succ m ih => exact ql _ _ _ _ _ ih
theorem schZ_next {ty n : Nat} {w : World} {g : Nat} {X : Nat → Nat} {a : Nat} (h : U ty n w g (schZ X a)) (c : Nat) (e : a = c) (hc : c < n) (y : Int) (hy : y = (X c : Int)) : U ty n (w.setCell ⟨g, c, none⟩ (.int .u32 y)) g (schZ X (c + 1)) := by
  subst e
  exact (h.set' a (X a) hc y hy).eq (fun j _ => schZ_upd X a j)
def rowB (L : List UInt8) (c : Nat) : Array Value := ((List.range 64).map fun j => Value.int .u8 ((tx L c j).toNat : Int)).toArray
theorem rowB_size (L : List UInt8) (c : Nat) : (rowB L c).size = 64 := by simp [rowB]
theorem rowB_get (L : List UInt8) (c k : Nat) (hk : k < 64) : (rowB L c)[k]? = some (.int .u8 ((tx L c k).toNat : Int)) := by
  unfold rowB
  simp [hk]
theorem rowB_one (L : List UInt8) (c : Nat) : (rowB L c).all (·.oneCell') = true := by
  simp [rowB, Array.all_eq_true, Value.oneCell']
theorem rowB_set (L : List UInt8) (c : Nat) (hc : c < 64) : (rowB L c).setIfInBounds c (.int .u8 ((L.getD c 0).toNat : Int)) = rowB L (c + 1) := by
  apply Array.ext_getElem?
  intro i
  by_cases hi : i < 64
  · rw [rowB_get _ _ _ hi, Array.getElem?_setIfInBounds]
    by_cases e : c = i
    · subst e; simp [rowB_size, hc, tx_lo L (Nat.lt_succ_self c)]
    · rw [if_neg e, rowB_get _ _ _ hi]
      by_cases e2 : i < c
      · rw [tx_lo L e2, tx_lo L (by omega)]
      · rw [tx_hi L e2, tx_hi L (by omega)]
  · rw [Array.getElem?_eq_none (by rw [Array.size_setIfInBounds, rowB_size]; omega), Array.getElem?_eq_none (by rw [rowB_size]; omega)]
theorem zeroB (L : List UInt8) : (#[.int .u8 0, .int .u8 0, .int .u8 0, .int .u8 0, .int .u8 0, .int .u8 0, .int .u8 0, .int .u8 0, .int .u8 0, .int .u8 0, .int .u8 0, .int .u8 0, .int .u8 0, .int .u8 0, .int .u8 0, .int .u8 0, .int .u8 0, .int .u8 0, .int .u8 0, .int .u8 0, .int .u8 0, .int .u8 0, .int .u8 0, .int .u8 0, .int .u8 0, .int .u8 0, .int .u8 0, .int .u8 0, .int .u8 0, .int .u8 0, .int .u8 0, .int .u8 0, .int .u8 0, .int .u8 0, .int .u8 0, .int .u8 0, .int .u8 0, .int .u8 0, .int .u8 0, .int .u8 0, .int .u8 0, .int .u8 0, .int .u8 0, .int .u8 0, .int .u8 0, .int .u8 0, .int .u8 0, .int .u8 0, .int .u8 0, .int .u8 0, .int .u8 0, .int .u8 0, .int .u8 0, .int .u8 0, .int .u8 0, .int .u8 0, .int .u8 0, .int .u8 0, .int .u8 0, .int .u8 0, .int .u8 0, .int .u8 0, .int .u8 0, .int .u8 0] : Array Value) = rowB L 0 := rfl
def UB (w : World) (g : Nat) (L : List UInt8) (c : Nat) : Prop := w.heap[g]? = some (.cells (rowB L c) 42 (0, 0))
theorem UB.other {w : World} {g : Nat} {L : List UInt8} {c : Nat} (h : UB w g L c) {p : Addr} (hp : p.block ≠ g) (u : Value) : UB (w.setCell p u) g L c := (Below.heap_setCell _ _ _ _ (fun e => hp e.symm)).trans h
theorem UB.mod {w w' : World} {g : Nat} {L : List UInt8} {c : Nat} (h : UB w g L c) (m : Mod (fun _ => False) w w') : UB w' g L c := m.blk h (fun e => e)
theorem UB.cell {w : World} {g : Nat} {L : List UInt8} {c : Nat} (h : UB w g L c) (k : Nat) (hk : k < 64) : w.cell? ⟨g, k, none⟩ = some (.int .u8 ((tx L c k).toNat : Int)) := blk_cell h (rowB_get L c k hk)
theorem UB.free {w : World} {g : Nat} {L : List UInt8} {c : Nat} (h : UB w g L c) (k : Nat) : w.frozen? ⟨g, k, none⟩ = false := blk_free h
theorem UB.nx {w : World} {g : Nat} {L : List UInt8} {a : Nat} (h : UB w g L a) (c : Nat) (e : a = c) (hc : c < 64) (x : UInt8) (hx : L.getD c 0 = x) (y : Int) (hy : y = (x.toNat : Int)) : UB (w.setCell ⟨g, c, none⟩ (.int .u8 y)) g L (c + 1) := by
  subst e
  subst hy
  subst hx
  have := set_block h (o := a) (.int .u8 ((L.getD a 0).toNat : Int))
  unfold UB
  rw [this, rowB_set L a hc]
set_option maxRecDepth 100000 in
set_option maxHeartbeats 8000000 in
theorem pblk_walk (Q : (Nat → Nat) → Nat → Nat → Nat → Nat → Nat → Nat) (X : Nat → Nat → Nat) (W : Nat → Nat) (key nonce : ByteArray) (ctr : Nat) (A : Nat → Nat) (BL : List UInt8) (hB : PBlk Q X W key nonce ctr A BL)
    (w : World) :
    Calls Try.prog 22 #[.string key, .string nonce, .int .i64 (ctr : Int)] w fun e w' => e = .returned (.agg (rowB BL 64)) ∧ Mod (fun _ => False) w w' := by
  have HB := Lib.hid hB
  have hks := hB.ks
  have hns := hB.ns
  have hcl := hB.cl
  clear hB
  go_enter Try.func22, Try.ntmps22
  go_upto_region 2 with (fail)
  rw [zeroB BL, zero16]
  have HG : Hid (U 53 16 ((w.alloc (.cells (rowB BL 0) 42)).alloc (.cells (rowV 16 fun _ => 0) 53)) (w.heap.size + 1) (schZ W 0) ∧ UB ((w.alloc (.cells (rowB BL 0) 42)).alloc (.cells (rowV 16 fun _ => 0) 53)) w.heap.size BL 0 ∧ Mod (fun _ => False) w ((w.alloc (.cells (rowB BL 0) 42)).alloc (.cells (rowV 16 fun _ => 0) 53))) :=
    ⟨(U.new _ _ _ (by simp)).eq (fun j _ => (schZ_hi W (by omega)).symm), ((Mod.refl (fun _ => False) _).alloc _).blk (new_block w _ 42 _ rfl) (fun e => e), ((Mod.refl (fun _ => False) w).alloc _).alloc _⟩
  generalize (w.alloc (.cells (rowB BL 0) 42)).alloc (.cells (rowV 16 fun _ => 0) 53) = W0 at HG ⊢
  go_wp2_with fail
  go_loopw [20] (fun i wr => ∃ k : Nat, k ≤ 4 ∧ i = .int .i64 (k : Int) ∧ U 53 16 wr (w.heap.size + 1) (schZ W k) ∧ UB wr w.heap.size BL 0 ∧ Mod (fun _ => False) w wr) (fun i _ => 4 - (intOf i).toNat)
  case atStart => exact ⟨0, by omega, rfl, HG.out⟩
  case round =>
    clear HG
    obtain ⟨k, hk, rfl, n0, n1, hm⟩ := hrel
    by_cases hlt : k < 4
    · have hi0 : (0 : Int) ≤ (k : Int) := by omega
      have hlt2 : (k : Int) < 4 := by omega
      have s0 : 0 ≤ 4 * (k : Int) := by omega
      have s1 : 4 * (k : Int) ≤ 16 := by omega
      have s2 : (4 * (k : Int)).toNat = 4 * k := by omega
      have o0 : 0 ≤ 0 + (k : Int) := by omega
      have o1 : 0 + (k : Int) < 16 := by omega
      have o2 : (0 + (k : Int)).toNat = 0 + k := by omega
      have hx := n0.cell k (by omega)
      have hf := n0.free k
      have HN := Lib.hid (And.intro n0 (And.intro n1 hm))
      clear n0 n1 hm
      go_wp2_with (go_at_call 37; refine (HB.out.h k hlt _).mono ?_; rintro e w' ⟨rfl, nn, rfl⟩)
      obtain ⟨n0, n1, hm⟩ := HN.out
      have hsz := hm.size
      go_roundw
      case rel => exact ⟨k + 1, by omega, by go_num, schZ_next (n0.drewN nn) k rfl (by omega) _ rfl, (n1.mod (Mod.drewN wr nn)).other (by simp) _, (hm.tr (Mod.drewN wr nn)).setCell (fun hh => absurd hh (by simp)) _⟩
      case measure => simp [intOf]; omega
    · have hkn : k = 4 := by omega
      have hge : ¬ ((k : Int) < 4) := by omega
      rw [hkn] at n0
      clear hkn hlt hk
      have HG := Lib.hid (And.intro n0 (And.intro n1 hm))
      clear n0 n1 hm
      go_wp2_with fail
      go_loopw [30] (fun i wr => ∃ k : Nat, k ≤ 8 ∧ i = .int .i64 (k : Int) ∧ U 53 16 wr (w.heap.size + 1) (schZ W (4 + k)) ∧ UB wr w.heap.size BL 0 ∧ Mod (fun _ => False) w wr) (fun i _ => 8 - (intOf i).toNat)
      case atStart => exact ⟨0, by omega, rfl, HG.out⟩
      case round =>
        clear HG
        obtain ⟨k, hk, rfl, n0, n1, hm⟩ := hrel
        by_cases hlt : k < 8
        · have hi0 : (0 : Int) ≤ (k : Int) := by omega
          have hlt2 : (k : Int) < 8 := by omega
          have s0 : 0 ≤ 4 * (k : Int) := by omega
          have s1 : 4 * (k : Int) ≤ 32 := by omega
          have s2 : (4 * (k : Int)).toNat = 4 * k := by omega
          have o0 : 0 ≤ 4 + (k : Int) := by omega
          have o1 : 4 + (k : Int) < 16 := by omega
          have o2 : (4 + (k : Int)).toNat = 4 + k := by omega
          have hx := n0.cell (4 + k) (by omega)
          have hf := n0.free (4 + k)
          have HN := Lib.hid (And.intro n0 (And.intro n1 hm))
          clear n0 n1 hm
          go_wp2_with (go_at_call 37; refine (HB.out.k k hlt _).mono ?_; rintro e w' ⟨rfl, nn, rfl⟩)
          obtain ⟨n0, n1, hm⟩ := HN.out
          have hsz := hm.size
          go_roundw
          case rel => exact ⟨k + 1, by omega, by go_num, schZ_next (n0.drewN nn) (4 + k) rfl (by omega) _ rfl, (n1.mod (Mod.drewN wr nn)).other (by simp) _, (hm.tr (Mod.drewN wr nn)).setCell (fun hh => absurd hh (by simp)) _⟩
          case measure => simp [intOf]; omega
        · have hkn : k = 8 := by omega
          have hge : ¬ ((k : Int) < 8) := by omega
          rw [hkn] at n0
          clear hkn hlt hk
          have HG := Lib.hid (And.intro n0 (And.intro n1 hm))
          clear n0 n1 hm
          have hx := HG.out.1.cell 12 (by decide)
          have hf := HG.out.1.free 12
          go_upto_region 13 with (fail)
          have HG2 := Lib.hid (And.intro (schZ_next HG.out.1 12 rfl (by decide) (ctr : Int) (by rw [HB.out.c])) (And.intro (HG.out.2.1.other (p := ⟨w.heap.size + 1, 12, none⟩) (by simp) (.int .u32 (ctr : Int))) (HG.out.2.2.setCell (p := ⟨w.heap.size + 1, 12, none⟩) (fun hh => absurd hh (by simp)) (.int .u32 (ctr : Int)))))
          clear HG hx hf
          generalize World.setCell _ ⟨w.heap.size + 1, 12, none⟩ (.int .u32 (ctr : Int)) = W2 at HG2 ⊢
          have HG := HG2
          clear HG2
          go_wp2_with fail
          go_loopw [45] (fun i wr => ∃ k : Nat, k ≤ 3 ∧ i = .int .i64 (k : Int) ∧ U 53 16 wr (w.heap.size + 1) (schZ W (13 + k)) ∧ UB wr w.heap.size BL 0 ∧ Mod (fun _ => False) w wr) (fun i _ => 3 - (intOf i).toNat)
          case atStart => exact ⟨0, by omega, rfl, HG.out⟩
          case round =>
            clear HG
            obtain ⟨k, hk, rfl, n0, n1, hm⟩ := hrel
            by_cases hlt : k < 3
            · have hi0 : (0 : Int) ≤ (k : Int) := by omega
              have hlt2 : (k : Int) < 3 := by omega
              have s0 : 0 ≤ 4 * (k : Int) := by omega
              have s1 : 4 * (k : Int) ≤ 12 := by omega
              have s2 : (4 * (k : Int)).toNat = 4 * k := by omega
              have o0 : 0 ≤ 13 + (k : Int) := by omega
              have o1 : 13 + (k : Int) < 16 := by omega
              have o2 : (13 + (k : Int)).toNat = 13 + k := by omega
              have hx := n0.cell (13 + k) (by omega)
              have hf := n0.free (13 + k)
              have HN := Lib.hid (And.intro n0 (And.intro n1 hm))
              clear n0 n1 hm
              go_wp2_with (go_at_call 37; refine (HB.out.n k hlt _).mono ?_; rintro e w' ⟨rfl, nn, rfl⟩)
              obtain ⟨n0, n1, hm⟩ := HN.out
              have hsz := hm.size
              go_roundw
              case rel => exact ⟨k + 1, by omega, by go_num, schZ_next (n0.drewN nn) (13 + k) rfl (by omega) _ rfl, (n1.mod (Mod.drewN wr nn)).other (by simp) _, (hm.tr (Mod.drewN wr nn)).setCell (fun hh => absurd hh (by simp)) _⟩
              case measure => simp [intOf]; omega
            · have hkn : k = 3 := by omega
              have hge : ¬ ((k : Int) < 3) := by omega
              rw [hkn] at n0
              clear hkn hlt hk
              have HG := Lib.hid (And.intro n0 (And.intro n1 hm))
              clear n0 n1 hm
              have HA := Lib.hid (HG.out.1.eq (f' := W) (fun j hj => schZ_lo W (by omega)))
              have HZ := Lib.hid (U.new (ty := 53) (n := 16) wr (fun _ => 0) wr.heap.size rfl)
              have hwl := HA.out.lt
              go_upto_region 19 with (first | (refine wpList_load_row rfl 53 (.tmp 7) rfl _ rfl _ _ _ _ HA.out Try.underlying53 rfl (by kernel_rfl) ?_) | (refine wpList_store_row rfl 53 (.tmp 11) (.tmp 57) rfl wr.heap.size (rowV 16 W) rfl rfl _ _ HZ.out (by kernel_rfl) rfl (rowV_one 16 W) ?_))
              rw [zero16]
              have HG3 := Lib.hid (And.intro ((HA.out.alloc (.cells (rowV 16 fun _ => 0) 53)).rowOther (k := wr.heap.size) (by omega) (rowV 16 W)) (And.intro (HZ.out.row W) (And.intro ((setRow_other _ wr.heap.size w.heap.size (rowV 16 W) (by omega)).trans (HG.out.2.1.mod ((Mod.refl _ wr).alloc (.cells (rowV 16 fun _ => 0) 53)))) ((HG.out.2.2.alloc (.cells (rowV 16 fun _ => 0) 53)).row (g := wr.heap.size) (fun hh => absurd hh (by omega)) (rowV 16 W)))))
              clear HA HZ HG
              generalize World.setRow _ wr.heap.size (rowV 16 W) = W3 at HG3 ⊢
              obtain ⟨gs, hgs⟩ : ∃ g, wr.heap.size = g := ⟨_, rfl⟩
              rw [hgs] at HG3 hwl ⊢
              clear hgs
              try go_frame
              go_wp2_with fail
              go_loopw [58] (fun i wx => ∃ k : Nat, k ≤ 10 ∧ i = .int .i64 (k : Int) ∧ U 53 16 wx (w.heap.size + 1) (X k) ∧ U 53 16 wx gs W ∧ UB wx w.heap.size BL 0 ∧ Mod (fun _ => False) w wx) (fun i _ => 10 - (intOf i).toNat)
              case atStart => exact ⟨0, by omega, rfl, by rw [HB.out.x0]; exact HG3.out.1, HG3.out.2⟩
              case round =>
                clear HG3
                obtain ⟨k, hk, rfl, n0, n1, n2, hm⟩ := hrel
                by_cases hlt : k < 10
                · have hlt2 : (k : Int) < 10 := by omega
                  obtain ⟨Y, hY⟩ : ∃ Y, X k = Y := ⟨_, rfl⟩
                  have LT0 : ∀ j, Y j < 4294967296 := by rw [← hY]; exact HB.out.xl k
                  have LT := col_lt Q HB.out.ql Y LT0
                  have HX1 := Lib.hid (HB.out.x1 k)
                  rw [hY] at n0 HX1
                  clear hY
                  have HGI := Lib.hid (And.intro n0 (And.intro n1 (And.intro n2 hm)))
                  clear n0 n1 n2 hm
                  go_wp2_with fail
                  go_loopw [60] (fun i wx => ∃ m : Nat, m ≤ 4 ∧ i = .int .i64 (m : Int) ∧ U 53 16 wx (w.heap.size + 1) (colQ Q Y m) ∧ U 53 16 wx gs W ∧ UB wx w.heap.size BL 0 ∧ Mod (fun _ => False) w wx) (fun i _ => 4 - (intOf i).toNat)
                  case atStart => exact ⟨0, by omega, rfl, HGI.out⟩
                  case round =>
                    clear HGI
                    obtain ⟨m, hm4, rfl, n0, n1, n2, hm⟩ := hrel
                    by_cases hlt : m < 4
                    · have hi0 : (0 : Int) ≤ (m : Int) := by omega
                      have hlt2 : (m : Int) < 4 := by omega
                      have hm16 : (m : Int) < 16 := by omega
                      obtain ⟨i1, hi1⟩ : ∃ i, m + 4 = i := ⟨_, rfl⟩
                      obtain ⟨i2, hi2⟩ : ∃ i, m + 8 = i := ⟨_, rfl⟩
                      obtain ⟨i3, hi3⟩ : ∃ i, m + 12 = i := ⟨_, rfl⟩
                      have l1 : (i1 : Int) < 16 := by omega
                      have l2 : (i2 : Int) < 16 := by omega
                      have l3 : (i3 : Int) < 16 := by omega
                      have ww1 : IntKind.i64.wrap (i1 : Int) = (i1 : Int) := by rw [IntKind.wrap_i64]; omega
                      have ww2 : IntKind.i64.wrap (i2 : Int) = (i2 : Int) := by rw [IntKind.wrap_i64]; omega
                      have ww3 : IntKind.i64.wrap (i3 : Int) = (i3 : Int) := by rw [IntKind.wrap_i64]; omega
                      have e1 : (m : Int) + 4 = (i1 : Int) := by omega
                      have e2 : (m : Int) + 8 = (i2 : Int) := by omega
                      have e3 : (m : Int) + 12 = (i3 : Int) := by omega
                      have nemi1 : ¬ m = i1 := by omega
                      have nemi2 : ¬ m = i2 := by omega
                      have nemi3 : ¬ m = i3 := by omega
                      have nei1m : ¬ i1 = m := by omega
                      have nei1i2 : ¬ i1 = i2 := by omega
                      have nei1i3 : ¬ i1 = i3 := by omega
                      have nei2m : ¬ i2 = m := by omega
                      have nei2i1 : ¬ i2 = i1 := by omega
                      have nei2i3 : ¬ i2 = i3 := by omega
                      have nei3m : ¬ i3 = m := by omega
                      have nei3i1 : ¬ i3 = i1 := by omega
                      have nei3i2 : ¬ i3 = i2 := by omega
                      obtain ⟨x, hxx⟩ : ∃ x, colQ Q Y m = x := ⟨_, rfl⟩
                      have hxl : ∀ j, x j < 4294967296 := by rw [← hxx]; exact LT m
                      obtain ⟨va, vb, vc, vd, q38, hQ⟩ := HB.out.q x m i1 i2 i3 hxl
                      have HQ : Hid (colQ Q Y (m + 1) = upd (upd (upd (upd x m va) i1 vb) i2 vc) i3 vd) := by
                        show colQ Q Y (m + 1) = _
                        rw [← hQ, ← hi1, ← hi2, ← hi3, ← hxx]; rfl
                      rw [hxx] at n0
                      have HI1 := Lib.hid hi1
                      have HI2 := Lib.hid hi2
                      have HI3 := Lib.hid hi3
                      clear hi1 hi2 hi3 hxx hQ
                      have HN := Lib.hid (And.intro n0 (And.intro n1 (And.intro n2 hm)))
                      clear n0 n1 n2 hm
                      go_wp2_with fail
                      refine wp_region_K (fun wd w' => w' = wd) 29 (by kernel_rfl) (fun wd hwd => ?_)
                      have HN2 : Hid (U 53 16 wd (w.heap.size + 1) x ∧ U 53 16 wd gs W ∧ UB wd w.heap.size BL 0 ∧ Mod (fun _ => False) w wd) := by
                        subst hwd
                        exact ⟨HN.out.1, HN.out.2.1, HN.out.2.2.1, HN.out.2.2.2.drew⟩
                      have c0 := HN2.out.1.cell m (by omega)
                      have c1 := HN2.out.1.cell i1 (by omega)
                      have c2 := HN2.out.1.cell i2 (by omega)
                      have c3 := HN2.out.1.cell i3 (by omega)
                      have f0 := HN2.out.1.free m
                      have f1 := HN2.out.1.free i1
                      have f2 := HN2.out.1.free i2
                      have f3 := HN2.out.1.free i3
                      clear hwd HN
                      refine K_take 0 64 (v := ?_) rfl rfl (by kernel_rfl) (by kernel_rfl) (by kernel_rfl) (by decide) (by kernel_rfl) rfl (by kernel_rfl) (fun _ _ _ _ h => h) (by rfl) ?_ rfl ?_
                      rotate_left; · (intro w' hSw; subst hSw; go_simp; first | done | with_reducible rfl)
                      simp only [List.setIfInBounds_toArray, List.set_cons_zero, List.set_cons_succ]
                      refine K_float 1 65 (v := ?_) rfl rfl (by kernel_rfl) (by kernel_rfl) (by kernel_rfl) (by decide) (fun _ _ _ _ h => h) (by rfl) ?_ rfl ?_
                      rotate_left; · (intro w'; go_simp; first | done | with_reducible rfl)
                      simp only [List.setIfInBounds_toArray, List.set_cons_zero, List.set_cons_succ]
                      refine K_float 2 66 (v := ?_) rfl rfl (by kernel_rfl) (by kernel_rfl) (by kernel_rfl) (by decide) (fun _ _ _ _ h => h) (by rfl) ?_ rfl ?_
                      rotate_left; · (intro w'; go_simp; first | done | with_reducible rfl)
                      simp only [List.setIfInBounds_toArray, List.set_cons_zero, List.set_cons_succ]
                      refine K_float 3 67 (v := ?_) rfl rfl (by kernel_rfl) (by kernel_rfl) (by kernel_rfl) (by decide) (fun _ _ _ _ h => h) (by rfl) ?_ rfl ?_
                      rotate_left; · (intro w'; go_simp; first | done | with_reducible rfl)
                      simp only [List.setIfInBounds_toArray, List.set_cons_zero, List.set_cons_succ]
                      refine K_float 4 68 (v := ?_) rfl rfl (by kernel_rfl) (by kernel_rfl) (by kernel_rfl) (by decide) (fun _ _ _ _ h => h) (by rfl) ?_ rfl ?_
                      rotate_left; · (intro w'; go_simp; first | done | with_reducible rfl)
                      simp only [List.setIfInBounds_toArray, List.set_cons_zero, List.set_cons_succ]
                      refine K_float 5 69 (v := ?_) rfl rfl (by kernel_rfl) (by kernel_rfl) (by kernel_rfl) (by decide) (fun _ _ _ _ h => h) (by rfl) ?_ rfl ?_
                      rotate_left; · (intro w'; go_simp; first | done | with_reducible rfl)
                      simp only [List.setIfInBounds_toArray, List.set_cons_zero, List.set_cons_succ]
                      refine K_float 6 70 (v := ?_) rfl rfl (by kernel_rfl) (by kernel_rfl) (by kernel_rfl) (by decide) (fun _ _ _ _ h => h) (by rfl) ?_ rfl ?_
                      rotate_left; · (intro w'; go_simp; first | done | with_reducible rfl)
                      simp only [List.setIfInBounds_toArray, List.set_cons_zero, List.set_cons_succ]
                      refine K_take 7 71 (v := ?_) rfl rfl (by kernel_rfl) (by kernel_rfl) (by kernel_rfl) (by decide) (by kernel_rfl) rfl (by kernel_rfl) (fun _ _ _ _ h => h) (by rfl) ?_ rfl ?_
                      rotate_left; · (intro w' hSw; subst hSw; go_simp; first | done | with_reducible rfl)
                      simp only [List.setIfInBounds_toArray, List.set_cons_zero, List.set_cons_succ]
                      refine K_take 8 72 (v := ?_) rfl rfl (by kernel_rfl) (by kernel_rfl) (by kernel_rfl) (by decide) (by kernel_rfl) rfl (by kernel_rfl) (fun _ _ _ _ h => h) (by rfl) ?_ rfl ?_
                      rotate_left; · (intro w' hSw; subst hSw; go_simp; first | done | with_reducible rfl)
                      simp only [List.setIfInBounds_toArray, List.set_cons_zero, List.set_cons_succ]
                      refine K_take 9 73 (v := ?_) rfl rfl (by kernel_rfl) (by kernel_rfl) (by kernel_rfl) (by decide) (by kernel_rfl) rfl (by kernel_rfl) (fun _ _ _ _ h => h) (by rfl) ?_ rfl ?_
                      rotate_left; · (intro w' hSw; subst hSw; go_simp; first | done | with_reducible rfl)
                      simp only [List.setIfInBounds_toArray, List.set_cons_zero, List.set_cons_succ]
                      refine K_take 10 74 (v := ?_) rfl rfl (by kernel_rfl) (by kernel_rfl) (by kernel_rfl) (by decide) (by kernel_rfl) rfl (by kernel_rfl) (fun _ _ _ _ h => h) (by rfl) ?_ rfl ?_
                      rotate_left; · (intro w' hSw; subst hSw; go_simp; first | done | with_reducible rfl)
                      simp only [List.setIfInBounds_toArray, List.set_cons_zero, List.set_cons_succ]
                      refine K_take 11 75 (v := ?_) rfl rfl (by kernel_rfl) (by kernel_rfl) (by kernel_rfl) (by decide) (by kernel_rfl) rfl (by kernel_rfl) (fun _ _ _ _ h => h) (by rfl) ?_ rfl ?_
                      rotate_left; · (intro w' hSw; subst hSw; go_simp; first | done | with_reducible rfl)
                      simp only [List.setIfInBounds_toArray, List.set_cons_zero, List.set_cons_succ]
                      refine K_take 12 76 (v := ?_) rfl rfl (by kernel_rfl) (by kernel_rfl) (by kernel_rfl) (by decide) (by kernel_rfl) rfl (by kernel_rfl) (fun _ _ _ _ h => h) (by rfl) ?_ rfl ?_
                      rotate_left; · (intro w' hSw; subst hSw; go_simp; first | done | with_reducible rfl)
                      simp only [List.setIfInBounds_toArray, List.set_cons_zero, List.set_cons_succ]
                      refine K_take 13 77 (v := ?_) rfl rfl (by kernel_rfl) (by kernel_rfl) (by kernel_rfl) (by decide) (by kernel_rfl) rfl (by kernel_rfl) (fun _ _ _ _ h => h) (by rfl) ?_ rfl ?_
                      rotate_left; · (intro w' hSw; subst hSw; go_simp; first | done | with_reducible rfl)
                      simp only [List.setIfInBounds_toArray, List.set_cons_zero, List.set_cons_succ]
                      refine K_take 14 78 (v := ?_) rfl rfl (by kernel_rfl) (by kernel_rfl) (by kernel_rfl) (by decide) (by kernel_rfl) rfl (by kernel_rfl) (fun _ _ _ _ h => h) (by rfl) ?_ rfl ?_
                      rotate_left; · (intro w' hSw; subst hSw; go_simp; first | done | with_reducible rfl)
                      simp only [List.setIfInBounds_toArray, List.set_cons_zero, List.set_cons_succ]
                      refine K_take 15 79 (v := ?_) rfl rfl (by kernel_rfl) (by kernel_rfl) (by kernel_rfl) (by decide) (by kernel_rfl) rfl (by kernel_rfl) (fun _ _ _ _ h => h) (by rfl) ?_ rfl ?_
                      rotate_left; · (intro w' hSw; subst hSw; go_simp; first | done | with_reducible rfl)
                      simp only [List.setIfInBounds_toArray, List.set_cons_zero, List.set_cons_succ]
                      refine K_take 16 80 (v := ?_) rfl rfl (by kernel_rfl) (by kernel_rfl) (by kernel_rfl) (by decide) (by kernel_rfl) rfl (by kernel_rfl) (fun _ _ _ _ h => h) (by rfl) ?_ rfl ?_
                      rotate_left; · (intro w' hSw; subst hSw; go_simp; first | done | with_reducible rfl)
                      simp only [List.setIfInBounds_toArray, List.set_cons_zero, List.set_cons_succ]
                      refine K_take 17 81 (v := ?_) rfl rfl (by kernel_rfl) (by kernel_rfl) (by kernel_rfl) (by decide) (by kernel_rfl) rfl (by kernel_rfl) (fun _ _ _ _ h => h) (by rfl) ?_ rfl ?_
                      rotate_left; · (intro w' hSw; subst hSw; go_simp; first | done | with_reducible rfl)
                      simp only [List.setIfInBounds_toArray, List.set_cons_zero, List.set_cons_succ]
                      refine K_take 18 82 (v := ?_) rfl rfl (by kernel_rfl) (by kernel_rfl) (by kernel_rfl) (by decide) (by kernel_rfl) rfl (by kernel_rfl) (fun _ _ _ _ h => h) (by rfl) ?_ rfl ?_
                      rotate_left; · (intro w' hSw; subst hSw; go_simp; first | done | with_reducible rfl)
                      simp only [List.setIfInBounds_toArray, List.set_cons_zero, List.set_cons_succ]
                      refine K_take 19 83 (v := ?_) rfl rfl (by kernel_rfl) (by kernel_rfl) (by kernel_rfl) (by decide) (by kernel_rfl) rfl (by kernel_rfl) (fun _ _ _ _ h => h) (by rfl) ?_ rfl ?_
                      rotate_left; · (intro w' hSw; subst hSw; go_simp; first | done | with_reducible rfl)
                      simp only [List.setIfInBounds_toArray, List.set_cons_zero, List.set_cons_succ]
                      refine K_take 20 84 (v := ?_) rfl rfl (by kernel_rfl) (by kernel_rfl) (by kernel_rfl) (by decide) (by kernel_rfl) rfl (by kernel_rfl) (fun _ _ _ _ h => h) (by rfl) ?_ rfl ?_
                      rotate_left; · (intro w' hSw; subst hSw; go_simp; first | done | with_reducible rfl)
                      simp only [List.setIfInBounds_toArray, List.set_cons_zero, List.set_cons_succ]
                      refine K_take 21 85 (v := ?_) rfl rfl (by kernel_rfl) (by kernel_rfl) (by kernel_rfl) (by decide) (by kernel_rfl) rfl (by kernel_rfl) (fun _ _ _ _ h => h) (by rfl) ?_ rfl ?_
                      rotate_left; · (intro w' hSw; subst hSw; go_simp; first | done | with_reducible rfl)
                      simp only [List.setIfInBounds_toArray, List.set_cons_zero, List.set_cons_succ]
                      refine K_call 22 86 rfl rfl (by kernel_rfl) (by rfl) (f := 38) (args := ?_) ?_ ?_
                      rotate_left; · (go_simp; first | done | with_reducible rfl)
                      refine (q38 _).mono ?_
                      rintro e w' ⟨rfl, rfl⟩
                      refine ⟨_, rfl, rfl, fun hNew => ?_⟩; clear hNew
                      simp only [List.setIfInBounds_toArray, List.set_cons_zero, List.set_cons_succ]
                      refine K_take 23 63 (v := ?_) rfl rfl (by kernel_rfl) (by kernel_rfl) (by kernel_rfl) (by decide) (by kernel_rfl) rfl (by kernel_rfl) (fun _ _ _ _ h => h) (by rfl) ?_ rfl ?_
                      rotate_left; · (intro w' hSw; subst hSw; go_simp; first | done | with_reducible rfl)
                      simp only [List.setIfInBounds_toArray, List.set_cons_zero, List.set_cons_succ]
                      refine K_take 24 87 (v := ?_) rfl rfl (by kernel_rfl) (by kernel_rfl) (by kernel_rfl) (by decide) (by kernel_rfl) rfl (by kernel_rfl) (fun _ _ _ _ h => h) (by rfl) ?_ rfl ?_
                      rotate_left; · (intro w' hSw; subst hSw; go_simp; first | done | with_reducible rfl)
                      simp only [List.setIfInBounds_toArray, List.set_cons_zero, List.set_cons_succ]
                      refine K_float 25 88 (v := ?_) rfl rfl (by kernel_rfl) (by kernel_rfl) (by kernel_rfl) (by decide) (fun _ _ _ _ h => h) (by rfl) ?_ rfl ?_
                      rotate_left; · (intro w'; go_simp; first | done | with_reducible rfl)
                      simp only [List.setIfInBounds_toArray, List.set_cons_zero, List.set_cons_succ]
                      refine K_float 26 89 (v := ?_) rfl rfl (by kernel_rfl) (by kernel_rfl) (by kernel_rfl) (by decide) (fun _ _ _ _ h => h) (by rfl) ?_ rfl ?_
                      rotate_left; · (intro w'; go_simp; first | done | with_reducible rfl)
                      simp only [List.setIfInBounds_toArray, List.set_cons_zero, List.set_cons_succ]
                      refine K_float 27 90 (v := ?_) rfl rfl (by kernel_rfl) (by kernel_rfl) (by kernel_rfl) (by decide) (fun _ _ _ _ h => h) (by rfl) ?_ rfl ?_
                      rotate_left; · (intro w'; go_simp; first | done | with_reducible rfl)
                      simp only [List.setIfInBounds_toArray, List.set_cons_zero, List.set_cons_succ]
                      refine K_take 28 91 (v := ?_) rfl rfl (by kernel_rfl) (by kernel_rfl) (by kernel_rfl) (by decide) (by kernel_rfl) rfl (by kernel_rfl) (fun _ _ _ _ h => h) (by rfl) ?_ rfl ?_
                      rotate_left; · (intro w' hSw; subst hSw; go_simp; first | done | with_reducible rfl)
                      simp only [List.setIfInBounds_toArray, List.set_cons_zero, List.set_cons_succ]
                      refine K_end 29 rfl (by kernel_rfl) rfl ?_
                      simp only [List.drop_succ_cons, List.drop_zero]
                      go_wp2_with fail
                      obtain ⟨n0, n1, n2, hm⟩ := HN2.out
                      have hsz := hm.size
                      have hU := (((n0.set' m va (by omega) (va : Int) rfl).set' i1 vb (by omega) (vb : Int) rfl).set' i2 vc (by omega) (vc : Int) rfl).set' i3 vd (by omega) (vd : Int) rfl
                      rw [← HQ.out] at hU
                      go_roundw
                      case rel => exact ⟨m + 1, by omega, by go_num, hU, (((n1.other (by simp; omega) _).other (by simp; omega) _).other (by simp; omega) _).other (by simp; omega) _, (((n2.other (by simp) _).other (by simp) _).other (by simp) _).other (by simp) _, (((hm.setCell (fun hh => absurd hh (by simp)) _).setCell (fun hh => absurd hh (by simp)) _).setCell (fun hh => absurd hh (by simp)) _).setCell (fun hh => absurd hh (by simp)) _⟩
                      case measure => simp [intOf]; omega

                    · have hmn : m = 4 := by omega
                      have hge : ¬ ((m : Int) < 4) := by omega
                      rw [hmn] at n0
                      clear hmn hlt hm4
                      have HGJ := Lib.hid (And.intro n0 (And.intro n1 (And.intro n2 hm)))
                      clear n0 n1 n2 hm
                      go_wp2_with fail
                      obtain ⟨Y2, hY2⟩ : ∃ Y2, colQ Q Y 4 = Y2 := ⟨_, rfl⟩
                      rw [hY2] at HGJ HX1
                      have LT2 : ∀ j, Y2 j < 4294967296 := by rw [← hY2]; exact LT 4
                      clear hY2 LT
                      have LT := diag_lt Q HB.out.ql Y2 LT2
                      go_loopw [96] (fun i wx => ∃ m : Nat, m ≤ 4 ∧ i = .int .i64 (m : Int) ∧ U 53 16 wx (w.heap.size + 1) (diagQ Q Y2 m) ∧ U 53 16 wx gs W ∧ UB wx w.heap.size BL 0 ∧ Mod (fun _ => False) w wx) (fun i _ => 4 - (intOf i).toNat)
                      case atStart => exact ⟨0, by omega, rfl, HGJ.out⟩
                      case round =>
                        clear HGJ
                        obtain ⟨m, hm4, rfl, n0, n1, n2, hm⟩ := hrel
                        by_cases hlt : m < 4
                        · have hi0 : (0 : Int) ≤ (m : Int) := by omega
                          have hlt2 : (m : Int) < 4 := by omega
                          have hm16 : (m : Int) < 16 := by omega
                          obtain ⟨i1, hi1⟩ : ∃ i, 4 + (m + 1) % 4 = i := ⟨_, rfl⟩
                          obtain ⟨i2, hi2⟩ : ∃ i, 8 + (m + 2) % 4 = i := ⟨_, rfl⟩
                          obtain ⟨i3, hi3⟩ : ∃ i, 12 + (m + 3) % 4 = i := ⟨_, rfl⟩
                          have l1 : (i1 : Int) < 16 := by omega
                          have l2 : (i2 : Int) < 16 := by omega
                          have l3 : (i3 : Int) < 16 := by omega
                          have ww1 : IntKind.i64.wrap (i1 : Int) = (i1 : Int) := by rw [IntKind.wrap_i64]; omega
                          have ww2 : IntKind.i64.wrap (i2 : Int) = (i2 : Int) := by rw [IntKind.wrap_i64]; omega
                          have ww3 : IntKind.i64.wrap (i3 : Int) = (i3 : Int) := by rw [IntKind.wrap_i64]; omega
                          have e1 : 4 + ((m : Int) + 1) % 4 = (i1 : Int) := by omega
                          have e2 : 8 + ((m : Int) + 2) % 4 = (i2 : Int) := by omega
                          have e3 : 12 + ((m : Int) + 3) % 4 = (i3 : Int) := by omega
                          have nemi1 : ¬ m = i1 := by omega
                          have nemi2 : ¬ m = i2 := by omega
                          have nemi3 : ¬ m = i3 := by omega
                          have nei1m : ¬ i1 = m := by omega
                          have nei1i2 : ¬ i1 = i2 := by omega
                          have nei1i3 : ¬ i1 = i3 := by omega
                          have nei2m : ¬ i2 = m := by omega
                          have nei2i1 : ¬ i2 = i1 := by omega
                          have nei2i3 : ¬ i2 = i3 := by omega
                          have nei3m : ¬ i3 = m := by omega
                          have nei3i1 : ¬ i3 = i1 := by omega
                          have nei3i2 : ¬ i3 = i2 := by omega
                          obtain ⟨x, hxx⟩ : ∃ x, diagQ Q Y2 m = x := ⟨_, rfl⟩
                          have hxl : ∀ j, x j < 4294967296 := by rw [← hxx]; exact LT m
                          obtain ⟨va, vb, vc, vd, q38, hQ⟩ := HB.out.q x m i1 i2 i3 hxl
                          have HQ : Hid (diagQ Q Y2 (m + 1) = upd (upd (upd (upd x m va) i1 vb) i2 vc) i3 vd) := by
                            show diagQ Q Y2 (m + 1) = _
                            rw [← hQ, ← hi1, ← hi2, ← hi3, ← hxx]; rfl
                          rw [hxx] at n0
                          have HI1 := Lib.hid hi1
                          have HI2 := Lib.hid hi2
                          have HI3 := Lib.hid hi3
                          clear hi1 hi2 hi3 hxx hQ
                          have HN := Lib.hid (And.intro n0 (And.intro n1 (And.intro n2 hm)))
                          clear n0 n1 n2 hm
                          go_wp2_with fail
                          refine wp_region_K (fun wd w' => w' = wd) 23 (by kernel_rfl) (fun wd hwd => ?_)
                          have HN2 : Hid (U 53 16 wd (w.heap.size + 1) x ∧ U 53 16 wd gs W ∧ UB wd w.heap.size BL 0 ∧ Mod (fun _ => False) w wd) := by
                            subst hwd
                            exact ⟨HN.out.1, HN.out.2.1, HN.out.2.2.1, HN.out.2.2.2.drew⟩
                          have c0 := HN2.out.1.cell m (by omega)
                          have c1 := HN2.out.1.cell i1 (by omega)
                          have c2 := HN2.out.1.cell i2 (by omega)
                          have c3 := HN2.out.1.cell i3 (by omega)
                          have f0 := HN2.out.1.free m
                          have f1 := HN2.out.1.free i1
                          have f2 := HN2.out.1.free i2
                          have f3 := HN2.out.1.free i3
                          clear hwd HN
                          refine K_take 0 112 (v := ?_) rfl rfl (by kernel_rfl) (by kernel_rfl) (by kernel_rfl) (by decide) (by kernel_rfl) rfl (by kernel_rfl) (fun _ _ _ _ h => h) (by rfl) ?_ rfl ?_
                          rotate_left; · (intro w' hSw; subst hSw; go_simp; first | done | with_reducible rfl)
                          simp only [List.setIfInBounds_toArray, List.set_cons_zero, List.set_cons_succ]
                          refine K_float 1 113 (v := ?_) rfl rfl (by kernel_rfl) (by kernel_rfl) (by kernel_rfl) (by decide) (fun _ _ _ _ h => h) (by rfl) ?_ rfl ?_
                          rotate_left; · (intro w'; go_simp; first | done | with_reducible rfl)
                          simp only [List.setIfInBounds_toArray, List.set_cons_zero, List.set_cons_succ]
                          refine K_float 2 114 (v := ?_) rfl rfl (by kernel_rfl) (by kernel_rfl) (by kernel_rfl) (by decide) (fun _ _ _ _ h => h) (by rfl) ?_ rfl ?_
                          rotate_left; · (intro w'; go_simp; first | done | with_reducible rfl)
                          simp only [List.setIfInBounds_toArray, List.set_cons_zero, List.set_cons_succ]
                          refine K_float 3 115 (v := ?_) rfl rfl (by kernel_rfl) (by kernel_rfl) (by kernel_rfl) (by decide) (fun _ _ _ _ h => h) (by rfl) ?_ rfl ?_
                          rotate_left; · (intro w'; go_simp; first | done | with_reducible rfl)
                          simp only [List.setIfInBounds_toArray, List.set_cons_zero, List.set_cons_succ]
                          refine K_take 4 116 (v := ?_) rfl rfl (by kernel_rfl) (by kernel_rfl) (by kernel_rfl) (by decide) (by kernel_rfl) rfl (by kernel_rfl) (fun _ _ _ _ h => h) (by rfl) ?_ rfl ?_
                          rotate_left; · (intro w' hSw; subst hSw; go_simp; first | done | with_reducible rfl)
                          simp only [List.setIfInBounds_toArray, List.set_cons_zero, List.set_cons_succ]
                          refine K_take 5 117 (v := ?_) rfl rfl (by kernel_rfl) (by kernel_rfl) (by kernel_rfl) (by decide) (by kernel_rfl) rfl (by kernel_rfl) (fun _ _ _ _ h => h) (by rfl) ?_ rfl ?_
                          rotate_left; · (intro w' hSw; subst hSw; go_simp; first | done | with_reducible rfl)
                          simp only [List.setIfInBounds_toArray, List.set_cons_zero, List.set_cons_succ]
                          refine K_take 6 118 (v := ?_) rfl rfl (by kernel_rfl) (by kernel_rfl) (by kernel_rfl) (by decide) (by kernel_rfl) rfl (by kernel_rfl) (fun _ _ _ _ h => h) (by rfl) ?_ rfl ?_
                          rotate_left; · (intro w' hSw; subst hSw; go_simp; first | done | with_reducible rfl)
                          simp only [List.setIfInBounds_toArray, List.set_cons_zero, List.set_cons_succ]
                          refine K_take 7 119 (v := ?_) rfl rfl (by kernel_rfl) (by kernel_rfl) (by kernel_rfl) (by decide) (by kernel_rfl) rfl (by kernel_rfl) (fun _ _ _ _ h => h) (by rfl) ?_ rfl ?_
                          rotate_left; · (intro w' hSw; subst hSw; go_simp; first | done | with_reducible rfl)
                          simp only [List.setIfInBounds_toArray, List.set_cons_zero, List.set_cons_succ]
                          refine K_take 8 120 (v := ?_) rfl rfl (by kernel_rfl) (by kernel_rfl) (by kernel_rfl) (by decide) (by kernel_rfl) rfl (by kernel_rfl) (fun _ _ _ _ h => h) (by rfl) ?_ rfl ?_
                          rotate_left; · (intro w' hSw; subst hSw; go_simp; first | done | with_reducible rfl)
                          simp only [List.setIfInBounds_toArray, List.set_cons_zero, List.set_cons_succ]
                          refine K_take 9 121 (v := ?_) rfl rfl (by kernel_rfl) (by kernel_rfl) (by kernel_rfl) (by decide) (by kernel_rfl) rfl (by kernel_rfl) (fun _ _ _ _ h => h) (by rfl) ?_ rfl ?_
                          rotate_left; · (intro w' hSw; subst hSw; go_simp; first | done | with_reducible rfl)
                          simp only [List.setIfInBounds_toArray, List.set_cons_zero, List.set_cons_succ]
                          refine K_take 10 122 (v := ?_) rfl rfl (by kernel_rfl) (by kernel_rfl) (by kernel_rfl) (by decide) (by kernel_rfl) rfl (by kernel_rfl) (fun _ _ _ _ h => h) (by rfl) ?_ rfl ?_
                          rotate_left; · (intro w' hSw; subst hSw; go_simp; first | done | with_reducible rfl)
                          simp only [List.setIfInBounds_toArray, List.set_cons_zero, List.set_cons_succ]
                          refine K_take 11 123 (v := ?_) rfl rfl (by kernel_rfl) (by kernel_rfl) (by kernel_rfl) (by decide) (by kernel_rfl) rfl (by kernel_rfl) (fun _ _ _ _ h => h) (by rfl) ?_ rfl ?_
                          rotate_left; · (intro w' hSw; subst hSw; go_simp; first | done | with_reducible rfl)
                          simp only [List.setIfInBounds_toArray, List.set_cons_zero, List.set_cons_succ]
                          refine K_take 12 124 (v := ?_) rfl rfl (by kernel_rfl) (by kernel_rfl) (by kernel_rfl) (by decide) (by kernel_rfl) rfl (by kernel_rfl) (fun _ _ _ _ h => h) (by rfl) ?_ rfl ?_
                          rotate_left; · (intro w' hSw; subst hSw; go_simp; first | done | with_reducible rfl)
                          simp only [List.setIfInBounds_toArray, List.set_cons_zero, List.set_cons_succ]
                          refine K_take 13 125 (v := ?_) rfl rfl (by kernel_rfl) (by kernel_rfl) (by kernel_rfl) (by decide) (by kernel_rfl) rfl (by kernel_rfl) (fun _ _ _ _ h => h) (by rfl) ?_ rfl ?_
                          rotate_left; · (intro w' hSw; subst hSw; go_simp; first | done | with_reducible rfl)
                          simp only [List.setIfInBounds_toArray, List.set_cons_zero, List.set_cons_succ]
                          refine K_take 14 126 (v := ?_) rfl rfl (by kernel_rfl) (by kernel_rfl) (by kernel_rfl) (by decide) (by kernel_rfl) rfl (by kernel_rfl) (fun _ _ _ _ h => h) (by rfl) ?_ rfl ?_
                          rotate_left; · (intro w' hSw; subst hSw; go_simp; first | done | with_reducible rfl)
                          simp only [List.setIfInBounds_toArray, List.set_cons_zero, List.set_cons_succ]
                          refine K_take 15 127 (v := ?_) rfl rfl (by kernel_rfl) (by kernel_rfl) (by kernel_rfl) (by decide) (by kernel_rfl) rfl (by kernel_rfl) (fun _ _ _ _ h => h) (by rfl) ?_ rfl ?_
                          rotate_left; · (intro w' hSw; subst hSw; go_simp; first | done | with_reducible rfl)
                          simp only [List.setIfInBounds_toArray, List.set_cons_zero, List.set_cons_succ]
                          refine K_call 16 128 rfl rfl (by kernel_rfl) (by rfl) (f := 38) (args := ?_) ?_ ?_
                          rotate_left; · (go_simp; first | done | with_reducible rfl)
                          refine (q38 _).mono ?_
                          rintro e w' ⟨rfl, rfl⟩
                          refine ⟨_, rfl, rfl, fun hNew => ?_⟩; clear hNew
                          simp only [List.setIfInBounds_toArray, List.set_cons_zero, List.set_cons_succ]
                          refine K_take 17 111 (v := ?_) rfl rfl (by kernel_rfl) (by kernel_rfl) (by kernel_rfl) (by decide) (by kernel_rfl) rfl (by kernel_rfl) (fun _ _ _ _ h => h) (by rfl) ?_ rfl ?_
                          rotate_left; · (intro w' hSw; subst hSw; go_simp; first | done | with_reducible rfl)
                          simp only [List.setIfInBounds_toArray, List.set_cons_zero, List.set_cons_succ]
                          refine K_take 18 129 (v := ?_) rfl rfl (by kernel_rfl) (by kernel_rfl) (by kernel_rfl) (by decide) (by kernel_rfl) rfl (by kernel_rfl) (fun _ _ _ _ h => h) (by rfl) ?_ rfl ?_
                          rotate_left; · (intro w' hSw; subst hSw; go_simp; first | done | with_reducible rfl)
                          simp only [List.setIfInBounds_toArray, List.set_cons_zero, List.set_cons_succ]
                          refine K_float 19 130 (v := ?_) rfl rfl (by kernel_rfl) (by kernel_rfl) (by kernel_rfl) (by decide) (fun _ _ _ _ h => h) (by rfl) ?_ rfl ?_
                          rotate_left; · (intro w'; go_simp; first | done | with_reducible rfl)
                          simp only [List.setIfInBounds_toArray, List.set_cons_zero, List.set_cons_succ]
                          refine K_float 20 131 (v := ?_) rfl rfl (by kernel_rfl) (by kernel_rfl) (by kernel_rfl) (by decide) (fun _ _ _ _ h => h) (by rfl) ?_ rfl ?_
                          rotate_left; · (intro w'; go_simp; first | done | with_reducible rfl)
                          simp only [List.setIfInBounds_toArray, List.set_cons_zero, List.set_cons_succ]
                          refine K_float 21 132 (v := ?_) rfl rfl (by kernel_rfl) (by kernel_rfl) (by kernel_rfl) (by decide) (fun _ _ _ _ h => h) (by rfl) ?_ rfl ?_
                          rotate_left; · (intro w'; go_simp; first | done | with_reducible rfl)
                          simp only [List.setIfInBounds_toArray, List.set_cons_zero, List.set_cons_succ]
                          refine K_take 22 133 (v := ?_) rfl rfl (by kernel_rfl) (by kernel_rfl) (by kernel_rfl) (by decide) (by kernel_rfl) rfl (by kernel_rfl) (fun _ _ _ _ h => h) (by rfl) ?_ rfl ?_
                          rotate_left; · (intro w' hSw; subst hSw; go_simp; first | done | with_reducible rfl)
                          simp only [List.setIfInBounds_toArray, List.set_cons_zero, List.set_cons_succ]
                          refine K_end 23 rfl (by kernel_rfl) rfl ?_
                          simp only [List.drop_succ_cons, List.drop_zero]
                          go_wp2_with fail
                          obtain ⟨n0, n1, n2, hm⟩ := HN2.out
                          have hsz := hm.size
                          have hU := (((n0.set' m va (by omega) (va : Int) rfl).set' i1 vb (by omega) (vb : Int) rfl).set' i2 vc (by omega) (vc : Int) rfl).set' i3 vd (by omega) (vd : Int) rfl
                          rw [← HQ.out] at hU
                          go_roundw
                          case rel => exact ⟨m + 1, by omega, by go_num, hU, (((n1.other (by simp; omega) _).other (by simp; omega) _).other (by simp; omega) _).other (by simp; omega) _, (((n2.other (by simp) _).other (by simp) _).other (by simp) _).other (by simp) _, (((hm.setCell (fun hh => absurd hh (by simp)) _).setCell (fun hh => absurd hh (by simp)) _).setCell (fun hh => absurd hh (by simp)) _).setCell (fun hh => absurd hh (by simp)) _⟩
                          case measure => simp [intOf]; omega

                        · have hmn : m = 4 := by omega
                          have hge : ¬ ((m : Int) < 4) := by omega
                          rw [hmn] at n0
                          clear hmn hlt hm4
                          rw [← HX1.out] at n0
                          have HGJ := Lib.hid (And.intro n0 (And.intro n1 (And.intro n2 hm)))
                          clear n0 n1 n2 hm
                          go_wp2_with fail
                          go_roundw
                          case rel => exact ⟨k + 1, by omega, by go_num, HGJ.out⟩
                          case measure => simp [intOf]; omega

                · have h10 : k = 10 := by omega
                  have hge : ¬ ((k : Int) < 10) := by omega
                  obtain ⟨V, hV⟩ : ∃ V, X k = V := ⟨_, rfl⟩
                  have HAV := Lib.hid (show ∀ j, ((V j : Int) + (W j : Int)) % 4294967296 = (A j : Int) by intro j; rw [← hV, h10]; exact HB.out.a j)
                  rw [hV] at n0
                  clear hV h10 hlt hk
                  have HA := Lib.hid n0
                  have HN := Lib.hid (And.intro n1 (And.intro n2 hm))
                  have hwl2 := n0.lt
                  have hgsb := n1.lt
                  clear n0 n1 n2 hm
                  go_upto_region 34 with (fail)
                  rw [zeroB BL]
                  have HAA := Lib.hid (HA.out.alloc (.cells (rowB BL 0) 42))
                  have HU := Lib.hid (show UB (wr.alloc (.cells (rowB BL 0) 42)) wr.heap.size BL 0 from new_block wr _ 42 _ rfl)
                  have HNN := Lib.hid (And.intro (HN.out.1.alloc (.cells (rowB BL 0) 42)) (And.intro (HN.out.2.1.mod ((Mod.refl _ wr).alloc (.cells (rowB BL 0) 42))) (HN.out.2.2.alloc (.cells (rowB BL 0) 42))))
                  clear HN HA
                  generalize wr.alloc (.cells (rowB BL 0) 42) = W5 at HAA HU HNN ⊢
                  obtain ⟨gb, hgb⟩ : ∃ g, wr.heap.size = g := ⟨_, rfl⟩
                  rw [hgb] at HU hwl2 hgsb ⊢
                  clear hgb
                  go_upto_region 35 with (refine wpList_load_row rfl 53 (.tmp 7) rfl _ rfl _ _ _ _ HAA.out Try.underlying53 rfl (by kernel_rfl) ?_)
                  clear HAA
                  try go_frame
                  go_wp2_with fail
                  go_loopw [140] (fun i wx => ∃ k : Nat, k ≤ 16 ∧ i = .int .i64 (k : Int) ∧ UB wx gb BL (4 * k) ∧ U 53 16 wx gs W ∧ UB wx w.heap.size BL 0 ∧ Mod (fun _ => False) w wx) (fun i _ => 16 - (intOf i).toNat)
                  case atStart => exact ⟨0, by omega, rfl, HU.out, HNN.out⟩
                  case round =>
                    clear HU HNN hge
                    obtain ⟨k, hk, rfl, n0, n1, n2, hm⟩ := hrel
                    by_cases hlt : k < 16
                    · have hi0 : (0 : Int) ≤ (k : Int) := by omega
                      have hlt2 : (k : Int) < 16 := by omega
                      have hidx := idx_row 53 16 Try.underlying53 V k hlt
                      have hs := n1.cell k hlt
                      have hav := HAV.out k
                      have hal := HB.out.al k
                      obtain ⟨AA, hAA⟩ : ∃ x, A k = x := ⟨_, rfl⟩
                      have b0 := HB.out.bl0 k hlt
                      have b1 := HB.out.bl1 k hlt
                      have b2 := HB.out.bl2 k hlt
                      have b3 := HB.out.bl3 k hlt
                      rw [hAA] at hav hal b0 b1 b2 b3
                      clear hAA
                      have m0 : 4 * (k : Int) < 64 := by omega
                      have m1 : 4 * (k : Int) + 1 < 64 := by omega
                      have m2 : 4 * (k : Int) + 2 < 64 := by omega
                      have m3 : 4 * (k : Int) + 3 < 64 := by omega
                      have p0 : 0 ≤ 4 * (k : Int) := by omega
                      have p1 : 0 ≤ 4 * (k : Int) + 1 := by omega
                      have p2 : 0 ≤ 4 * (k : Int) + 2 := by omega
                      have p3 : 0 ≤ 4 * (k : Int) + 3 := by omega
                      have t0 : (4 * (k : Int)).toNat = 4 * k := by omega
                      have t1 : (4 * (k : Int) + 1).toNat = 4 * k + 1 := by omega
                      have t2 : (4 * (k : Int) + 2).toNat = 4 * k + 2 := by omega
                      have t3 : (4 * (k : Int) + 3).toNat = 4 * k + 3 := by omega
                      have c0 := n0.cell (4 * k) (by omega)
                      have c1 := n0.cell (4 * k + 1) (by omega)
                      have c2 := n0.cell (4 * k + 2) (by omega)
                      have c3 := n0.cell (4 * k + 3) (by omega)
                      have f0 := n0.free (4 * k)
                      have f1 := n0.free (4 * k + 1)
                      have f2 := n0.free (4 * k + 2)
                      have f3 := n0.free (4 * k + 3)
                      have q3 : (AA : Int) / 16777216 = ((UInt8.ofNat (AA / 16777216)).toNat : Int) := by rw [UInt8.toNat_ofNat']; omega
                      have q2 : (AA : Int) / 65536 % 256 = ((UInt8.ofNat (AA / 65536)).toNat : Int) := by rw [UInt8.toNat_ofNat']; omega
                      have q1 : (AA : Int) / 256 % 256 = ((UInt8.ofNat (AA / 256)).toNat : Int) := by rw [UInt8.toNat_ofNat']; omega
                      have q0 : (AA : Int) % 256 = ((UInt8.ofNat AA).toNat : Int) := by rw [UInt8.toNat_ofNat']; omega
                      have HNx := Lib.hid ((((n0.nx (4 * k) rfl (by omega) _ b0 _ q0).nx (4 * k + 1) rfl (by omega) _ b1 _ q1).nx (4 * k + 2) rfl (by omega) _ b2 _ q2).nx (4 * k + 3) rfl (by omega) _ b3 _ q3)
                      have HN := Lib.hid (And.intro n1 (And.intro n2 hm))
                      have hne := n1.lt
                      clear n0 n1 n2 hm b0 b1 b2 b3 q0 q1 q2 q3
                      go_wp2_with fail
                      obtain ⟨n1, n2, hm⟩ := HN.out
                      go_roundw
                      case rel => exact ⟨k + 1, by omega, by go_num, HNx.out, (((n1.other (by simp; omega) _).other (by simp; omega) _).other (by simp; omega) _).other (by simp; omega) _, (((n2.other (by simp; omega) _).other (by simp; omega) _).other (by simp; omega) _).other (by simp; omega) _, (((hm.setCell (fun hh => absurd hh (by simp; omega)) _).setCell (fun hh => absurd hh (by simp; omega)) _).setCell (fun hh => absurd hh (by simp; omega)) _).setCell (fun hh => absurd hh (by simp; omega)) _⟩
                      case measure => simp [intOf]; omega
                    · have hkn : k = 16 := by omega
                      have hge2 : ¬ ((k : Int) < 16) := by omega
                      rw [hkn] at n0
                      clear hkn hlt hk
                      have H1 := Lib.hid n0
                      have H2 := Lib.hid n2
                      have HMM := Lib.hid hm
                      clear n0 n1 n2 hm
                      go_wp2_with (first | (refine wpList_load_row rfl 42 (.tmp 17) rfl _ rfl _ _ _ _ H1.out Try.underlying42 rfl (by kernel_rfl) ?_) | (refine wpList_store_row rfl 42 (.tmp 6) (.tmp 176) rfl w.heap.size (rowB BL 64) rfl rfl _ _ H2.out (by kernel_rfl) (by rw [rowB_size, rowB_size]) (rowB_one BL 64) ?_))
                      exact bodyPost_ret (v := .agg (rowB BL 64)) (results_cell_row (P := Try.prog) (fn := Try.f22) (p := 6) (ty := 42) rfl _ _ _ _ _ _ _ rfl (setRow_heap _ _ _ _ _ _ H2.out) Try.underlying42 rfl (by kernel_rfl)) rfl ⟨rfl, HMM.out.row (fun hh => by omega) _⟩
end Go.Proofs.Ytpnpmploaaenlaa
