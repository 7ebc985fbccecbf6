/- The text of a sum: the walk. The padding of a sum: the walk. -/
import Derived.Test.YtpnpmploaaenlaaMS2
import Derived.Test.YtpnpmploaaenlaaMP5
import Derived.Test.YtpnpmploaaenlaaMW5
import Derived.Test.YtpnpmploaaenlaaMShelf
import Derived.Test.YtpnpmploaaenlaaMWp
namespace Go.Proofs.Ytpnpmploaaenlaa
open Go.RowKit Wd
set_option linter.unusedSimpArgs false
set_option linter.unusedVariables false

def tx (L : List UInt8) (c : Nat) (j : Nat) : UInt8 := if j < c then L.getD j 0 else 0
theorem tx_lo (L : List UInt8) {c j : Nat} (h : j < c) : tx L c j = L.getD j 0 := by unfold tx; rw [if_pos h]
theorem tx_hi (L : List UInt8) {c j : Nat} (h : ¬ j < c) : tx L c j = 0 := by unfold tx; rw [if_neg h]
theorem Row.next {w : World} {g n : Nat} {L : List UInt8} {c : Nat} (h : Ytpnpmploaaenlaa.Row w g n (tx L c)) (hc : c < n) (x : UInt8) (hx : L.getD c 0 = x) (y : Int) (hy : y = (x.toNat : Int)) : Ytpnpmploaaenlaa.Row (w.setCell ⟨g, c, none⟩ (.int .u8 y)) g n (tx L (c + 1)) :=
  h.set' c hc x y hy _ (by rw [tx_lo L (by omega), hx]) (fun j _ hne => by
    by_cases e : j < c
    · rw [tx_lo L e, tx_lo L (by omega)]
    · rw [tx_hi L e, tx_hi L (by omega)])
theorem putL_len (z : Nat → Int) (n : Nat) : (putL z n).length = 4 * n := by
  induction n with
  | zero => rfl
  | succ n ih =>
    have : putL z (n + 1) = putL z n ++ b4 (z n) := by unfold putL; rw [List.range_succ, List.flatMap_append]; simp
    rw [this, List.length_append, ih]; show 4 * n + 4 = _; omega
theorem putL_at (z : Nat → Int) (n k i : Nat) (hk : k < n) (hi : i < 4) : (putL z n).getD (4 * k + i) 0 = (b4 (z k)).getD i 0 := by
  induction n with
  | zero => omega
  | succ n ih =>
    have e : putL z (n + 1) = putL z n ++ b4 (z n) := by unfold putL; rw [List.range_succ, List.flatMap_append]; simp
    rw [e]
    by_cases h : k < n
    · rw [← ih h, List.getD_eq_getElem?_getD, List.getD_eq_getElem?_getD, List.getElem?_append_left (by rw [putL_len]; omega)]
    · obtain rfl : k = n := by omega
      rw [List.getD_eq_getElem?_getD, List.getD_eq_getElem?_getD, List.getElem?_append_right (by rw [putL_len]; omega), putL_len, Nat.add_sub_cancel_left]
theorem wordN_nat (x : Nat) (h : x < 4294967296) : wordN (x : Int) = x := by unfold wordN; omega
theorem idx_row (ty n : Nat) (hu : Try.prog.underlying ty = some (.array n 52)) (z : Nat → Nat) (k : Nat) (hk : k < n) (w : World) : (Instr.index ty (.agg (rowV n z)) (.int .i64 (k : Int))).run Try.prog w = .ok (.int .u32 (z k : Nat)) w := by
  have hg := rowV_get n z k hk
  have h1 : (0 : Int) ≤ (k : Int) ∧ (k : Int) < (n : Int) := by omega
  simp [Instr.index, run_underlying hu, asIntOf, h1, hk, hg, Try.sizeOf52, Try.isAgg52, go_sem]
theorem Row.nx {w : World} {g n : Nat} {L : List UInt8} {a : Nat} (h : Ytpnpmploaaenlaa.Row w g n (tx L a)) (c : Nat) (e : a = c) (hc : c < n) (x : UInt8) (hx : L.getD c 0 = x) (y : Int) (hy : y = (x.toNat : Int)) : Ytpnpmploaaenlaa.Row (w.setCell ⟨g, c, none⟩ (.int .u8 y)) g n (tx L (c + 1)) := by
  subst e; exact h.next hc x hx y hy
def textL (h : Nat → Nat) : List UInt8 := putL (fun j => (h j : Int)) 8
set_option maxRecDepth 100000 in
set_option maxHeartbeats 2000000 in
theorem text_any (h : Nat → Nat) (hh : ∀ k, h k < 4294967296) (w : World) :
    Calls Try.prog 65 #[.agg (rowV 8 h)] w fun e w' => e = .returned (.string ⟨(textL h).toArray⟩) ∧ Mod (fun _ => False) w w' := by
  have HH := Lib.hid hh
  clear hh
  go_enter Try.func65, Try.ntmps65
  have HA := Lib.hid ((U.new (ty := 83) (n := 8) w h w.heap.size rfl).alloc (.cells (Array.replicate 32 (.int .u8 0)) 102))
  go_upto_region 3 with (first | (refine wpList_load_row rfl 83 (.tmp 1) rfl _ rfl _ _ _ _ HA.out Try.underlying83 rfl (by kernel_rfl) ?_))
  go_wp2_with fail
  go_loopw [7] (fun i wr => ∃ k : Nat, k ≤ 8 ∧ i = .int .i64 (k : Int) ∧ Ytpnpmploaaenlaa.Row wr (w.heap.size + 1) 32 (tx (textL h) (4 * k)) ∧ Mod (fun _ => False) w wr) (fun i _ => 8 - (intOf i).toNat)
  case atStart =>
    refine ⟨0, by omega, rfl, ⟨Array.replicate 32 (.int .u8 0), 102, (0, 0), new_block _ _ _ _ (by simp), .inr rfl, by simp, fun j hj => ?_⟩, ((Mod.refl _ _).alloc _).alloc _⟩
    rw [tx_hi _ (by omega)]
    simp [hj]
  case round =>
    obtain ⟨k, hk, rfl, row, hm⟩ := hrel
    by_cases hlt : k < 8
    · have hi0 : (0 : Int) ≤ (k : Int) := by omega
      have hlt2 : (k : Int) < 8 := by omega
      have hget := rowV_get 8 h k hlt
      have hx := HH.out k
      have m0 : 4 * (k : Int) < 32 := by omega
      have m1 : 4 * (k : Int) + 1 < 32 := by omega
      have m2 : 4 * (k : Int) + 2 < 32 := by omega
      have m3 : 4 * (k : Int) + 3 < 32 := by omega
      have p0 : 0 ≤ 4 * (k : Int) := by omega
      have p1 : 0 ≤ 4 * (k : Int) + 1 := by omega
      have p2 : 0 ≤ 4 * (k : Int) + 2 := by omega
      have p3 : 0 ≤ 4 * (k : Int) + 3 := by omega
      have t0 : (4 * (k : Int)).toNat = 4 * k := by omega
      have t1 : (4 * (k : Int) + 1).toNat = 4 * k + 1 := by omega
      have t2 : (4 * (k : Int) + 2).toNat = 4 * k + 2 := by omega
      have t3 : (4 * (k : Int) + 3).toNat = 4 * k + 3 := by omega
      have c0 := row.cell (4 * k) (by omega)
      have c1 := row.cell (4 * k + 1) (by omega)
      have c2 := row.cell (4 * k + 2) (by omega)
      have c3 := row.cell (4 * k + 3) (by omega)
      have f0 := row.free (4 * k) (by omega)
      have f1 := row.free (4 * k + 1) (by omega)
      have f2 := row.free (4 * k + 2) (by omega)
      have f3 := row.free (4 * k + 3) (by omega)
      have hidx := idx_row 83 8 Try.underlying83 h k hlt
      have HR := Lib.hid row
      have HM := Lib.hid hm
      clear row hm
      have b0 := putL_at (fun j => (h j : Int)) 8 k 0 hlt (by decide)
      have b1 := putL_at (fun j => (h j : Int)) 8 k 1 hlt (by decide)
      have b2 := putL_at (fun j => (h j : Int)) 8 k 2 hlt (by decide)
      have b3 := putL_at (fun j => (h j : Int)) 8 k 3 hlt (by decide)
      unfold b4 at b0 b1 b2 b3
      rw [wordN_nat _ hx] at b0 b1 b2 b3
      have q0 : (h k : Int) / 16777216 = ((UInt8.ofNat (h k / 16777216)).toNat : Int) := by rw [UInt8.toNat_ofNat']; omega
      have q1 : (h k : Int) / 65536 % 256 = ((UInt8.ofNat (h k / 65536)).toNat : Int) := by rw [UInt8.toNat_ofNat']; omega
      have q2 : (h k : Int) / 256 % 256 = ((UInt8.ofNat (h k / 256)).toNat : Int) := by rw [UInt8.toNat_ofNat']; omega
      have q3 : (h k : Int) % 256 = ((UInt8.ofNat (h k)).toNat : Int) := by rw [UInt8.toNat_ofNat']; omega
      have N := (((HR.out.nx (4 * k) rfl (by omega) _ b0 _ q0).nx (4 * k + 1) rfl (by omega) _ b1 _ q1).nx (4 * k + 2) rfl (by omega) _ b2 _ q2).nx (4 * k + 3) rfl (by omega) _ b3 _ q3
      have HNx := Lib.hid N
      clear N b0 b1 b2 b3 q0 q1 q2 q3
      go_wp2_with fail
      go_roundw
      case rel => exact ⟨k + 1, by omega, by go_num, HNx.out, (((HM.out.setCell (fun hh => absurd hh (by simp)) _).setCell (fun hh => absurd hh (by simp)) _).setCell (fun hh => absurd hh (by simp)) _).setCell (fun hh => absurd hh (by simp)) _⟩
      case measure => simp [intOf]; omega
    · obtain rfl : k = 8 := by omega
      have hst : (convert 33 9 (.slice (some ⟨w.heap.size + 1, 0, none⟩) 32 32)).run Try.prog wr = .ok (.string ⟨(textL h).toArray⟩) wr := by
        have hl : (textL h).length = 32 := by unfold textL; rw [putL_len]
        have hrow : Ytpnpmploaaenlaa.Row wr (w.heap.size + 1) (textL h).length (fun j => (textL h).getD j 0) := by
          rw [hl]
          exact row.eq (fun j hj => tx_lo _ hj)
        have := hrow.str 32
        rw [hl] at this
        exact this
      have HM := Lib.hid hm
      clear row hm
      go_wp2_with fail
      go_ret
      exact ⟨rfl, HM.out⟩
end Go.Proofs.Ytpnpmploaaenlaa
namespace Go.Proofs.Ytpnpmploaaenlaa
open Go.RowKit Wd
set_option linter.unusedSimpArgs false
set_option linter.unusedVariables false

theorem Mod.ofBelow {w w' : World} (h : Below w.heap.size w w') : Mod (fun _ => False) w w' := ⟨h.os, h.tape, h.output, h.size, fun k hk _ => h.block k hk⟩
theorem repeat_zero (c : Nat) : Lib.repeatL [0] c = List.replicate c 0 := by
  induction c with
  | zero => rfl
  | succ c ih => rw [Lib.repeatL, ih]; rfl
theorem zeros_any (c : Nat) (hc : c ≤ 100000) (w : World) :
    Calls Try.prog 32 #[.string ⟨#[0]⟩, .int .i64 (c : Int)] w fun e w' => e = .returned (.string ⟨(List.replicate c 0).toArray⟩) ∧ Mod (fun _ => False) w w' := by
  refine (Try.strings_Repeat ⟨#[0]⟩ c w (by omega) (by show 1 * c ≤ _; omega)).mono ?_
  rintro e w' ⟨rfl, hb⟩
  exact ⟨by rw [← repeat_zero], Mod.ofBelow hb⟩
theorem two_ints (w : World) (u v : Int) (z : Nat → Int) (h0 : z 0 = u) (h1 : z 1 = v) : Ints (w.alloc (.cells #[.int .i64 u, .int .i64 v] 3)) (some ⟨w.heap.size, 0, none⟩) 2 z := fun k hk => by
  have : k = 0 ∨ k = 1 := by omega
  rcases this with rfl | rfl
  · subst h0; exact ⟨_, _, rfl, cell_new w _ 3 0 _ rfl⟩
  · subst h1; exact ⟨_, _, rfl, cell_new w _ 3 1 _ rfl⟩
theorem bs_app (a b : List UInt8) : (⟨a.toArray⟩ : ByteArray) ++ ⟨b.toArray⟩ = ⟨(a ++ b).toArray⟩ := by
  apply ByteArray.ext
  simp
theorem bs_repl (c : Nat) (x : UInt8) : (⟨Array.replicate c x⟩ : ByteArray) = ⟨(List.replicate c x).toArray⟩ := by simp
def padZ (n : Nat) (j : Nat) : Int := if j = 0 then ((n / 536870912 : Nat) : Int) else ((n * 8 : Nat) : Int)
def padL (n : Nat) : List UInt8 := 128 :: (List.replicate ((119 - n % 64) % 64) 0 ++ putL (padZ n) 2)
set_option maxRecDepth 100000 in
set_option maxHeartbeats 2000000 in
theorem pad_any (n : Nat) (hn : n ≤ 1125899906842624) (w : World) :
    Calls Try.prog 61 #[.int .i64 (n : Int)] w fun e w' => e = .returned (.tuple #[.string ⟨(padL n).toArray⟩, .int .i64 0]) ∧ Mod (fun _ => False) w w' := by
  go_enter Try.func61, Try.ntmps61
  have h0 : ¬ (n : Int) < 0 := by omega
  have h1 : ¬ (1125899906842624 : Int) < (n : Int) := by omega
  obtain ⟨c, hc⟩ : ∃ c, (119 - n % 64) % 64 = c := ⟨_, rfl⟩
  have e : (119 - (n : Int)) % 64 = (c : Int) := by omega
  have hc2 : c < 64 := by omega
  have hbig : ¬ (9223372036854775807 < 1 + c + (putL (padZ n) 2).length) := by rw [putL_len]; omega
  go_wp2_with (first | (go_at_call 32; refine (zeros_any c (by omega) _).mono ?_; rintro e2 w' ⟨rfl, hm⟩) | (go_at_call 85; refine (putbig_any _ 2 2 (padZ n) _ (by decide) (two_ints _ _ _ (padZ n) (by unfold padZ; rw [if_pos rfl]; omega) (by unfold padZ; rw [if_neg (by decide)]; omega))).mono ?_; rintro e3 w2 ⟨rfl, hm2⟩))
  go_ret2
  refine ⟨?_, (hm.alloc _).tr hm2⟩
  rw [bs_repl, show (#[128] : Array UInt8) = [128].toArray from rfl, bs_app, bs_app]
  unfold padL
  rw [hc]
  rfl
end Go.Proofs.Ytpnpmploaaenlaa
