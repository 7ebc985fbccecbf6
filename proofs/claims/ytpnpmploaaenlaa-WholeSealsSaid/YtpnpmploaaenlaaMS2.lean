/- The constants, and the words in which a sum begins. The values of a round. -/
import Derived.Test.YtpnpmploaaenlaaMS0
namespace Go.Proofs.Ytpnpmploaaenlaa
open Go.RowKit Wd
set_option linter.unusedSimpArgs false
set_option linter.unusedVariables false

theorem zero64 : (#[.int .u32 0, .int .u32 0, .int .u32 0, .int .u32 0, .int .u32 0, .int .u32 0, .int .u32 0, .int .u32 0, .int .u32 0, .int .u32 0, .int .u32 0, .int .u32 0, .int .u32 0, .int .u32 0, .int .u32 0, .int .u32 0, .int .u32 0, .int .u32 0, .int .u32 0, .int .u32 0, .int .u32 0, .int .u32 0, .int .u32 0, .int .u32 0, .int .u32 0, .int .u32 0, .int .u32 0, .int .u32 0, .int .u32 0, .int .u32 0, .int .u32 0, .int .u32 0, .int .u32 0, .int .u32 0, .int .u32 0, .int .u32 0, .int .u32 0, .int .u32 0, .int .u32 0, .int .u32 0, .int .u32 0, .int .u32 0, .int .u32 0, .int .u32 0, .int .u32 0, .int .u32 0, .int .u32 0, .int .u32 0, .int .u32 0, .int .u32 0, .int .u32 0, .int .u32 0, .int .u32 0, .int .u32 0, .int .u32 0, .int .u32 0, .int .u32 0, .int .u32 0, .int .u32 0, .int .u32 0, .int .u32 0, .int .u32 0, .int .u32 0, .int .u32 0] : Array Value) = rowV 64 fun _ => 0 := by kernel_rfl
theorem zero16 : (#[.int .u32 0, .int .u32 0, .int .u32 0, .int .u32 0, .int .u32 0, .int .u32 0, .int .u32 0, .int .u32 0, .int .u32 0, .int .u32 0, .int .u32 0, .int .u32 0, .int .u32 0, .int .u32 0, .int .u32 0, .int .u32 0] : Array Value) = rowV 16 fun _ => 0 := by kernel_rfl
theorem zero8 : (#[.int .u32 0, .int .u32 0, .int .u32 0, .int .u32 0, .int .u32 0, .int .u32 0, .int .u32 0, .int .u32 0] : Array Value) = rowV 8 fun _ => 0 := by kernel_rfl
set_option maxRecDepth 100000 in
set_option maxHeartbeats 4000000 in
theorem start_any (w : World) :
    Calls Try.prog 63 #[] w fun e w' => e = .returned (.agg (rowV 8 hN)) ∧ Mod (fun _ => False) w w' := by
  have HZ := Lib.hid (U.new (ty := 83) (n := 8) w (fun _ => 0) w.heap.size rfl)
  have hm := (Mod.refl (fun _ => False) w).alloc (.cells (rowV 8 fun _ => 0) 83)
  go_enter Try.func63, Try.ntmps63
  go_upto_region 1 with (fail)
  rw [zero8]
  generalize hW : w.alloc (.cells (rowV 8 fun _ => 0) 83) = W at *
  go_wp2_with (refine wpList_store_row rfl 83 (.tmp 0) (.tmp 1) rfl w.heap.size (rowV 8 hN) rfl (by kernel_rfl) _ _ HZ.out (by kernel_rfl) rfl (rowV_one 8 hN) ?_)
  exact bodyPost_ret (v := .agg (rowV 8 hN)) (results_cell_row (P := Try.prog) (fn := Try.f63) (p := 0) (ty := 83) rfl _ _ _ _ _ _ _ rfl (HZ.out.row hN) Try.underlying83 rfl (by kernel_rfl)) rfl ⟨rfl, hm.row (fun hh => by omega) _⟩
set_option maxRecDepth 100000 in
set_option maxHeartbeats 4000000 in
theorem constants_any (w : World) :
    Calls Try.prog 62 #[] w fun e w' => e = .returned (.agg (rowV 64 kN)) ∧ Mod (fun _ => False) w w' := by
  have HZ := Lib.hid (U.new (ty := 80) (n := 64) w (fun _ => 0) w.heap.size rfl)
  have hm := (Mod.refl (fun _ => False) w).alloc (.cells (rowV 64 fun _ => 0) 80)
  go_enter Try.func62, Try.ntmps62
  go_upto_region 1 with (fail)
  rw [zero64]
  generalize hW : w.alloc (.cells (rowV 64 fun _ => 0) 80) = W at *
  go_wp2_with (refine wpList_store_row rfl 80 (.tmp 0) (.tmp 1) rfl w.heap.size (rowV 64 kN) rfl (by kernel_rfl) _ _ HZ.out (by kernel_rfl) rfl (rowV_one 64 kN) ?_)
  exact bodyPost_ret (v := .agg (rowV 64 kN)) (results_cell_row (P := Try.prog) (fn := Try.f62) (p := 0) (ty := 80) rfl _ _ _ _ _ _ _ rfl (HZ.out.row kN) Try.underlying80 rfl (by kernel_rfl)) rfl ⟨rfl, hm.row (fun hh => by omega) _⟩
end Go.Proofs.Ytpnpmploaaenlaa
namespace Go.Proofs.Ytpnpmploaaenlaa
open Go.RowKit Wd
theorem add32 (a b : Nat) : ((a : Int) + (b : Int)) % 4294967296 = (((a + b) % 4294967296 : Nat) : Int) := by omega
theorem stepN_eq (h b : Nat → Nat) (j : Nat) : stepN h b j = (h j + rnds h (sched b) 64 j) % 4294967296 := rfl
theorem rnds_succ (v x : Nat → Nat) (k : Nat) : rnds v x (k + 1) = rnd (rnds v x k) (kN k) (x k) := rfl
theorem xorl {a b : Nat} (ha : a < 4294967296) (hb : b < 4294967296) : a ^^^ b < 4294967296 := Nat.xor_lt_two_pow (n := 32) ha hb
theorem andl {a b : Nat} (ha : a < 4294967296) : a &&& b < 4294967296 := Nat.lt_of_le_of_lt Nat.and_le_left ha
theorem sb_val (x a b c : Nat) (hx : x < 4294967296) : bits BinOp.xor IntKind.u32 (bits BinOp.xor IntKind.u32 (rotN x a : Int) (rotN x b : Int)) (rotN x c : Int) = ((rotN x a ^^^ rotN x b ^^^ rotN x c : Nat) : Int) := by
  rw [u32_xor_nat _ _ (rotN_lt x a hx) (rotN_lt x b hx), u32_xor_nat _ _ (xorl (rotN_lt x a hx) (rotN_lt x b hx)) (rotN_lt x c hx)]
theorem not_nat (e : Nat) (he : e < 4294967296) : 4294967295 ^^^ e = 4294967295 - e := by
  have h := congrArg BitVec.toNat (BitVec.allOnes_xor (x := BitVec.ofNat 32 e))
  rw [BitVec.toNat_xor, BitVec.toNat_not, BitVec.toNat_allOnes, BitVec.toNat_ofNat, Nat.mod_eq_of_lt (by omega)] at h
  simpa using h
theorem ch_val (e f g : Nat) (he : e < 4294967296) (hf : f < 4294967296) (hg : g < 4294967296) : bits BinOp.xor IntKind.u32 (bits BinOp.and IntKind.u32 (e : Int) (f : Int)) (bits BinOp.and IntKind.u32 (bits BinOp.xor IntKind.u32 IntKind.u32.max (e : Int)) (g : Int)) = ((chN e f g : Nat) : Int) := by
  rw [show IntKind.u32.max = ((4294967295 : Nat) : Int) by decide, u32_xor_nat _ _ (by decide) he, not_nat e he, u32_and_nat _ _ he hf, u32_and_nat _ _ (by omega) hg, u32_xor_nat _ _ (andl he) (andl (by omega))]
  rfl
theorem maj_val (a b c : Nat) (ha : a < 4294967296) (hb : b < 4294967296) (hc : c < 4294967296) : bits BinOp.xor IntKind.u32 (bits BinOp.xor IntKind.u32 (bits BinOp.and IntKind.u32 (a : Int) (b : Int)) (bits BinOp.and IntKind.u32 (a : Int) (c : Int))) (bits BinOp.and IntKind.u32 (b : Int) (c : Int)) = ((majN a b c : Nat) : Int) := by
  rw [u32_and_nat _ _ ha hb, u32_and_nat _ _ ha hc, u32_and_nat _ _ hb hc, u32_xor_nat _ _ (andl ha) (andl ha), u32_xor_nat _ _ (xorl (andl ha) (andl ha)) (andl hb)]
  rfl
theorem wrap_add32 (a b : Nat) : IntKind.u32.wrap ((a : Int) + (b : Int)) = (((a + b) % 4294967296 : Nat) : Int) := by rw [IntKind.wrap_u32]; omega
theorem t_val (y : Nat → Nat) (KK X : Nat) (y4 : y 4 < 4294967296) (y5 : y 5 < 4294967296) (y6 : y 6 < 4294967296) :
    IntKind.u32.wrap (IntKind.u32.wrap (IntKind.u32.wrap (IntKind.u32.wrap ((y 7 : Int) + bits BinOp.xor IntKind.u32 (bits BinOp.xor IntKind.u32 (rotN (y 4) 26 : Int) (rotN (y 4) 21 : Int)) (rotN (y 4) 7 : Int)) + bits BinOp.xor IntKind.u32 (bits BinOp.and IntKind.u32 (y 4 : Int) (y 5 : Int)) (bits BinOp.and IntKind.u32 (bits BinOp.xor IntKind.u32 IntKind.u32.max (y 4 : Int)) (y 6 : Int))) + (KK : Int)) + (X : Int)) = ((rndT y KK X % 4294967296 : Nat) : Int) := by
  rw [sb_val (y 4) 26 21 7 y4, ch_val (y 4) (y 5) (y 6) y4 y5 y6]
  unfold rndT sb1
  generalize rotN (y 4) 26 ^^^ rotN (y 4) 21 ^^^ rotN (y 4) 7 = A
  generalize chN (y 4) (y 5) (y 6) = C
  clear y4 y5 y6
  generalize y 7 = E
  rw [wrap_add32, wrap_add32, wrap_add32, wrap_add32]
  congr 1
  omega
theorem u_val (y : Nat → Nat) (y0 : y 0 < 4294967296) (y1 : y 1 < 4294967296) (y2 : y 2 < 4294967296) :
    IntKind.u32.wrap (bits BinOp.xor IntKind.u32 (bits BinOp.xor IntKind.u32 (rotN (y 0) 30 : Int) (rotN (y 0) 19 : Int)) (rotN (y 0) 10 : Int) + bits BinOp.xor IntKind.u32 (bits BinOp.xor IntKind.u32 (bits BinOp.and IntKind.u32 (y 0 : Int) (y 1 : Int)) (bits BinOp.and IntKind.u32 (y 0 : Int) (y 2 : Int))) (bits BinOp.and IntKind.u32 (y 1 : Int) (y 2 : Int))) = ((rndU y % 4294967296 : Nat) : Int) := by
  rw [sb_val (y 0) 30 19 10 y0, maj_val (y 0) (y 1) (y 2) y0 y1 y2]
  unfold rndU sb0
  exact wrap_add32 _ _
theorem rnd_pick (y : Nat → Nat) (KK X t u : Nat) (ht : rndT y KK X % 4294967296 = t) (hu : rndU y % 4294967296 = u) : pick8 ((t + u) % 4294967296) (y 0) (y 1) (y 2) ((y 3 + t) % 4294967296) (y 4) (y 5) (y 6) = rnd y KK X := by
  subst ht
  subst hu
  unfold rnd
  rw [← Nat.add_mod, Nat.add_mod_mod]
end Go.Proofs.Ytpnpmploaaenlaa
