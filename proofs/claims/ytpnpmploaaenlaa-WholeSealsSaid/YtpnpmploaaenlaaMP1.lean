/- A number carried. -/
import Derived.Test.YtpnpmploaaenlaaMP0
import Derived.Deep.DeepCutAuto
import Derived.Deep.CutBlock
namespace Go.Proofs.Ytpnpmploaaenlaa
open Go.RowKit
set_option linter.unusedSimpArgs false
set_option linter.unusedVariables false

def cry (f : Nat → Nat) : Nat → Nat
  | 0 => 0
  | k + 1 => (f k + cry f k) / 67108864
def lowd (f : Nat → Nat) (k : Nat) : Nat := (f k + cry f k) % 67108864
def carM (f : Nat → Nat) (k : Nat) : Nat → Nat := fun j => if j < k then lowd f j else f j
def carR (f : Nat → Nat) : Nat → Nat := fun j => if j = 0 then (lowd f 0 + 5 * cry f 5) % 67108864 else if j = 1 then lowd f 1 + (lowd f 0 + 5 * cry f 5) / 67108864 else lowd f j
theorem u64_mask (n : Nat) (h : n < 18446744073709551616) : bits BinOp.and IntKind.u64 (n : Int) 67108863 = ((n % 67108864 : Nat) : Int) := by
  rw [show (67108863 : Int) = ((67108863 : Nat) : Int) from rfl, u64_and_nat _ _ h (by decide), show (67108863 : Nat) = 2 ^ 26 - 1 from rfl, Nat.and_two_pow_sub_one_eq_mod]
theorem cry_lt (f : Nat → Nat) (hb : ∀ j, j < 5 → f j < 9223372036854775808) (k : Nat) (hk : k ≤ 5) : cry f k < 1099511627776 := by
  induction k with
  | zero => show 0 < _; omega
  | succ k ih =>
    have h1 := ih (by omega); have h2 := hb k (by omega)
    show (f k + cry f k) / 67108864 < _
    omega
theorem carM_upd (f : Nat → Nat) (k x y : Nat) (hx : y = lowd f k) (j : Nat) : upd (upd (carM f k) k x) k y j = carM f (k + 1) j := by
  unfold upd carM
  by_cases e : j = k
  · subst e; rw [if_pos rfl, if_pos (by omega), hx]
  · rw [if_neg e, if_neg e]
    by_cases e2 : j < k
    · rw [if_pos e2, if_pos (by omega)]
    · rw [if_neg e2, if_neg (by omega)]
set_option maxRecDepth 100000 in
set_option maxHeartbeats 1000000 in
theorem carried_any (f : Nat → Nat) (hb : ∀ j, j < 5 → f j < 9223372036854775808) (w : World) :
    Calls Try.prog 68 #[.agg (fiveV f)] w fun e w' => e = .returned (.agg (fiveV (carR f))) ∧ Mod (fun _ => False) w w' := by
  have HB := Lib.hid hb
  clear hb
  go_enter Try.func68, Try.ntmps68
  go_wp2_with fail
  go_loopw [3, 5] (fun c i wr => ∃ k : Nat, k ≤ 5 ∧ i = .int .i64 (k : Int) ∧ c = .int .u64 ((cry f k : Nat) : Int) ∧ Num wr w.heap.size (carM f k) ∧ Num wr (w.heap.size + 1) (fun _ => 0) ∧ Mod (fun _ => False) w wr) (fun _ i _ => 5 - (intOf i).toNat)
  case atStart =>
    refine ⟨0, by omega, rfl, rfl, ?_, ?_, ((Mod.refl _ _).alloc _).alloc _⟩
    · exact (Num.new w (carM f 0) _ rfl).alloc _
    · exact Num.new _ (fun _ => 0) _ (by simp)
  case round =>
    obtain ⟨k, hk, rfl, rfl, n0, n1, hm⟩ := hrel
    by_cases hlt : k < 5
    · have hi0 : (0 : Int) ≤ (k : Int) := by omega
      have hlt2 : (k : Int) < 5 := by omega
      have hX := n0.cell k hlt
      rw [show carM f k k = f k by unfold carM; rw [if_neg (by omega)]] at hX
      have hF := n0.free k
      have hz := HB.out k hlt
      have hc := cry_lt f HB.out k hk
      have HN := Lib.hid n0
      have HM := Lib.hid hm
      have HZ := Lib.hid n1
      clear n0 n1 hm
      have hc1 : Hid (cry f (k + 1) = (f k + cry f k) / 67108864) := rfl
      have hl1 : Hid (lowd f k = (f k + cry f k) % 67108864) := rfl
      have Hup := Lib.hid (carM_upd f k)
      generalize hfk : f k = X at *
      generalize hck : cry f k = C at *
      have hand : bits BinOp.and IntKind.u64 ((X : Int) + (C : Int)) 67108863 = ((X : Int) + (C : Int)) % 67108864 := by
        have := u64_mask (X + C) (by omega)
        rw [show (((X + C : Nat)) : Int) = (X : Int) + (C : Int) by omega] at this
        rw [this]; omega
      have hw : IntKind.u64.wrap ((X : Int) + (C : Int)) = (X : Int) + (C : Int) := by rw [IntKind.wrap_u64]; omega
      clear hfk hck
      have HX2 : Hid (Num ((wr.setCell ⟨w.heap.size, k, none⟩ (.int .u64 ((X : Int) + (C : Int)))).setCell ⟨w.heap.size, k, none⟩ (.int .u64 (((X : Int) + (C : Int)) % 67108864))) w.heap.size (carM f (k + 1))) := by
        refine Num.eq (f := upd (upd (carM f k) k (X + C)) k ((X + C) % 67108864)) ?_ (fun j _ => Hup.out _ _ hl1.out.symm j)
        exact (HN.out.set' k (X + C) hlt _ (by omega)).set' k ((X + C) % 67108864) hlt _ (by omega)
      have HM2 := Lib.hid ((HM.out.setCell (p := ⟨w.heap.size, k, none⟩) (fun hh => absurd hh (Nat.lt_irrefl _)) (.int .u64 ((X : Int) + (C : Int)))).setCell (p := ⟨w.heap.size, k, none⟩) (fun hh => absurd hh (Nat.lt_irrefl _)) (.int .u64 (((X : Int) + (C : Int)) % 67108864)))
      have HZ2 := Lib.hid ((HZ.out.other (p := ⟨w.heap.size, k, none⟩) (by simp) (.int .u64 ((X : Int) + (C : Int)))).other (p := ⟨w.heap.size, k, none⟩) (by simp) (.int .u64 (((X : Int) + (C : Int)) % 67108864)))
      have HC : Hid ((.int .u64 (((X : Int) + (C : Int)) / 67108864) : Value) = .int .u64 ((cry f (k + 1) : Nat) : Int)) := by
        show _ = _
        rw [hc1.out, show (((X + C) / 67108864 : Nat) : Int) = ((X : Int) + (C : Int)) / 67108864 by omega]
      go_wp2_with fail
      go_roundw
      case rel => exact ⟨k + 1, by omega, by go_num, HC.out, HX2.out, HZ2.out, HM2.out⟩
      case measure => simp [intOf]; omega
    · obtain rfl : k = 5 := by omega
      have hm5 : Num wr w.heap.size (lowd f) := n0.eq (fun j hj => by unfold carM; rw [if_pos hj])
      have hc5 := cry_lt f HB.out 5 (by omega)
      have hd0 : lowd f 0 < 67108864 := Nat.mod_lt _ (by decide)
      have hd1 : lowd f 1 < 67108864 := Nat.mod_lt _ (by decide)
      clear n0
      have c0 := hm5.cell 0 (by omega)
      have c1 := hm5.cell 1 (by omega)
      have f0 := hm5.free 0
      have f1 := hm5.free 1
      have HR : Hid (∀ x y z, y = (lowd f 0 + 5 * cry f 5) % 67108864 → z = lowd f 1 + (lowd f 0 + 5 * cry f 5) / 67108864 → ∀ j, j < 5 → upd (upd (upd (lowd f) 0 x) 0 y) 1 z j = carR f j) := by
        show ∀ x y z, _
        intro x y z hy hz j hj
        unfold upd carR
        by_cases e : j = 1
        · subst e; rw [if_pos rfl, if_neg (by decide), if_pos rfl, hz]
        · rw [if_neg e]
          by_cases e0 : j = 0
          · subst e0; rw [if_pos rfl, if_pos rfl, hy]
          · rw [if_neg e0, if_neg e0, if_neg e0, if_neg e]
      generalize hA : lowd f 0 = A at *
      generalize hB : lowd f 1 = B at *
      generalize hC : cry f 5 = C at *
      have HA := Lib.hid hA
      clear hA hB hC
      have hand : bits BinOp.and IntKind.u64 ((A : Int) + 5 * (C : Int)) 67108863 = ((A : Int) + 5 * (C : Int)) % 67108864 := by
        have := u64_mask (A + 5 * C) (by omega)
        rw [show (((A + 5 * C : Nat)) : Int) = (A : Int) + 5 * (C : Int) by omega] at this
        rw [this]; omega
      have HN5 := Lib.hid hm5
      have HZ := Lib.hid n1
      clear hm5 n1
      go_upto_region 13 with fail
      have K1 : Num (((wr.setCell ⟨w.heap.size, 0, none⟩ (.int .u64 ((A : Int) + 5 * (C : Int)))).setCell ⟨w.heap.size, 0, none⟩ (.int .u64 (((A : Int) + 5 * (C : Int)) % 67108864))).setCell ⟨w.heap.size, 1, none⟩ (.int .u64 ((B : Int) + ((A : Int) + 5 * (C : Int)) / 67108864))) w.heap.size (carR f) := (((HN5.out.set' 0 (A + 5 * C) (by omega) _ (by omega)).set' 0 ((A + 5 * C) % 67108864) (by omega) _ (by omega)).set' 1 (B + (A + 5 * C) / 67108864) (by omega) _ (by omega)).eq (HR.out _ _ _ rfl rfl)
      have K2 : Num (((wr.setCell ⟨w.heap.size, 0, none⟩ (.int .u64 ((A : Int) + 5 * (C : Int)))).setCell ⟨w.heap.size, 0, none⟩ (.int .u64 (((A : Int) + 5 * (C : Int)) % 67108864))).setCell ⟨w.heap.size, 1, none⟩ (.int .u64 ((B : Int) + ((A : Int) + 5 * (C : Int)) / 67108864))) (w.heap.size + 1) (fun _ => 0) := ((HZ.out.other (by simp) _).other (by simp) _).other (by simp) _
      have K3 : Mod (fun _ => False) w (((wr.setCell ⟨w.heap.size, 0, none⟩ (.int .u64 ((A : Int) + 5 * (C : Int)))).setCell ⟨w.heap.size, 0, none⟩ (.int .u64 (((A : Int) + 5 * (C : Int)) % 67108864))).setCell ⟨w.heap.size, 1, none⟩ (.int .u64 ((B : Int) + ((A : Int) + 5 * (C : Int)) / 67108864))) := ((hm.setCell (fun hh => absurd hh (Nat.lt_irrefl _)) _).setCell (fun hh => absurd hh (Nat.lt_irrefl _)) _).setCell (fun hh => absurd hh (Nat.lt_irrefl _)) _
      generalize (((wr.setCell ⟨w.heap.size, 0, none⟩ (.int .u64 ((A : Int) + 5 * (C : Int)))).setCell ⟨w.heap.size, 0, none⟩ (.int .u64 (((A : Int) + 5 * (C : Int)) % 67108864))).setCell ⟨w.heap.size, 1, none⟩ (.int .u64 ((B : Int) + ((A : Int) + 5 * (C : Int)) / 67108864))) = wx at K1 K2 K3 ⊢
      have HK1 := Lib.hid K1
      have HK2 := Lib.hid K2
      have HK3 := Lib.hid K3
      clear K1 K2 K3 HN5 HZ hm c0 c1 f0 f1
      go_wp2_with (first | (refine wpList_load_row rfl 61 (.tmp 1) rfl _ rfl _ _ _ _ HK1.out Try.underlying61 rfl (by kernel_rfl) ?_) | (refine wpList_store_row rfl 61 (.tmp 2) (.tmp 42) rfl _ _ rfl rfl _ _ HK2.out (by kernel_rfl) rfl (five_one _) ?_))
      exact bodyPost_ret (v := .agg (fiveV (carR f))) (results_cell_row (P := Try.prog) (fn := Try.f68) (p := 2) (ty := 61) rfl _ _ _ _ _ _ _ rfl (HK2.out.row _) Try.underlying61 rfl (by kernel_rfl)) rfl ⟨rfl, HK3.out.row (fun hh => by omega) _⟩
end Go.Proofs.Ytpnpmploaaenlaa
