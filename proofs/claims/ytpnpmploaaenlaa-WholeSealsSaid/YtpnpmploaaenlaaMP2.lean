/- A product of numbers. -/
import Derived.Test.YtpnpmploaaenlaaMP1
namespace Go.Proofs.Ytpnpmploaaenlaa
open Go.RowKit
set_option linter.unusedSimpArgs false
set_option linter.unusedVariables false

def term (f h : Nat → Nat) (k i : Nat) : Nat := if i ≤ k then f i * h (k - i) else 5 * f i * h (k + 5 - i)
def col (f h : Nat → Nat) (k : Nat) : Nat → Nat
  | 0 => 0
  | i + 1 => col f h k i + term f h k i
def outM (f h : Nat → Nat) (k i : Nat) : Nat → Nat := fun j => if j < k then col f h j 5 else if j = k then col f h k i else 0
theorem term_lt (f h : Nat → Nat) (hf : ∀ j, j < 5 → f j < 268435456) (hh : ∀ j, j < 5 → h j < 134217728) (k i : Nat) (hk : k < 5) (hi : i < 5) : term f h k i < 180143985094819840 := by
  unfold term
  by_cases e : i ≤ k
  · rw [if_pos e]
    have := Nat.mul_lt_mul'' (hf i hi) (hh (k - i) (by omega))
    omega
  · rw [if_neg e]
    have := Nat.mul_lt_mul'' (hf i hi) (hh (k + 5 - i) (by omega))
    rw [Nat.mul_assoc]; omega
theorem col_le (f h : Nat → Nat) (hf : ∀ j, j < 5 → f j < 268435456) (hh : ∀ j, j < 5 → h j < 134217728) (k : Nat) (hk : k < 5) : ∀ i, i ≤ 5 → col f h k i ≤ i * 180143985094819840 := by
  intro i
  induction i with
  | zero => intro _; show 0 ≤ _; omega
  | succ i ih =>
    intro hi
    have h1 := ih (by omega); have h2 := term_lt f h hf hh k i hk (by omega)
    show col f h k i + term f h k i ≤ _
    omega
theorem outM_upd (f h : Nat → Nat) (k i x : Nat) (hx : x = col f h k (i + 1)) (j : Nat) : upd (outM f h k i) k x j = outM f h k (i + 1) j := by
  unfold upd outM
  by_cases e : j = k
  · subst e; rw [if_pos rfl, if_neg (by omega), if_pos rfl, hx]
  · rw [if_neg e, if_neg e, if_neg e]
theorem outM_next (f h : Nat → Nat) (k : Nat) (j : Nat) : outM f h k 5 j = outM f h (k + 1) 0 j := by
  unfold outM
  by_cases e : j = k
  · subst e; rw [if_neg (by omega), if_pos rfl, if_pos (by omega)]
  · rw [if_neg e]
    by_cases e2 : j < k
    · rw [if_pos e2, if_pos (by omega)]
    · rw [if_neg e2, if_neg (by omega)]
      by_cases e3 : j = k + 1
      · rw [if_pos e3]; rfl
      · rw [if_neg e3]
set_option maxRecDepth 100000 in
set_option maxHeartbeats 2000000 in
theorem times_any (f p : Nat → Nat) (hf : ∀ j, j < 5 → f j < 268435456) (hp : ∀ j, j < 5 → p j < 134217728) (w : World) :
    Calls Try.prog 42 #[.agg (fiveV f), .agg (fiveV p)] w fun e w' => e = .returned (.agg (fiveV (carR fun k => col f p k 5))) ∧ Mod (fun _ => False) w w' := by
  have HB := Lib.hid hf
  have HP := Lib.hid hp
  clear hf hp
  go_enter Try.func42, Try.ntmps42
  go_wp2_with fail
  go_loopw [10] (fun i wr => ∃ k : Nat, k ≤ 5 ∧ i = .int .i64 (k : Int) ∧ Num wr w.heap.size f ∧ Num wr (w.heap.size + 1) p ∧ Num wr (w.heap.size + 1 + 1) (fun _ => 0) ∧ Num wr (w.heap.size + 1 + 1 + 1) (outM f p k 0) ∧ Mod (fun _ => False) w wr) (fun i _ => 5 - (intOf i).toNat)
  case atStart =>
    refine ⟨0, by omega, rfl, ?_, ?_, ?_, ?_, (((Mod.refl _ _).alloc _).alloc _ |>.alloc _).alloc _⟩
    · exact (((Num.new w f _ rfl).alloc _).alloc _).alloc _
    · exact ((Num.new _ p _ (by simp)).alloc _).alloc _
    · exact (Num.new _ (fun _ => 0) _ (by simp)).alloc _
    · refine Num.eq (f := fun _ => 0) (Num.new _ (fun _ => 0) _ (by simp)) (fun j _ => ?_)
      unfold outM
      rw [if_neg (by omega)]
      by_cases e : j = 0
      · rw [if_pos e]; rfl
      · rw [if_neg e]
  case round =>
    obtain ⟨k, hk, rfl, n0, n1, n2, n3, hm⟩ := hrel
    by_cases hlt : k < 5
    · have hk0 : (0 : Int) ≤ (k : Int) := by omega
      have hk2 : (k : Int) < 5 := by omega
      have HN0 := Lib.hid n0
      have HN1 := Lib.hid n1
      have HN2 := Lib.hid n2
      have HN3 := Lib.hid n3
      have HM0 := Lib.hid hm
      clear n0 n1 n2 n3 hm
      obtain ⟨wo, hwo⟩ : ∃ wo : World, wo = wr := ⟨_, rfl⟩
      rw [← hwo] at HN0 HN1 HN2 HN3 HM0 ⊢
      clear hwo
      go_wp2_with fail
      go_loopw [13] (fun v wi => ∃ i : Nat, i ≤ 5 ∧ v = .int .i64 (i : Int) ∧ Num wi w.heap.size f ∧ Num wi (w.heap.size + 1) p ∧ Num wi (w.heap.size + 1 + 1) (fun _ => 0) ∧ Num wi (w.heap.size + 1 + 1 + 1) (outM f p k i) ∧ Mod (fun _ => False) w wi) (fun v _ => 5 - (intOf v).toNat)
      case atStart => exact ⟨0, by omega, rfl, HN0.out, HN1.out, HN2.out, HN3.out, HM0.out⟩
      case round =>
        obtain ⟨i, hi, rfl, m0, m1, m2, m3, hmi⟩ := hrel
        by_cases hilt : i < 5
        · have hi0 : (0 : Int) ≤ (i : Int) := by omega
          have hi2 : (i : Int) < 5 := by omega
          have hX := m0.cell i hilt
          have hT := m3.cell k hlt
          rw [show outM f p k i k = col f p k i by unfold outM; rw [if_neg (by omega), if_pos rfl]] at hT
          have hF := m3.free k
          have hxb := HB.out i hilt
          have htl := term_lt f p HB.out HP.out k i hlt hilt
          have hcl := col_le f p HB.out HP.out k hlt i hi
          by_cases hik : i ≤ k
          · have hj0 : (i : Int) ≤ (k : Int) := by omega
            have hj1 : (0 : Int) ≤ (k : Int) - (i : Int) := by omega
            have hj2 : (k : Int) - (i : Int) < 5 := by omega
            have hjn : ((k : Int) - (i : Int)).toNat = k - i := by omega
            have hY := m1.cell (k - i) (by omega)
            have hterm : term f p k i = f i * p (k - i) := by unfold term; rw [if_pos hik]
            have hyb := HP.out (k - i) (by omega)
            generalize hpy : p (k - i) = Y at *
            generalize hfx : f i = X at *
            generalize hct : col f p k i = T at *
            generalize htm : term f p k i = M at *
            have HMt := Lib.hid hterm
            have HCn : Hid (T + M = col f p k (i + 1)) := by
              show _ = col f p k i + term f p k i
              rw [hct, htm]
            clear hterm hpy hfx hct htm
            have hmul : IntKind.u64.wrap ((X : Int) * (Y : Int)) = (M : Int) := by rw [← Int.natCast_mul, ← HMt.out]; exact u64_in' _ (by omega)
            have HN3' : Hid (Num ((wr.setCell ⟨w.heap.size + 1 + 1 + 1, k, none⟩ (.int .u64 ((T : Int) + (M : Int)))).drew) (w.heap.size + 1 + 1 + 1) (outM f p k (i + 1))) := by
              refine Num.eq (f := upd (outM f p k i) k (T + M)) (m3.set' k (T + M) hlt _ (by omega)).drew (fun j _ => outM_upd f p k i _ HCn.out j)
            have HM2 := Lib.hid ((hmi.setCell (p := ⟨w.heap.size + 1 + 1 + 1, k, none⟩) (fun hh => absurd hh (by first | (simp; done) | (simp; omega))) (.int .u64 ((T : Int) + (M : Int)))).drew)
            have HN0' := Lib.hid ((m0.other (p := ⟨w.heap.size + 1 + 1 + 1, k, none⟩) (by first | (simp; done) | (simp; omega)) (.int .u64 ((T : Int) + (M : Int)))).drew)
            have HN1' := Lib.hid ((m1.other (p := ⟨w.heap.size + 1 + 1 + 1, k, none⟩) (by first | (simp; done) | (simp; omega)) (.int .u64 ((T : Int) + (M : Int)))).drew)
            have HN2' := Lib.hid ((m2.other (p := ⟨w.heap.size + 1 + 1 + 1, k, none⟩) (by first | (simp; done) | (simp; omega)) (.int .u64 ((T : Int) + (M : Int)))).drew)
            clear m0 m1 m2 m3 hmi hik
            go_wp2_with fail
            go_region
            go_wp2_with fail
            go_roundw
            case rel => exact ⟨i + 1, by omega, by go_num, HN0'.out, HN1'.out, HN2'.out, HN3'.out, HM2.out⟩
            case measure => simp [intOf]; omega
          · have hj0 : ¬ (i : Int) ≤ (k : Int) := by omega
            have hj1 : (0 : Int) ≤ (k : Int) - (i : Int) + 5 := by omega
            have hj2 : (k : Int) - (i : Int) + 5 < 5 := by omega
            have hjn : ((k : Int) - (i : Int) + 5).toNat = k + 5 - i := by omega
            have hY := m1.cell (k + 5 - i) (by omega)
            have hterm : term f p k i = 5 * f i * p (k + 5 - i) := by unfold term; rw [if_neg hik]
            have hyb := HP.out (k + 5 - i) (by omega)
            generalize hpy : p (k + 5 - i) = Y at *
            generalize hfx : f i = X at *
            generalize hct : col f p k i = T at *
            generalize htm : term f p k i = M at *
            have HMt := Lib.hid hterm
            have HCn : Hid (T + M = col f p k (i + 1)) := by
              show _ = col f p k i + term f p k i
              rw [hct, htm]
            clear hterm hpy hfx hct htm
            have hmul : IntKind.u64.wrap (5 * (X : Int) * (Y : Int)) = (M : Int) := by rw [show 5 * (X : Int) * (Y : Int) = ((5 * X * Y : Nat) : Int) by rw [Int.natCast_mul, Int.natCast_mul]; rfl, ← HMt.out]; exact u64_in' _ (by omega)
            have HN3' : Hid (Num ((wr.setCell ⟨w.heap.size + 1 + 1 + 1, k, none⟩ (.int .u64 ((T : Int) + (M : Int)))).drew) (w.heap.size + 1 + 1 + 1) (outM f p k (i + 1))) := by
              refine Num.eq (f := upd (outM f p k i) k (T + M)) (m3.set' k (T + M) hlt _ (by omega)).drew (fun j _ => outM_upd f p k i _ HCn.out j)
            have HM2 := Lib.hid ((hmi.setCell (p := ⟨w.heap.size + 1 + 1 + 1, k, none⟩) (fun hh => absurd hh (by first | (simp; done) | (simp; omega))) (.int .u64 ((T : Int) + (M : Int)))).drew)
            have HN0' := Lib.hid ((m0.other (p := ⟨w.heap.size + 1 + 1 + 1, k, none⟩) (by first | (simp; done) | (simp; omega)) (.int .u64 ((T : Int) + (M : Int)))).drew)
            have HN1' := Lib.hid ((m1.other (p := ⟨w.heap.size + 1 + 1 + 1, k, none⟩) (by first | (simp; done) | (simp; omega)) (.int .u64 ((T : Int) + (M : Int)))).drew)
            have HN2' := Lib.hid ((m2.other (p := ⟨w.heap.size + 1 + 1 + 1, k, none⟩) (by first | (simp; done) | (simp; omega)) (.int .u64 ((T : Int) + (M : Int)))).drew)
            clear m0 m1 m2 m3 hmi hik
            go_wp2_with fail
            go_region
            go_wp2_with fail
            go_roundw
            case rel => exact ⟨i + 1, by omega, by go_num, HN0'.out, HN1'.out, HN2'.out, HN3'.out, HM2.out⟩
            case measure => simp [intOf]; omega
        · obtain rfl : i = 5 := by omega
          have HN3' : Hid (Num wr (w.heap.size + 1 + 1 + 1) (outM f p (k + 1) 0)) := m3.eq (fun j _ => outM_next f p k j)
          have HN0' := Lib.hid m0
          have HN1' := Lib.hid m1
          have HN2' := Lib.hid m2
          have HM2 := Lib.hid hmi
          clear m0 m1 m2 m3 hmi
          go_wp2_with fail
          go_roundw
          case rel => exact ⟨k + 1, by omega, by go_num, HN0'.out, HN1'.out, HN2'.out, HN3'.out, HM2.out⟩
          case measure => simp [intOf]; omega
    · obtain rfl : k = 5 := by omega
      have hfin : Num wr (w.heap.size + 1 + 1 + 1) (fun k => col f p k 5) := n3.eq (fun j hj => by unfold outM; rw [if_pos hj])
      have HF := Lib.hid hfin
      have HM := Lib.hid hm
      have HZ := Lib.hid n2
      have hcl : ∀ j, j < 5 → col f p j 5 < 9223372036854775808 := fun j hj => by
        have := col_le f p HB.out HP.out j hj 5 (by omega)
        omega
      have HCL := Lib.hid hcl
      clear hfin hm n0 n1 n2 n3 hcl
      go_wp2_with (first | (refine wpList_load_row rfl 61 (.tmp 5) rfl _ rfl _ _ _ _ HF.out Try.underlying61 rfl (by kernel_rfl) ?_))
      refine (carried_any (fun k => col f p k 5) HCL.out _).mono ?_
      rintro e w2 ⟨rfl, m2⟩
      have HZ2 := Lib.hid (HZ.out.kept m2 (fun e => e))
      have HM2 := Lib.hid (HM.out.tr m2)
      clear m2
      go_wp2_with (refine wpList_store_row rfl 61 (.tmp 4) (.tmp 49) rfl _ _ rfl rfl _ _ HZ2.out (by kernel_rfl) rfl (five_one _) ?_)
      exact bodyPost_ret (v := .agg (fiveV (carR fun k => col f p k 5))) (results_cell_row (P := Try.prog) (fn := Try.f42) (p := 4) (ty := 61) rfl _ _ _ _ _ _ _ rfl (HZ2.out.row _) Try.underlying61 rfl (by kernel_rfl)) rfl ⟨rfl, HM2.out.row (fun hh => by omega) _⟩
end Go.Proofs.Ytpnpmploaaenlaa
