/- A number read: the walk. -/
import Derived.Test.YtpnpmploaaenlaaMN1
namespace Go.Proofs.Ytpnpmploaaenlaa
open Go.RowKit
set_option linter.unusedSimpArgs false
set_option linter.unusedVariables false

theorem or_low (X B r : Nat) (hX : X < 2 ^ r) (h : X + B * 2 ^ r < 18446744073709551616) : bits BinOp.or IntKind.u64 (X : Int) ((B * 2 ^ r : Nat) : Int) = ((X + B * 2 ^ r : Nat) : Int) := by
  rw [u64_or_nat _ _ (by omega) (by omega), Nat.or_comm, nat_join r (B * 2 ^ r) X (Nat.mul_mod_left _ _) hX, Nat.add_comm]
theorem or_zero' (D : Nat) (h : D < 18446744073709551616) : bits BinOp.or IntKind.u64 0 (D : Int) = (D : Int) := by
  have := u64_or_nat 0 D (by omega) h
  simpa using this
set_option maxRecDepth 100000 in
set_option maxHeartbeats 2000000 in
theorem read_any (s : ByteArray) (hs : s.size ≤ 17) (h17 : byteAt s 16 < 4) (w : World) :
    Calls Try.prog 40 #[.string s] w fun e w' => (∃ f, e = .returned (.agg (fiveV f)) ∧ val f = leN s s.size ∧ ∀ j, j < 5 → f j < 67108864) ∧ Mod (fun _ => False) w w' := by
  have H17 := Lib.hid h17
  clear h17
  go_enter Try.func40, Try.ntmps40
  go_wp2_with fail
  go_loopw [9] (fun i wr => ∃ k : Nat, k ≤ s.size ∧ i = .int .i64 (k : Int) ∧ (∃ f, Num wr (w.heap.size + 1) f ∧ Rd s k f) ∧ Num wr w.heap.size (fun _ => 0) ∧ Mod (fun _ => False) w wr) (fun i _ => s.size - (intOf i).toNat)
  case atStart =>
    refine ⟨0, by omega, rfl, ⟨_, ?_, Rd.start s⟩, ?_, ((Mod.refl _ _).alloc _).alloc _⟩
    · exact Num.new _ (fun _ => 0) _ (by simp)
    · exact (Num.new w (fun _ => 0) _ rfl).alloc _
  case round =>
    obtain ⟨k, hk, rfl, ⟨f, n1, rd⟩, n0, hm⟩ := hrel
    by_cases hlt : k < s.size
    · have hk0 : (0 : Int) ≤ (k : Int) := by omega
      have hk2 : (k : Int) < ((s.size : Nat) : Int) := by omega
      have hk3 : (k : Int) ≤ 16 := by omega
      obtain ⟨q, hq⟩ : ∃ q, q = 8 * k / 26 := ⟨_, rfl⟩
      obtain ⟨r, hr⟩ : ∃ r, r = 8 * k % 26 := ⟨_, rfl⟩
      obtain ⟨hX2, hV34, hsm, hbg⟩ := rd.step (by omega) (fun e => by subst e; exact H17.out) q r hq hr
      have hqi : 8 * (k : Int) / 26 = (q : Int) := by omega
      have hri : 8 * (k : Int) % 26 = (r : Int) := by omega
      have hq0 : (0 : Int) ≤ (q : Int) := by omega
      have hq5 : (q : Int) < 5 := by omega
      have hq5' : q < 5 := by omega
      have hr0 : (0 : Int) ≤ (r : Int) := by omega
      have hr5 : (r : Int) < 26 := by omega
      have hX := n1.cell q (by omega)
      have hF := n1.free q
      have hget : s[k].toNat = byteAt s k := byteAt_get s k hlt
      have hHb := byteAt_lt s k
      clear hq hr rd
      have HSM := Lib.hid hsm
      have HBG := Lib.hid hbg
      clear hsm hbg
      have hor := or_low (f q) (byteAt s k) r hX2 (by omega)
      generalize hb : byteAt s k = B at *
      have HBb := Lib.hid hb
      clear hb
      generalize hfq : f q = X at *
      have HFq := Lib.hid hfq
      clear hfq hX2
      generalize hS : B * 2 ^ r = S at *
      have hshl : IntKind.u64.wrap ((B : Int) * 2 ^ r) = (S : Int) := by
        have e : (B : Int) * 2 ^ r = ((B * 2 ^ r : Nat) : Int) := by simp
        rw [e, hS]; exact u64_in' _ (by omega)
      clear hS
      generalize hV : X + S = V at *
      clear hV
      have HM := Lib.hid hm
      have HN0 := Lib.hid n0
      have HN1 := Lib.hid n1
      clear hm n0 n1
      by_cases hov : V < 67108864
      · have hd0 : (V : Int) / 67108864 = 0 := by omega
        have HN1' : Hid (Num ((wr.setCell ⟨w.heap.size + 1, q, none⟩ (.int .u64 (V : Int))).drew) (w.heap.size + 1) (upd f q V)) := (HN1.out.set q V hq5').drew
        have HN0' : Hid (Num ((wr.setCell ⟨w.heap.size + 1, q, none⟩ (.int .u64 (V : Int))).drew) w.heap.size (fun _ => 0)) := (HN0.out.other (by simp) _).drew
        have HM' : Hid (Mod (fun _ => False) w ((wr.setCell ⟨w.heap.size + 1, q, none⟩ (.int .u64 (V : Int))).drew)) := (HM.out.setCell (fun hh => absurd hh (by simp)) _).drew
        go_wp2_with fail
        go_region
        go_wp2_with fail
        go_roundw
        case rel => exact ⟨k + 1, by omega, by go_num, ⟨_, HN1'.out, HSM.out hov⟩, HN0'.out, HM'.out⟩
        case measure => simp [intOf]; omega
      · obtain ⟨hq4, hz, hRd⟩ := HBG.out (by omega)
        have hY := HN1.out.cell (q + 1) (by omega)
        rw [hz] at hY
        have hF2 := HN1.out.free (q + 1)
        have HRd := Lib.hid (hRd V)
        clear hz hRd
        obtain ⟨D, hD⟩ : ∃ D, D = V / 67108864 := ⟨_, rfl⟩
        have hDi : (V : Int) / 67108864 = (D : Int) := by omega
        have hor0 := or_zero' D (by omega)
        have hD0 : (0 : Int) < (D : Int) := by omega
        have hq4i : (q : Int) + 1 < 5 := by omega
        have hand : bits BinOp.and IntKind.u64 (V : Int) 67108863 = ((V % 67108864 : Nat) : Int) := u64_mask V (by omega)
        rw [← hD] at HRd
        generalize hMm : V % 67108864 = M at *
        clear hMm hD
        have hwE : ∀ W, Num W (w.heap.size + 1) f → Num W w.heap.size (fun _ => 0) → Mod (fun _ => False) w W → Hid (Num (((W.setCell ⟨w.heap.size + 1, q, none⟩ (.int .u64 (V : Int))).setCell ⟨w.heap.size + 1, q + 1, none⟩ (.int .u64 (D : Int))).setCell ⟨w.heap.size + 1, q, none⟩ (.int .u64 (M : Int))) (w.heap.size + 1) (upd (upd (upd f q V) (q + 1) D) q M) ∧
            Num (((W.setCell ⟨w.heap.size + 1, q, none⟩ (.int .u64 (V : Int))).setCell ⟨w.heap.size + 1, q + 1, none⟩ (.int .u64 (D : Int))).setCell ⟨w.heap.size + 1, q, none⟩ (.int .u64 (M : Int))) w.heap.size (fun _ => 0) ∧
            Mod (fun _ => False) w (((W.setCell ⟨w.heap.size + 1, q, none⟩ (.int .u64 (V : Int))).setCell ⟨w.heap.size + 1, q + 1, none⟩ (.int .u64 (D : Int))).setCell ⟨w.heap.size + 1, q, none⟩ (.int .u64 (M : Int)))) := fun W a b c =>
          ⟨((a.set q V hq5').set (q + 1) D (by omega)).set q M hq5', ((b.other (by simp) _).other (by simp) _).other (by simp) _, ((c.setCell (fun hh => absurd hh (by simp)) _).setCell (fun hh => absurd hh (by simp)) _).setCell (fun hh => absurd hh (by simp)) _⟩
        have HWE := Lib.hid (hwE wr HN1.out HN0.out HM.out)
        clear hwE
        go_wp2_with fail
        go_region
        go_wp2_with fail
        go_roundw
        case rel => exact ⟨k + 1, by omega, by go_num, ⟨_, HWE.out.out.1.drew, HRd.out⟩, HWE.out.out.2.1.drew, HWE.out.out.2.2.drew⟩
        case measure => simp [intOf]; omega
    · obtain rfl : k = s.size := by omega
      have HF := Lib.hid n1
      have HZ := Lib.hid n0
      have HM := Lib.hid hm
      have HV := Lib.hid (And.intro rd.v rd.lt)
      clear n0 n1 rd hm
      go_wp2_with (first | (refine wpList_load_row rfl 61 (.tmp 3) rfl _ rfl _ _ _ _ HF.out Try.underlying61 rfl (by kernel_rfl) ?_) | (refine wpList_store_row rfl 61 (.tmp 2) (.tmp 49) rfl _ _ rfl rfl _ _ HZ.out (by kernel_rfl) rfl (five_one _) ?_))
      exact bodyPost_ret (v := .agg (fiveV f)) (results_cell_row (P := Try.prog) (fn := Try.f40) (p := 2) (ty := 61) rfl _ _ _ _ _ _ _ rfl (HZ.out.row _) Try.underlying61 rfl (by kernel_rfl)) rfl ⟨⟨f, rfl, HV.out⟩, HM.out.row (fun hh => by omega) _⟩
end Go.Proofs.Ytpnpmploaaenlaa
