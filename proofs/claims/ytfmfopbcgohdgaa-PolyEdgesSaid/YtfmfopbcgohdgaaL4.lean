/- PolyEdges: the walk of the law. -/
import Derived.Test.YtfmfopbcgohdgaaL2
namespace Go.Proofs.Ytfmfopbcgohdgaa
open Go.RowKit
set_option linter.unusedSimpArgs false
set_option linter.unusedVariables false

theorem i64_and63 (n : Int) : bits .and .i64 n 63 = n % 64 := by
  have hm : (BitVec.ofInt 64 63).toNat = 2 ^ 6 - 1 := by decide
  have key : (BitVec.ofInt 64 n &&& BitVec.ofInt 64 63).toNat = (n % ((2 ^ 64 : Nat) : Int)).toNat % 2 ^ 6 := by
    rw [BitVec.toNat_and, BitVec.toNat_ofInt, hm, Nat.and_two_pow_sub_one_eq_mod]
  show IntKind.i64.wrap ((BitVec.ofInt 64 n &&& BitVec.ofInt 64 63).toNat : Nat) = n % 64
  rw [key, IntKind.wrap_i64]
  omega
theorem i64_and7 (n : Int) : bits .and .i64 n 7 = n % 8 := by
  have hm : (BitVec.ofInt 64 7).toNat = 2 ^ 3 - 1 := by decide
  have key : (BitVec.ofInt 64 n &&& BitVec.ofInt 64 7).toNat = (n % ((2 ^ 64 : Nat) : Int)).toNat % 2 ^ 3 := by
    rw [BitVec.toNat_and, BitVec.toNat_ofInt, hm, Nat.and_two_pow_sub_one_eq_mod]
  show IntKind.i64.wrap ((BitVec.ofInt 64 n &&& BitVec.ofInt 64 7).toNat : Nat) = n % 8
  rw [key, IntKind.wrap_i64]
  omega
/-- Some bytes. -/
def Some8 (w : World) (g n : Nat) : Prop := ∃ f, Row w g n f
theorem Some8.set {w : World} {g n : Nat} (h : Some8 w g n) (k : Nat) (hk : k < n) (y : Int) (h0 : 0 ≤ y) (h1 : y < 256) : Some8 (w.setCell ⟨g, k, none⟩ (.int .u8 y)) g n := by
  obtain ⟨f, hf⟩ := h
  exact ⟨_, hf.set' k hk (UInt8.ofNat y.toNat) y (by rw [UInt8.toNat_ofNat']; omega) (fun j => if j = k then UInt8.ofNat y.toNat else f j) (if_pos rfl) (fun j _ hne => if_neg hne)⟩
theorem Some8.kept {S : Nat → Prop} {w w' : World} {g n : Nat} (h : Some8 w g n) (m : Mod S w w') (hs : ¬ S g) : Some8 w' g n := by
  obtain ⟨f, hf⟩ := h
  exact ⟨f, hf.kept m hs⟩
theorem Some8.other {w : World} {g n : Nat} (h : Some8 w g n) {p : Addr} (hp : p.block ≠ g) (u : Value) : Some8 (w.setCell p u) g n := by
  obtain ⟨f, cs, T, fr, hb, r⟩ := h
  exact ⟨f, cs, T, fr, (Below.heap_setCell _ _ _ _ (fun e => hp e.symm)).trans hb, r⟩
theorem Some8.cell {w : World} {g n : Nat} (h : Some8 w g n) (k : Nat) (hk : k < n) : ∃ v, w.cell? ⟨g, k, none⟩ = some v ∧ w.frozen? ⟨g, k, none⟩ = false := by
  obtain ⟨f, hf⟩ := h
  exact ⟨_, hf.cell k hk, hf.free k hk⟩
theorem Some8.lt {w : World} {g n : Nat} (h : Some8 w g n) : g < w.heap.size := by
  obtain ⟨f, hf⟩ := h
  exact hf.lt
set_option maxRecDepth 100000 in
set_option maxHeartbeats 4000000 in
theorem edges_any (keys bits_ many : Int) (w : World) : Calls Try.prog 7 #[.int .i64 keys, .int .i64 bits_, .int .i64 many] w fun e w' => e = .returned (.bool true) ∧ Mod (fun _ => False) w w' := by
  obtain ⟨Z, hmk0, hrow⟩ := make_bytes 32 (by omega) w
  have hmk : (Instr.makeSlice 29 (.int .i64 32) (.int .i64 32)).run Try.prog w = .ok (.slice (some ⟨w.heap.size, 0, none⟩) 32 32) (w.alloc (.cells Z 5)) := hmk0
  clear hmk0
  have HR : Hid (Some8 (w.alloc (.cells Z 5)) w.heap.size 32) := ⟨_, hrow⟩
  obtain ⟨n, hn, hn64⟩ : ∃ n : Nat, bits BinOp.and IntKind.i64 many 63 = (n : Int) ∧ n < 64 := ⟨(many % 64).toNat, by rw [i64_and63]; omega, by omega⟩
  have HN := Lib.hid hn
  clear hrow hn
  go_enter Try.func7, Try.ntmps7
  go_wp2_with fail
  clear hmk
  go_loopw [8] (fun v wr => ∃ i : Nat, i ≤ 32 ∧ v = .int .i64 (i : Int) ∧ Some8 wr w.heap.size 32 ∧ Mod (fun _ => False) w wr) (fun v _ => 32 - (intOf v).toNat)
  case atStart => exact ⟨0, by omega, rfl, HR.out, (Mod.refl _ _).alloc _⟩
  case round =>
    obtain ⟨i, hi, rfl, row, hm⟩ := hrel
    have HROW := Lib.hid row
    have HM := Lib.hid hm
    clear row hm
    by_cases hlt : i < 32
    · have hi0 : (0 : Int) ≤ (i : Int) := by omega
      have hi2 : (i : Int) < 32 := by omega
      obtain ⟨v, hc, hf⟩ := HROW.out.cell i hlt
      have HW : Hid (Some8 (wr.setCell ⟨w.heap.size, i, none⟩ (.int .u8 255)) w.heap.size 32 ∧ Mod (fun _ => False) w (wr.setCell ⟨w.heap.size, i, none⟩ (.int .u8 255))) :=
        ⟨HROW.out.set i hlt 255 (by omega) (by omega), HM.out.setCell (fun hh => absurd hh (Nat.lt_irrefl _)) _⟩
      go_wp2_with fail
      · go_roundw
        case rel => exact ⟨i + 1, by omega, by go_num, HW.out⟩
        case measure => simp [intOf]; omega
      · go_roundw
        case rel => exact ⟨i + 1, by omega, by go_num, HROW.out, HM.out⟩
        case measure => simp [intOf]; omega
    · obtain rfl : i = 32 := by omega
      obtain ⟨Z2, hmk, hrow2⟩ := make_bytes n (by omega) wr
      have HR1 : Hid (Some8 (wr.alloc (.cells Z2 5)) w.heap.size 32) := HROW.out.kept ((Mod.refl (fun _ => False) wr).alloc _) (fun e => e)
      have HR2 : Hid (Some8 (wr.alloc (.cells Z2 5)) wr.heap.size n) := ⟨_, hrow2⟩
      have HM2 := Lib.hid (HM.out.alloc (.cells Z2 5))
      have hlt0 := HROW.out.lt
      have hnn := HN.out
      clear hrow2
      go_wp2_with fail
      clear hmk
      obtain ⟨g2, hg2⟩ : ∃ g2, g2 = wr.heap.size := ⟨_, rfl⟩
      rw [← hg2] at HR2 hlt0 ⊢
      clear hg2
      have HW0 : Hid (w.heap.size ≤ g2) := Nat.le_of_lt hlt0
      have HW1 : Hid (g2 ≠ w.heap.size) := by show g2 ≠ _; omega
      go_loopw [11] (fun v wr => ∃ i : Nat, i ≤ n ∧ v = .int .i64 (i : Int) ∧ Some8 wr w.heap.size 32 ∧ Some8 wr g2 n ∧ Mod (fun _ => False) w wr) (fun v _ => n - (intOf v).toNat)
      case atStart => exact ⟨0, by omega, rfl, HR1.out, HR2.out, HM2.out⟩
      case round =>
        obtain ⟨i, hi, rfl, row1, row2, hm⟩ := hrel
        have HROW1 := Lib.hid row1
        have HROW2 := Lib.hid row2
        have HMI := Lib.hid hm
        clear row1 row2 hm
        by_cases hlti : i < n
        · have hi0 : (0 : Int) ≤ (i : Int) := by omega
          have hi2 : (i : Int) < (n : Int) := by omega
          obtain ⟨v, hc, hf⟩ := HROW2.out.cell i hlti
          obtain ⟨J, hJ, hJ2⟩ : ∃ J : Nat, bits BinOp.and IntKind.i64 (i : Int) 31 = (J : Int) ∧ J < 32 := ⟨i % 32, by rw [i64_and31]; omega, by omega⟩
          obtain ⟨L, hL, hL2⟩ : ∃ L : Nat, bits BinOp.and IntKind.i64 (i : Int) 7 = (L : Int) ∧ L < 8 := ⟨i % 8, by rw [i64_and7]; omega, by omega⟩
          go_wp2_with fail
          · go_roundw
            case rel => exact ⟨i + 1, by omega, by go_num, (HROW1.out.other (by show g2 ≠ _; exact HW1.out) _).other (by show g2 ≠ _; exact HW1.out) _, (HROW2.out.set i hlti _ (by omega) (by omega)).set i hlti _ (by omega) (by omega), (HMI.out.setCell (fun hh => absurd hh (by show ¬ g2 < _; have := HW0.out; omega)) _).setCell (fun hh => absurd hh (by show ¬ g2 < _; have := HW0.out; omega)) _⟩
            case measure => simp [intOf]; omega
          · go_roundw
            case rel => exact ⟨i + 1, by omega, by go_num, HROW1.out.other (by show g2 ≠ _; exact HW1.out) _, HROW2.out.set i hlti _ (by omega) (by omega), HMI.out.setCell (fun hh => absurd hh (by show ¬ g2 < _; have := HW0.out; omega)) _⟩
            case measure => simp [intOf]; omega
        · obtain rfl : i = n := by omega
          obtain ⟨f1, hf1⟩ := HROW1.out
          obtain ⟨f2, hf2⟩ := HROW2.out
          have hcv1 := row_str 32 (C := 32) hf1
          have hcv2 := row_str i (C := i) hf2
          obtain ⟨K, HK⟩ : ∃ K : ByteArray, Hid ((⟨((List.range 32).map f1).toArray⟩ : ByteArray) = K) := ⟨_, rfl⟩
          obtain ⟨S, HS⟩ : ∃ S : ByteArray, Hid ((⟨((List.range i).map f2).toArray⟩ : ByteArray) = S) := ⟨_, rfl⟩
          have HKS : Hid (K.size = 32) := by show _ = _; rw [← HK.out]; show ((List.range 32).map f1).toArray.size = 32; simp
          have HSS : Hid (S.size = i) := by show _ = _; rw [← HS.out]; show ((List.range i).map f2).toArray.size = i; simp
          rw [HK.out] at hcv1
          rw [HS.out] at hcv2
          have HF1 := Lib.hid hf1
          have HF2 := Lib.hid hf2
          clear hf1 hf2
          go_wp2_with fail
          refine (mac_ok K S _ HKS.out (by have := HSS.out; omega)).mono ?_
          rintro e w4 ⟨rfl, m4⟩
          clear hcv1 hcv2
          have hcv1 := row_str 32 (C := 32) (HF1.out.kept m4 (fun e => e))
          have hcv2 := row_str i (C := i) (HF2.out.kept m4 (fun e => e))
          rw [HK.out] at hcv1
          rw [HS.out] at hcv2
          have HM4 := Lib.hid (HMI.out.tr m4)
          clear m4
          go_wp2_with fail
          refine (rmac_ok K S _ HKS.out (by have := HSS.out; omega)).mono ?_
          rintro e w5 ⟨rfl, m5⟩
          have HM5 := Lib.hid (HM4.out.tr m5)
          clear m5 hcv1 hcv2
          go_wp2_with fail
          refine (awake_any _).mono ?_
          rintro e w6 ⟨rfl, m6⟩
          go_wp2_with fail
          go_ret
          exact ⟨rfl, HM5.out.tr m6⟩
end Go.Proofs.Ytfmfopbcgohdgaa
