/- Keys of two halves: the plain laws. -/
import Derived.Test.YtfmfopbcgohdgaaL1
namespace Go.Proofs.Ytfmfopbcgohdgaa
open Go.RowKit
set_option linter.unusedSimpArgs false
set_option linter.unusedVariables false

theorem app_size (A B : ByteArray) : (A ++ B).size = A.size + B.size := by simp
theorem app_first (A B : ByteArray) (hA : A.size = 16) : (A ++ B).extract 0 16 = A := by
  apply bytes_ext
  · simp [hA]
  · intro j hj
    have hj' : j < 16 := by simp at hj; omega
    apply UInt8.toNat_inj.mp
    rw [byteU_at, byteU_at, byteAt_extract _ _ _ _ (by omega), Nat.zero_add, byteAt_append_left _ _ _ (by omega)]
theorem app_second (A B : ByteArray) (hA : A.size = 16) (hB : B.size = 16) : (A ++ B).extract 16 32 = B := by
  apply bytes_ext
  · simp [hA, hB]
  · intro j hj
    have hj' : j < 16 := by simp at hj; omega
    apply UInt8.toNat_inj.mp
    rw [byteU_at, byteU_at, byteAt_extract _ _ _ _ (by omega), byteAt_append_right _ _ _ (by omega), hA, show 16 + j - 16 = j by omega]
theorem macS_app (A B s : ByteArray) (hA : A.size = 16) (hB : B.size = 16) : macS (A ++ B) s = leS (macA s (leN (clS A) 16) (blocks s) + leN B 16) 16 := by
  unfold macS
  rw [app_first A B hA, app_second A B hA hB]
def Z16 : ByteArray := ⟨#[0, 0, 0, 0, 0, 0, 0, 0, 0, 0, 0, 0, 0, 0, 0, 0]⟩
theorem z16_num : leN (clS Z16) 16 = 0 := by decide +kernel
theorem macA_zero (s : ByteArray) (k : Nat) : macA s 0 k = 0 := by
  cases k with
  | zero => rfl
  | succ k => show (macA s 0 k + blkN s k) * 0 % P130 = 0; rw [Nat.mul_zero, Nat.zero_mod]
theorem leS_back (B : ByteArray) (hB : B.size = 16) : leS (leN B 16) 16 = B := by
  apply bytes_ext
  · rw [leS_size, hB]
  · intro j hj
    rw [leS_size] at hj
    apply UInt8.toNat_inj.mp
    rw [byteU_at, byteU_at, leS_at _ _ _ hj, leN_le, dgt_le _ 16 (fun i _ => byteAt_lt B i) j hj]
theorem second_zero (B s : ByteArray) (hB : B.size = 16) : macS (Z16 ++ B) s = B := by
  rw [macS_app _ _ _ rfl hB, z16_num, macA_zero, Nat.zero_add, leS_back B hB]
theorem second_clamped (key s : ByteArray) (hk : key.size = 32) : macS (clS (key.extract 0 16) ++ key.extract 16 key.size) s = macS key s := by
  rw [macS_app _ _ _ (clS_size _) (by simp; omega), clS_clS, hk]
  rfl
theorem info5' : (Try.prog.info? 5).map (fun i => (i.zero, i.size, i.bytes)) = some (some (.int .u8 0), 1, 1) := by kernel_rfl
theorem made_bytes (n j : Nat) (hj : j < n) : (madeCells (Value.int .u8 0).cells n)[j]? = some (.int .u8 0) := by
  have hc : (Value.int .u8 0).cells = #[.int .u8 0] := rfl
  unfold madeCells
  rw [hc]
  simp [hj, Nat.mod_one]
theorem make_bytes (n : Nat) (hn : n ≤ 1000000) (w : World) : ∃ Z, (Instr.makeSlice 29 (.int .i64 (n : Int)) (.int .i64 (n : Int))).run Try.prog w = .ok (.slice (some ⟨w.heap.size, 0, none⟩) n n) (w.alloc (.cells Z 5)) ∧
    Row (w.alloc (.cells Z 5)) w.heap.size n (fun _ => 0) := by
  obtain ⟨i, hi, hz, hs, hb⟩ := info_parts info5'
  have h := run_make (P := Try.prog) w 29 5 i (.int .u8 0) Try.underlying29 hi hz .i64 .i64 (n : Int) (n : Int) (by omega) (by omega) (by rw [hb]; omega) (by omega)
  rw [hs] at h
  simp only [Int.toNat_natCast, Nat.mul_one] at h
  refine ⟨_, h, _, 5, (0, 0), new_block _ _ _ _ rfl, .inr rfl, ?_, fun j hj => made_bytes n j hj⟩
  have : ∀ m, (madeCells (Value.int .u8 0).cells m).size = m := fun m => by unfold madeCells; simp
  rw [this]; exact Nat.le_refl _
theorem row_str (n : Nat) {w : World} {g C : Nat} {f : Nat → UInt8} (h : Row w g n f) : (convert 29 9 (.slice (some ⟨g, 0, none⟩) n C)).run Try.prog w = .ok (.string ⟨((List.range n).map f).toArray⟩) w := by
  have hl : ((List.range n).map f).length = n := by simp
  have hrow : Row w g ((List.range n).map f).length (fun j => ((List.range n).map f).getD j 0) := by
    rw [hl]
    refine h.eq (fun j hj => ?_)
    rw [List.getD_eq_getElem?_getD, List.getElem?_map, List.getElem?_range hj]
    rfl
  have := hrow.str C
  rw [hl] at this
  exact this
end Go.Proofs.Ytfmfopbcgohdgaa
