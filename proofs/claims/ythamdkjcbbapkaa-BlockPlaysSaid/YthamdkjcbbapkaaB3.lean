/- The device's contracts, third part: a block of one byte; what must come. -/
import Derived.Test.YthamdkjcbbapkaaB2
namespace Go.Proofs.Ythamdkjcbbapkaa
open Go.RowKit
set_option linter.unusedSimpArgs false
set_option linter.unusedVariables false

def fillL (c : UInt8) (k : Nat) : List UInt8 := List.replicate k c ++ List.replicate (64 - k) 0
def fill (c : UInt8) : ByteArray := ⟨(List.replicate 64 c).toArray⟩
theorem fill_size (c : UInt8) : (fill c).size = 64 := rfl
theorem fillL_set (c : UInt8) (k : Nat) (hk : k < 64) : ((fillL c k).map byteV).toArray.setIfInBounds k (byteV c) = ((fillL c (k + 1)).map byteV).toArray := by
  rw [List.setIfInBounds_toArray, ← List.map_set]
  congr 2
  unfold fillL
  rw [List.set_append_right _ _ (by simp)]
  simp only [List.length_replicate, Nat.sub_self]
  obtain ⟨m, hm⟩ : ∃ m, 64 - k = m + 1 := ⟨63 - k, by omega⟩
  have e1 : List.replicate (k + 1) c = List.replicate k c ++ [c] := List.replicate_succ'
  have e2 : List.replicate (m + 1) (0 : UInt8) = 0 :: List.replicate m 0 := rfl
  rw [hm, show 64 - (k + 1) = m by omega, e1, e2]
  simp
theorem fillL_full (c : UInt8) : fillL c 64 = List.replicate 64 c := by simp only [fillL, Nat.sub_self, List.replicate_zero, List.append_nil]
theorem rep_at (N : Nat) (c : UInt8) (i : Nat) (h : i < N) : ((List.replicate N c).map byteV).toArray[i]? = some (byteV c) := by simp [h]
theorem rep_getD (N : Nat) (x : Int) (i : Nat) (h : i < N) : (List.replicate N x).getD i 0 = x := by simp [List.getD_eq_getElem?_getD, List.getElem?_replicate, h]
theorem info5 : (Try.prog.info? 5).map (fun i => (i.zero, i.size, i.bytes)) = some (some (.int .u8 0), 1, 1) := by kernel_rfl
theorem made_fill (c : UInt8) : madeCells #[.int .u8 0] 64 = ((fillL c 0).map byteV).toArray := by
  apply Array.toList_inj.1
  rw [toList_madeCells_one]
  simp [fillL, byteV]
set_option maxHeartbeats 1000000 in
theorem filled_any (x : Int) (c : UInt8) (hx : x = c.toNat) (w : World) :
    Calls Try.prog 11 #[.int .u8 x] w fun e w' => e = .returned (.string (fill c)) ∧ Mod (fun _ => False) w w' := by
  subst hx
  obtain ⟨i, hi, hz, hs, hb⟩ := info_parts info5
  have hmk : (Instr.makeSlice 57 (.int .i64 64) (.int .i64 64)).run Try.prog w = .ok (.slice (some ⟨w.heap.size, 0, none⟩) 64 64) (w.alloc (.cells ((fillL c 0).map byteV).toArray 5)) := by
    have h := run_make (P := Try.prog) w 57 5 i (.int .u8 0) Try.underlying57 hi hz .i64 .i64 64 64 (by omega) (by omega) (by rw [hb]; omega) (by omega)
    rw [hs] at h
    rw [← made_fill c]
    exact h
  obtain ⟨Z, hZ⟩ : ∃ Z, Z = ((fillL c 0).map byteV).toArray := ⟨_, rfl⟩
  rw [← hZ] at hmk
  have HZ := Lib.hid hZ
  have hx : ((c.toNat : Nat) : Int) = ((c.toNat : Nat) : Int) := rfl
  clear hZ hi hz hs hb hx
  go_enter Try.func11, Try.ntmps11
  go_wp2_with fail
  go_loopw [4] (fun i wr => ∃ k : Nat, k ≤ 64 ∧ i = .int .i64 k ∧ wr.heap[w.heap.size]? = some (.cells ((fillL c k).map byteV).toArray 5 (0, 0)) ∧ Mod (fun _ => False) w wr) (fun i _ => 64 - (intOf i).toNat)
  case atStart => exact ⟨0, by omega, rfl, by rw [← HZ.out]; exact new_block _ _ _ _ rfl, (Mod.refl _ _).alloc _⟩
  case round =>
    obtain ⟨k, hk, rfl, hb, hm⟩ := hrel
    by_cases hlt : k < 64
    · obtain ⟨v, hv⟩ : ∃ v, ((fillL c k).map byteV).toArray[k]? = some v := ⟨_, Array.getElem?_eq_getElem (by simp [fillL]; omega)⟩
      have hc := blk_cell hb hv
      have hf := blk_free hb (o := k)
      have HV := Lib.hid hv
      clear hv
      go_wp2_with fail
      go_roundw
      case rel => exact ⟨k + 1, by omega, by go_num, by rw [set_block hb, show Value.int IntKind.u8 (c.toNat : Int) = byteV c from rfl, fillL_set c k hlt], hm.setCell (fun (h : _ < _) => by simp at h) _⟩
      case measure => simp [intOf]; omega
    · obtain rfl : k = 64 := by omega
      have hcv : (convert 57 9 (.slice (some ⟨w.heap.size, 0, none⟩) 64 64)).run Try.prog wr = .ok (.string (fill c)) wr := by
        have hr := run_convert_bytes_arg (P := Try.prog) (w := wr) 57 5 Try.underlying57 Try.underlying5 w.heap.size 0 64 64 (List.replicate 64 (c.toNat : Int)) (by simp) (fun i hi => by
          have hx : ((fillL c 64).map byteV).toArray[0 + i]? = some (byteV c) := by rw [fillL_full, Nat.zero_add]; exact rep_at 64 c i hi
          rw [blk_cell hb hx, rep_getD 64 _ i hi]; rfl) 9 Try.underlying9
        rw [hr]
        congr 2
        simp [strOfNums, fill]
      clear hb
      go_wp2_with fail
      go_ret
      exact ⟨rfl, hm⟩
end Go.Proofs.Ythamdkjcbbapkaa
