/- BlockApart: a block that is written is that one, and all others are as they were. -/
import Derived.Test.YthamdkjcbbapkaaIn
namespace Go.Proofs.Ythamdkjcbbapkaa
open Go.RowKit
set_option linter.unusedSimpArgs false
set_option linter.unusedVariables false

/-- The first k blocks as they were, the others empty. -/
def wasL (mem : List UInt8) (k : Nat) : Array Value := ((List.range 16).map fun j => Value.string (if j < k then blk mem j else ByteArray.empty)).toArray
theorem wasL_at (mem : List UInt8) (k j : Nat) (hj : j < 16) : (wasL mem k)[j]? = some (.string (if j < k then blk mem j else ByteArray.empty)) := by
  simp [wasL, hj]
theorem wasL_set (mem : List UInt8) (k : Nat) (hk : k < 16) : (wasL mem k).setIfInBounds k (.string (blk mem k)) = wasL mem (k + 1) := by
  apply Array.ext_getElem?
  intro i
  rw [Array.getElem?_setIfInBounds]
  by_cases hi : i < 16
  · rw [wasL_at _ _ _ hi, wasL_at _ _ _ hi]
    by_cases e : k = i
    · subst e
      rw [if_pos rfl, if_pos (by simp [wasL]; exact hk), if_pos (by omega)]
    · rw [if_neg e]
      by_cases h : i < k
      · rw [if_pos h, if_pos (by omega)]
      · rw [if_neg h, if_neg (by omega)]
  · rw [if_neg (by omega)]
    simp [wasL, hi]

set_option maxRecDepth 100000 in
set_option maxHeartbeats 8000000 in
theorem apart_any (a : Option Addr) (n cap : Nat) (z : Nat → Int) (c : Int) (w : World) (hn : n ≤ 9223372036854775807) (hz : Ints w a n z) (hc0 : 0 ≤ c) (hc1 : c ≤ 255) :
    Calls Try.prog 5 #[.slice a n cap, .int .u8 c] w fun e w' => e = .returned (.bool true) ∧ Mod (fun _ => False) w w' := by
  go_enter Try.func5, Try.ntmps5
  go_wp2_with fail
  refine (new_any 16 w (by omega) (by omega)).mono ?_
  rintro e w1 ⟨rfl, d1, m1⟩
  go_wp2_with fail
  go_loopw [7] (fun q wr => ∃ (i : Nat) (mem : List UInt8) (cnt : Int), i ≤ n ∧ i ≤ 30 ∧ q = .int .i64 i ∧ 0 ≤ cnt ∧ cnt ≤ i ∧ Dev wr (w.heap.size + 1) w.heap.size 16 mem (-1) false cnt ∧ Mod (fun _ => False) w wr) (fun q _ => 30 - (intOf q).toNat)
  case atStart => exact ⟨0, _, _, by omega, by omega, rfl, by omega, by omega, d1, m1⟩
  case round =>
    clear d1 m1
    obtain ⟨i, mem, cnt, hi1, hi2, rfl, hcn0, hcn1, d, hm⟩ := hrel
    by_cases hlt1 : i < n
    · by_cases hlt2 : i < 30
      · obtain ⟨b, o, rfl, z0⟩ := hz i hlt1
        have HZ := Lib.hid hz
        clear hz
        generalize z i = x0 at *
        have hi0 : (0 : Int) ≤ (i : Int) := by omega
        have hi3 : (i : Int) < (n : Int) := by omega
        have hd30 : decide ((i : Int) < 30) = true := by simp; omega
        obtain ⟨y, hy, hy15⟩ : ∃ y : Nat, bits BinOp.and IntKind.i64 x0 15 = (y : Int) ∧ y ≤ 15 := ⟨(x0 % 16).toNat, by rw [i64_and15]; omega, by omega⟩
        obtain ⟨v, hv, hv255⟩ : ∃ v : Nat, bits BinOp.and IntKind.i64 (c + i) 255 = (v : Int) ∧ v ≤ 255 := ⟨((c + i) % 256).toNat, by rw [i64_and255]; omega, by omega⟩
        go_wp2_with fail
        obtain ⟨wo, rfl⟩ : ∃ wo : World, wo = wr := ⟨_, rfl⟩
        have ha0 : (wo.alloc (.cells (wasL mem 0) 49)).heap[wo.heap.size]? = some (.cells (wasL mem 0) 49 (0, 0)) := new_block wo _ 49 _ rfl
        have ma0 : Mod (fun _ => False) wo (wo.alloc (.cells (wasL mem 0) 49)) := (Mod.refl _ _).alloc _
        have hAw : w.heap.size + 1 < wo.heap.size := lt_of_block d.dev
        go_loopw [9] (fun q wk => ∃ k : Nat, k ≤ 16 ∧ q = .int .i64 k ∧ wk.heap[wo.heap.size]? = some (.cells (wasL mem k) 49 (0, 0)) ∧ Mod (fun _ => False) wo wk) (fun q _ => 16 - (intOf q).toNat)
        case atStart => exact ⟨0, by omega, rfl, ha0, ma0⟩
        case round =>
          clear ha0 ma0
          obtain ⟨k, hk, rfl, hb, mk⟩ := hrel
          by_cases hk16 : k < 16
          · have dk := d.kept mk (fun e => e) (fun e => e)
            have hc := blk_cell hb (wasL_at mem k k hk16)
            have hf := blk_free hb (o := k)
            have hk0 : (0 : Int) ≤ (k : Int) := by omega
            have hk1 : (k : Int) < 16 := by omega
            clear d hm hv hy z0
            rw [if_neg (Nat.lt_irrefl k)] at hc
            go_wp2_with fail
            refine (read_ok dk k hk16 (by omega)).mono ?_
            rintro e w5 ⟨rfl, rfl⟩
            go_wp2_with fail
            go_roundw
            case rel => exact ⟨k + 1, by omega, by go_num, by rw [set_block hb, wasL_set mem k hk16], mk.setCell (fun (h : wo.heap.size < wo.heap.size) => by omega) _⟩
            case measure => simp [intOf]; omega
          · obtain rfl : k = 16 := by omega
            have dk := d.kept mk (fun e => e) (fun e => e)
            have hmk := hm.tr mk
            have zz := hmk.at z0
            have hl := dk.len
            have HS := Lib.hid (fill_size (UInt8.ofNat v))
            have hvb : (v : Int) = ((UInt8.ofNat v).toNat : Int) := by simp; omega
            have HV := Lib.hid hvb
            clear d hm z0 hvb
            go_wp2_with fail
            refine (filled_any _ (UInt8.ofNat v) HV.out _).mono ?_
            rintro e w5 ⟨rfl, m5⟩
            have d5 := dk.kept m5 (fun e => e) (fun e => e)
            have b5 := m5.blk hb (fun e => e)
            generalize fill (UInt8.ofNat v) = s at *
            have HLen := Lib.hid hl
            clear hl
            go_wp2_with fail
            refine (write_ok d5 y s (by omega) HS.out (by omega) (by omega) (by omega) (by omega) (by omega) (by omega)).mono ?_
            rintro e w6 ⟨rfl, d6, m6⟩
            have b6 := m6.blk b5 (fun e => by omega)
            have hm6 := (hmk.tr m5).new m6 (fun i e => by omega)
            rw [if_neg (by omega)] at d6
            clear dk d5 m5 m6 b5 hb mk hmk zz
            go_wp2_with fail
            go_loopw [12] (fun q wq => ∃ k : Nat, k ≤ 16 ∧ q = .int .i64 k ∧ w6 = wq) (fun q _ => 16 - (intOf q).toNat)
            case atStart => exact ⟨0, by omega, rfl, rfl⟩
            case round =>
              obtain ⟨k, hk, rfl, rfl⟩ := hrel
              by_cases hk16 : k < 16
              · have hk0 : (0 : Int) ≤ (k : Int) := by omega
                have hk1 : (k : Int) < 16 := by omega
                by_cases hky : k = y
                · have e1 : ((k : Int) == (y : Int)) = true := by rw [beq_iff_eq]; omega
                  have e2 : ((k : Int) != (y : Int)) = false := by rw [bne_eq_false_iff_eq]; omega
                  have hr := blk_same (k := y) HLen.out (by omega) HS.out
                  rw [← hky] at hr
                  have HR := Lib.hid hr
                  rw [← hky] at d6
                  have HK := Lib.hid hky
                  clear hr hky
                  go_wp2_with fail
                  refine (read_ok d6 k hk16 (by omega)).mono ?_
                  rintro e w7 ⟨rfl, rfl⟩
                  rw [HR.out]
                  go_wp2_with fail
                  go_roundw
                  case rel => exact ⟨k + 1, by omega, by go_num, trivial⟩
                  case measure => simp [intOf]; omega
                · have e1 : ((k : Int) == (y : Int)) = false := by rw [beq_eq_false_iff_ne]; omega
                  have e2 : ((k : Int) != (y : Int)) = true := by rw [bne_iff_ne]; omega
                  have HR := Lib.hid (blk_other (k := y) (j := k) HLen.out (by omega) hk16 HS.out hky)
                  have hc := blk_cell b6 (wasL_at mem 16 k hk16)
                  rw [if_pos hk16] at hc
                  clear hky
                  go_wp2_with fail
                  refine (read_ok d6 k hk16 (by omega)).mono ?_
                  rintro e w7 ⟨rfl, rfl⟩
                  rw [HR.out]
                  go_wp2_with fail
                  go_roundw
                  case rel => exact ⟨k + 1, by omega, by go_num, trivial⟩
                  case measure => simp [intOf]; omega
              · obtain rfl : k = 16 := by omega
                go_wp2_with fail
                go_roundw
                case rel => exact ⟨i + 1, _, _, by omega, by omega, by go_num, by omega, by omega, d6, hm6⟩
                case measure => simp [intOf]; omega
      · clear d hz
        go_wp2_with fail
        refine (awake_any _).mono ?_
        rintro e w6 ⟨rfl, m6⟩
        go_wp2_with fail
        go_ret
        exact ⟨rfl, hm.tr m6⟩
    · clear d hz
      go_wp2_with fail
      refine (awake_any _).mono ?_
      rintro e w6 ⟨rfl, m6⟩
      go_wp2_with fail
      go_ret
      exact ⟨rfl, hm.tr m6⟩
end Go.Proofs.Ythamdkjcbbapkaa
