/- BlockStays: what was written stays, and nothing behind it is, when the power goes off. -/
import Derived.Test.YthamdkjcbbapkaaB4
import Derived.Test.YthamdkjcbbapkaaBm
namespace Go.Proofs.Ythamdkjcbbapkaa
open Go.RowKit
set_option linter.unusedSimpArgs false
set_option linter.unusedVariables false

def by8 (i : Nat) : UInt8 := UInt8.ofNat (1 + i)
/-- The blocks behind i writes of which k went through. -/
def Went (mem : List UInt8) (i k : Nat) : Prop := ∀ j, j < 40 → blk mem j = fill (if j < i ∧ j < k then by8 j else 0)
theorem went_start (k : Nat) : Went (List.replicate (40 * 64) 0) 0 k := fun j hj => by rw [blk_zero hj, if_neg (by omega)]
theorem went_write {mem : List UInt8} {i k : Nat} (hl : mem.length = 40 * 64) (h : Went mem i k) (hi : i < k) (h40 : i < 40) : Went (wrote mem i (fill (by8 i))) (i + 1) k := by
  intro j hj
  by_cases e : j = i
  · subst e; rw [blk_same hl hj (fill_size _), if_pos (by omega)]
  · rw [blk_other hl h40 hj (fill_size _) e, h j hj]
    by_cases e2 : j < i ∧ j < k
    · rw [if_pos e2, if_pos (by omega)]
    · rw [if_neg e2, if_neg (by omega)]
theorem went_skip {mem : List UInt8} {i k : Nat} (h : Went mem i k) (hi : k ≤ i) : Went mem (i + 1) k := by
  intro j hj
  rw [h j hj]
  by_cases e2 : j < i ∧ j < k
  · rw [if_pos e2, if_pos (by omega)]
  · rw [if_neg e2, if_neg (by omega)]
theorem byte_of (i : Nat) (hi : i < 40) : (1 + (i : Int)) = ((by8 i).toNat : Int) := by
  have : (by8 i).toNat = (1 + i) % 256 := by unfold by8; simp
  rw [this]; omega

/-- What a device shows behind i writes, the power going off behind k. -/
def Going (i k : Nat) (fu : Int) (off : Bool) (wn : Int) : Prop := (i ≤ k ∧ fu = k - i ∧ off = false ∧ wn = i) ∨ (k < i ∧ fu = -1 ∧ off = true ∧ wn = k)
set_option maxRecDepth 100000 in
set_option maxHeartbeats 4000000 in
theorem stays_any (many fuse : Int) (w : World) : Calls Try.prog 4 #[.int .i64 many, .int .i64 fuse] w fun e w' => e = .returned (.bool true) ∧ Mod (fun _ => False) w w' := by
  obtain ⟨n, hn, hn40⟩ : ∃ n : Nat, (bits BinOp.and IntKind.i64 many 255).tmod 40 = (n : Int) ∧ n < 40 := ⟨((many % 256) % 40).toNat, by rw [i64_and255, Int.tmod_eq_emod_of_nonneg (by omega)]; omega, by omega⟩
  obtain ⟨k, hk, hk64⟩ : ∃ k : Nat, bits BinOp.and IntKind.i64 fuse 63 = (k : Int) ∧ k < 64 := ⟨(fuse % 64).toNat, by rw [i64_and63]; omega, by omega⟩
  go_enter Try.func4, Try.ntmps4
  go_wp2_with fail
  refine (new_any 40 w (by omega) (by omega)).mono ?_
  rintro e w1 ⟨rfl, d1, m1⟩
  go_wp2_with fail
  refine (fuse_dev d1 (by omega) _).mono ?_
  rintro e w2 ⟨rfl, d2, m2⟩
  have hmx : max (k : Int) (-1) = k := by omega
  replace m2 := m1.new m2 (fun i (e : i = _) => by omega)
  clear d1 m1
  rw [hmx] at d2
  clear hmx
  go_wp2_with fail
  clear hn hk
  go_loopw [9] (fun q wr => ∃ (i : Nat) (mem : List UInt8) (fu wn : Int) (off : Bool), i ≤ n ∧ q = .int .i64 i ∧ Dev wr (w.heap.size + 1) w.heap.size 40 mem fu off wn ∧ Going i k fu off wn ∧ Went mem i k ∧ Mod (fun _ => False) w wr) (fun q _ => n - (intOf q).toNat)
  case atStart => exact ⟨0, _, _, _, _, by omega, rfl, d2, .inl ⟨by omega, by omega, rfl, rfl⟩, went_start k, m2⟩
  case round =>
    clear d2 m2
    obtain ⟨i, mem, fu, wn, off, hi, rfl, d, gg, went, hm⟩ := hrel
    have hnw : ∀ j, j = w.heap.size + 1 ∨ j = w.heap.size → w.heap.size ≤ j := fun j hj => by omega
    have HNW := Lib.hid hnw
    clear hnw
    by_cases hlt : i < n
    · have hby := byte_of i (by omega)
      have hl := d.len
      by_cases hik : i < k
      · obtain ⟨g1, g2, rfl, g4⟩ : i ≤ k ∧ fu = k - i ∧ off = false ∧ wn = i := by
          rcases gg with ⟨a, b, c, e⟩ | ⟨a, _⟩
          · exact ⟨a, b, c, e⟩
          · omega
        have hp1 : fu ≠ 0 := by omega
        have hp2 : 0 ≤ wn ∧ wn < 4611686018427387904 ∧ -1 ≤ fu ∧ fu ≤ 9223372036854775807 := by omega
        have G2 := Lib.hid g2
        have G4 := Lib.hid g4
        have HL := Lib.hid hl
        clear g2 g4 gg hl
        have HB := Lib.hid hby
        clear hby
        go_wp2_with fail
        refine (filled_any _ (by8 i) HB.out _).mono ?_
        rintro e w3 ⟨rfl, m3⟩
        have d3 := d.kept m3 (fun e => e) (fun e => e)
        go_wp2_with fail
        refine (write_ok d3 i _ (by omega) (fill_size _) hp1 hp2.1 hp2.2.1 hp2.2.2.1 hp2.2.2.2 (by omega)).mono ?_
        rintro e w4 ⟨rfl, d4, m4⟩
        have m5 := (hm.tr m3).new m4 HNW.out
        clear d d3 m3 m4 hm
        go_wp2_with fail
        go_roundw
        case rel => exact ⟨i + 1, _, _, _, _, by omega, by go_num, d4, .inl ⟨by omega, by have := G2.out; split <;> omega, rfl, by have := G4.out; omega⟩, went_write HL.out went hik (by omega), m5⟩
        case measure => simp [intOf]; omega
      · have hoff : off = true ∨ fu = 0 := by
          rcases gg with ⟨a, b, c, e⟩ | ⟨_, _, c, _⟩
          · right; omega
          · left; exact c
        have hwn : wn = k := by
          rcases gg with ⟨a, b, c, e⟩ | ⟨_, _, _, e⟩
          · omega
          · exact e
        have HO := Lib.hid hoff
        have HW := Lib.hid hwn
        have HB := Lib.hid hby
        clear hoff hwn hby gg
        go_wp2_with fail
        refine (filled_any _ (by8 i) HB.out _).mono ?_
        rintro e w3 ⟨rfl, m3⟩
        have d3 := d.kept m3 (fun e => e) (fun e => e)
        go_wp2_with fail
        refine (write_off d3 i _ (by omega) (by omega) (fill_size _) HO.out).mono ?_
        rintro e w4 ⟨rfl, d4, m4⟩
        have m5 := (hm.tr m3).new m4 (fun j e => HNW.out j (.inl e))
        clear d d3 m3 m4 hm
        go_wp2_with fail
        go_roundw
        case rel => exact ⟨i + 1, _, _, _, _, by omega, by go_num, d4, .inr ⟨by omega, rfl, rfl, HW.out⟩, went_skip went (by omega), m5⟩
        case measure => simp [intOf]; omega
    · obtain rfl : i = n := by omega
      have H1 : off = decide ((k : Int) < (i : Int)) ∧ wn = min (i : Int) k := by
        rcases gg with ⟨a, b, c, e⟩ | ⟨a, _, c, e⟩
        · exact ⟨by rw [c]; symm; simp; omega, by omega⟩
        · exact ⟨by rw [c]; symm; simp; omega, by omega⟩
      obtain ⟨h1, h2⟩ := H1
      subst h1
      clear gg
      obtain ⟨m, hm1, hm2⟩ : ∃ m : Nat, (k < i ∧ m = k ∨ k = i ∧ m = i ∨ i < k ∧ m = i) ∧ wn = m := ⟨min i k, by omega, by omega⟩
      subst hm2
      have hwent : ∀ j : Nat, j < 40 → blk mem j = fill (if j < m then by8 j else 0) := by
        intro j hj
        rw [went j hj]
        congr 1
        by_cases e : j < m
        · rw [if_pos e, if_pos (by omega)]
        · rw [if_neg e, if_neg (by omega)]
      have HWent := Lib.hid hwent
      clear hwent went h2
      rcases hm1 with ⟨hki, hmk⟩ | ⟨hki, hmk⟩ | ⟨hki, hmk⟩
      · subst hmk; skip
        go_wp2_with fail
        refine (off_dev d).mono ?_
        rintro e w3 ⟨rfl, rfl⟩
        go_wp2_with fail
        refine (writes_dev d).mono ?_
        rintro e w3 ⟨rfl, rfl⟩
        go_wp2_with fail
        refine (on_dev d (by omega)).mono ?_
        rintro e w3 ⟨rfl, d3, m3⟩
        have hm3 := hm.new m3 (fun j e => HNW.out j (.inl e))
        clear d m3 hm
        go_wp2_with fail
        go_loopw [11] (fun v wr => ∃ q : Nat, q ≤ 40 ∧ v = .int .i64 q ∧ Mod (fun _ => False) w3 wr) (fun v _ => 40 - (intOf v).toNat)
        case atStart => exact ⟨0, by omega, rfl, Mod.refl _ _⟩
        case round =>
          obtain ⟨q, hq, rfl, mq⟩ := hrel
          by_cases hq4 : q < 40
          · have dq := d3.kept mq (fun e => e) (fun e => e)
            have hwq := HWent.out q hq4
            have hby := byte_of q hq4
            have HB := Lib.hid hby
            clear hby d3
            by_cases hqm : q < m
            · rw [if_pos hqm] at hwq
              have HQ := Lib.hid hwq
              clear hwq
              go_wp2_with fail
              refine (read_ok dq q (by omega) (by omega)).mono ?_
              rintro e w5 ⟨rfl, rfl⟩
              rw [HQ.out]
              go_wp2_with fail
              refine (filled_any _ (by8 q) HB.out _).mono ?_
              rintro e w5 ⟨rfl, m5⟩
              go_wp2_with fail
              go_roundw
              case rel => exact ⟨q + 1, by omega, by go_num, mq.tr m5⟩
              case measure => simp [intOf]; omega
            · rw [if_neg hqm] at hwq
              have HQ := Lib.hid hwq
              clear hwq
              go_wp2_with fail
              refine (read_ok dq q (by omega) (by omega)).mono ?_
              rintro e w5 ⟨rfl, rfl⟩
              rw [HQ.out]
              go_wp2_with fail
              refine (filled_any _ 0 rfl _).mono ?_
              rintro e w5 ⟨rfl, m5⟩
              go_wp2_with fail
              go_roundw
              case rel => exact ⟨q + 1, by omega, by go_num, mq.tr m5⟩
              case measure => simp [intOf]; omega
          · clear d3
            go_wp2_with fail
            refine (awake_any _).mono ?_
            rintro e w6 ⟨rfl, m6⟩
            go_wp2_with fail
            go_ret
            exact ⟨rfl, (hm3.tr mq).tr m6⟩
      · subst hki hmk; skip
        go_wp2_with fail
        refine (off_dev d).mono ?_
        rintro e w3 ⟨rfl, rfl⟩
        go_wp2_with fail
        refine (writes_dev d).mono ?_
        rintro e w3 ⟨rfl, rfl⟩
        go_wp2_with fail
        refine (on_dev d (by omega)).mono ?_
        rintro e w3 ⟨rfl, d3, m3⟩
        have hm3 := hm.new m3 (fun j e => HNW.out j (.inl e))
        clear d m3 hm
        go_wp2_with fail
        go_loopw [11] (fun v wr => ∃ q : Nat, q ≤ 40 ∧ v = .int .i64 q ∧ Mod (fun _ => False) w3 wr) (fun v _ => 40 - (intOf v).toNat)
        case atStart => exact ⟨0, by omega, rfl, Mod.refl _ _⟩
        case round =>
          obtain ⟨q, hq, rfl, mq⟩ := hrel
          by_cases hq4 : q < 40
          · have dq := d3.kept mq (fun e => e) (fun e => e)
            have hwq := HWent.out q hq4
            have hby := byte_of q hq4
            have HB := Lib.hid hby
            clear hby d3
            by_cases hqm : q < m
            · rw [if_pos hqm] at hwq
              have HQ := Lib.hid hwq
              clear hwq
              go_wp2_with fail
              refine (read_ok dq q (by omega) (by omega)).mono ?_
              rintro e w5 ⟨rfl, rfl⟩
              rw [HQ.out]
              go_wp2_with fail
              refine (filled_any _ (by8 q) HB.out _).mono ?_
              rintro e w5 ⟨rfl, m5⟩
              go_wp2_with fail
              go_roundw
              case rel => exact ⟨q + 1, by omega, by go_num, mq.tr m5⟩
              case measure => simp [intOf]; omega
            · rw [if_neg hqm] at hwq
              have HQ := Lib.hid hwq
              clear hwq
              go_wp2_with fail
              refine (read_ok dq q (by omega) (by omega)).mono ?_
              rintro e w5 ⟨rfl, rfl⟩
              rw [HQ.out]
              go_wp2_with fail
              refine (filled_any _ 0 rfl _).mono ?_
              rintro e w5 ⟨rfl, m5⟩
              go_wp2_with fail
              go_roundw
              case rel => exact ⟨q + 1, by omega, by go_num, mq.tr m5⟩
              case measure => simp [intOf]; omega
          · clear d3
            go_wp2_with fail
            refine (awake_any _).mono ?_
            rintro e w6 ⟨rfl, m6⟩
            go_wp2_with fail
            go_ret
            exact ⟨rfl, (hm3.tr mq).tr m6⟩
      · subst hmk; skip
        go_wp2_with fail
        refine (off_dev d).mono ?_
        rintro e w3 ⟨rfl, rfl⟩
        go_wp2_with fail
        refine (writes_dev d).mono ?_
        rintro e w3 ⟨rfl, rfl⟩
        go_wp2_with fail
        refine (on_dev d (by omega)).mono ?_
        rintro e w3 ⟨rfl, d3, m3⟩
        have hm3 := hm.new m3 (fun j e => HNW.out j (.inl e))
        clear d m3 hm
        go_wp2_with fail
        go_loopw [11] (fun v wr => ∃ q : Nat, q ≤ 40 ∧ v = .int .i64 q ∧ Mod (fun _ => False) w3 wr) (fun v _ => 40 - (intOf v).toNat)
        case atStart => exact ⟨0, by omega, rfl, Mod.refl _ _⟩
        case round =>
          obtain ⟨q, hq, rfl, mq⟩ := hrel
          by_cases hq4 : q < 40
          · have dq := d3.kept mq (fun e => e) (fun e => e)
            have hwq := HWent.out q hq4
            have hby := byte_of q hq4
            have HB := Lib.hid hby
            clear hby d3
            by_cases hqm : q < m
            · rw [if_pos hqm] at hwq
              have HQ := Lib.hid hwq
              clear hwq
              go_wp2_with fail
              refine (read_ok dq q (by omega) (by omega)).mono ?_
              rintro e w5 ⟨rfl, rfl⟩
              rw [HQ.out]
              go_wp2_with fail
              refine (filled_any _ (by8 q) HB.out _).mono ?_
              rintro e w5 ⟨rfl, m5⟩
              go_wp2_with fail
              go_roundw
              case rel => exact ⟨q + 1, by omega, by go_num, mq.tr m5⟩
              case measure => simp [intOf]; omega
            · rw [if_neg hqm] at hwq
              have HQ := Lib.hid hwq
              clear hwq
              go_wp2_with fail
              refine (read_ok dq q (by omega) (by omega)).mono ?_
              rintro e w5 ⟨rfl, rfl⟩
              rw [HQ.out]
              go_wp2_with fail
              refine (filled_any _ 0 rfl _).mono ?_
              rintro e w5 ⟨rfl, m5⟩
              go_wp2_with fail
              go_roundw
              case rel => exact ⟨q + 1, by omega, by go_num, mq.tr m5⟩
              case measure => simp [intOf]; omega
          · clear d3
            go_wp2_with fail
            refine (awake_any _).mono ?_
            rintro e w6 ⟨rfl, m6⟩
            go_wp2_with fail
            go_ret
            exact ⟨rfl, (hm3.tr mq).tr m6⟩
end Go.Proofs.Ythamdkjcbbapkaa
