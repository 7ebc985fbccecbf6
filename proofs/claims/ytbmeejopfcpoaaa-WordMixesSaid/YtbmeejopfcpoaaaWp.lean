/- Words as bytes. -/
import Derived.Test.YtbmeejopfcpoaaaW7
import Derived.Test.YtbmeejopfcpoaaaW9
import Derived.Test.YtbmeejopfcpoaaaWr
namespace Go.Proofs.Ytbmeejopfcpoaaa
open Go.RowKit
set_option linter.unusedSimpArgs false
set_option linter.unusedVariables false

def putS (z : Nat → Int) (k : Nat) : List UInt8 := (List.range k).flatMap fun j => (b4 (z j)).reverse
theorem putS_succ (z : Nat → Int) (k : Nat) : putS z (k + 1) = putS z k ++ (b4 (z k)).reverse := by
  unfold putS; rw [List.range_succ, List.flatMap_append]; simp
theorem putS_length (z : Nat → Int) (k : Nat) : (putS z k).length = 4 * k := by
  induction k with
  | zero => rfl
  | succ k ih => rw [putS_succ]; simp [ih, b4]; omega
abbrev c8 (x : Int) : Int := x % 256
theorem b4_cells (x : Int) : Lib.byteCells (b4 x) = [.int .u8 (c8 (x / 16777216)), .int .u8 (c8 (x / 65536)), .int .u8 (c8 (x / 256)), .int .u8 (c8 x)] := by
  have e : ∀ (d : Nat) (y : Int), ((wordN x / d : Nat) : Int) % 256 = y % 256 → (((UInt8.ofNat (wordN x / d)).toNat : Nat) : Int) = c8 y := by
    intro d y h
    rw [UInt8.toNat_ofNat']
    show _ = y % 256
    omega
  have e1 := e 16777216 (x / 16777216) (by unfold wordN; omega)
  have e2 := e 65536 (x / 65536) (by unfold wordN; omega)
  have e3 := e 256 (x / 256) (by unfold wordN; omega)
  have e4 := e 1 x (by unfold wordN; omega)
  rw [Nat.div_one] at e4
  simp only [b4, Lib.byteCells, List.map_cons, List.map_nil, e1, e2, e3, e4]

set_option maxRecDepth 100000 in
set_option maxHeartbeats 4000000 in
theorem put_big (a : Option Addr) (n cap : Nat) (z : Nat → Int) (w : World) (hn : n ≤ 10000) (hz : Ints w a n z) :
    Calls Try.prog 32 #[.slice a n cap, .bool false] w fun e w' => e = .returned (.string ⟨(putL z n).toArray⟩) ∧ Mod (fun _ => False) w w' := by
  have fresh := bld_fresh w
  have FR := Lib.hid fresh
  clear fresh
  go_enter Try.func32, Try.ntmps32
  go_wp2_with fail
  go_loopw [11] (fun i wr => ∃ k : Nat, k ≤ n ∧ i = .int .i64 (k : Int) ∧ Bld w wr w.heap.size (putL z k)) (fun i _ => n - (intOf i).toNat)
  case atStart => exact ⟨0, by omega, rfl, FR.out⟩
  case round =>
    obtain ⟨k, hk, rfl, bld⟩ := hrel
    have hmm := bld.2.size
    have hlt0 : w.heap.size < wr.heap.size := by obtain ⟨⟨p, hp, hb⟩, hm⟩ := bld; exact hb.lt
    by_cases hlt : k < n
    · have hi0 : (0 : Int) ≤ (k : Int) := by omega
      have hlt2 : (k : Int) < (n : Int) := by omega
      obtain ⟨b1, o1, rfl, c1⟩ := (hz.kept bld.2) k hlt
      have HL := Lib.hid (putL_succ z k)
      have HN := Lib.hid (putL_length z k)
      have HZ := Lib.hid hz
      have HC := Lib.hid (b4_cells (z k))
      clear hz
      go_wp2_with fail
      have hg2 := new_block wr #[.int .u8 (c8 (z k / 16777216)), .int .u8 (c8 (z k / 65536)), .int .u8 (c8 (z k / 256)), .int .u8 (c8 (z k))] 5 _ rfl
      have bld2 := bld.mod ((Mod.refl _ _).alloc (.cells #[.int .u8 (c8 (z k / 16777216)), .int .u8 (c8 (z k / 65536)), .int .u8 (c8 (z k / 256)), .int .u8 (c8 (z k))] 5))
      refine (write_any w _ _ _ bld2 (b4 (z k)) wr.heap.size 4 _ rfl (by omega) ?hc (by decide) ?hl (by decide)).mono ?_
      case hc =>
        intro j u hj
        have hcs : Lib.byteCells ((b4 (z k))) = [.int .u8 (c8 (z k / 16777216)), .int .u8 (c8 (z k / 65536)), .int .u8 (c8 (z k / 256)), .int .u8 (c8 (z k))] := by
          have := HC.out
          simp only [Lib.byteCells, List.map_reverse] at this ⊢
          rw [this]
          try rfl
        rw [hcs] at hj
        match j, hj with
        | 0, hj => simp at hj; subst hj; exact blk_cell hg2 rfl
        | 1, hj => simp at hj; subst hj; exact blk_cell hg2 rfl
        | 2, hj => simp at hj; subst hj; exact blk_cell hg2 rfl
        | 3, hj => simp at hj; subst hj; exact blk_cell hg2 rfl
      case hl => have := HN.out; omega
      rintro e w4 ⟨⟨v4, rfl⟩, used⟩
      rw [← HL.out] at used
      clear bld bld2 hg2
      go_wp2_with fail
      go_roundw
      case rel => exact ⟨k + 1, by omega, by go_num, used.bld⟩
      case measure => simp [intOf]; omega
    · obtain rfl : k = n := by omega
      go_wp2_with fail
      refine (string_any w _ _ _ bld).mono ?_
      rintro e w4 ⟨rfl, m4⟩
      go_wp2_with fail
      go_ret
      exact ⟨rfl, m4⟩
theorem putbig_any (a : Option Addr) (n cap : Nat) (z : Nat → Int) (w : World) (hn : n ≤ 10000) (hz : Ints w a n z) :
    Calls Try.prog 16 #[.slice a n cap] w fun e w' => e = .returned (.string ⟨(putL z n).toArray⟩) ∧ Mod (fun _ => False) w w' := by
  have HZ := Lib.hid hz
  clear hz
  go_enter Try.func16, Try.ntmps16
  go_wp2_with fail
  refine (put_big _ _ _ z _ hn HZ.out).mono ?_
  rintro e w4 ⟨rfl, m4⟩
  go_wp2_with fail
  go_ret
  exact ⟨rfl, m4⟩

set_option maxRecDepth 100000 in
set_option maxHeartbeats 4000000 in
theorem put_small (a : Option Addr) (n cap : Nat) (z : Nat → Int) (w : World) (hn : n ≤ 10000) (hz : Ints w a n z) :
    Calls Try.prog 32 #[.slice a n cap, .bool true] w fun e w' => e = .returned (.string ⟨(putS z n).toArray⟩) ∧ Mod (fun _ => False) w w' := by
  have fresh := bld_fresh w
  have FR := Lib.hid fresh
  clear fresh
  go_enter Try.func32, Try.ntmps32
  go_wp2_with fail
  go_loopw [11] (fun i wr => ∃ k : Nat, k ≤ n ∧ i = .int .i64 (k : Int) ∧ Bld w wr w.heap.size (putS z k)) (fun i _ => n - (intOf i).toNat)
  case atStart => exact ⟨0, by omega, rfl, FR.out⟩
  case round =>
    obtain ⟨k, hk, rfl, bld⟩ := hrel
    have hmm := bld.2.size
    have hlt0 : w.heap.size < wr.heap.size := by obtain ⟨⟨p, hp, hb⟩, hm⟩ := bld; exact hb.lt
    by_cases hlt : k < n
    · have hi0 : (0 : Int) ≤ (k : Int) := by omega
      have hlt2 : (k : Int) < (n : Int) := by omega
      obtain ⟨b1, o1, rfl, c1⟩ := (hz.kept bld.2) k hlt
      have HL := Lib.hid (putS_succ z k)
      have HN := Lib.hid (putS_length z k)
      have HZ := Lib.hid hz
      have HC := Lib.hid (b4_cells (z k))
      clear hz
      go_wp2_with fail
      refine (rev_any _ _ _ _ _ _ _ (new_block _ _ _ _ rfl)).mono ?_
      rintro e w2 ⟨rfl, hg2, m2⟩
      have m3 : Mod (fun _ => False) wr w2 := ((Mod.refl _ _).alloc _).new m2 (fun i e => Nat.le_of_eq e.symm)
      have bld2 := bld.mod m3
      clear m2 hmm
      go_wp2_with fail
      refine (write_any w _ _ _ bld2 (b4 (z k)).reverse wr.heap.size 4 _ rfl (by omega) ?hc (by decide) ?hl (by decide)).mono ?_
      case hc =>
        intro j u hj
        have hcs : Lib.byteCells ((b4 (z k)).reverse) = [.int .u8 (c8 (z k)), .int .u8 (c8 (z k / 256)), .int .u8 (c8 (z k / 65536)), .int .u8 (c8 (z k / 16777216))] := by
          have := HC.out
          simp only [Lib.byteCells, List.map_reverse] at this ⊢
          rw [this]
          try rfl
        rw [hcs] at hj
        match j, hj with
        | 0, hj => simp at hj; subst hj; exact blk_cell hg2 rfl
        | 1, hj => simp at hj; subst hj; exact blk_cell hg2 rfl
        | 2, hj => simp at hj; subst hj; exact blk_cell hg2 rfl
        | 3, hj => simp at hj; subst hj; exact blk_cell hg2 rfl
      case hl => have := HN.out; omega
      rintro e w4 ⟨⟨v4, rfl⟩, used⟩
      rw [← HL.out] at used
      clear bld bld2 hg2
      go_wp2_with fail
      go_roundw
      case rel => exact ⟨k + 1, by omega, by go_num, used.bld⟩
      case measure => simp [intOf]; omega
    · obtain rfl : k = n := by omega
      go_wp2_with fail
      refine (string_any w _ _ _ bld).mono ?_
      rintro e w4 ⟨rfl, m4⟩
      go_wp2_with fail
      go_ret
      exact ⟨rfl, m4⟩
theorem putsmall_any (a : Option Addr) (n cap : Nat) (z : Nat → Int) (w : World) (hn : n ≤ 10000) (hz : Ints w a n z) :
    Calls Try.prog 20 #[.slice a n cap] w fun e w' => e = .returned (.string ⟨(putS z n).toArray⟩) ∧ Mod (fun _ => False) w w' := by
  have HZ := Lib.hid hz
  clear hz
  go_enter Try.func20, Try.ntmps20
  go_wp2_with fail
  refine (put_small _ _ _ z _ hn HZ.out).mono ?_
  rintro e w4 ⟨rfl, m4⟩
  go_wp2_with fail
  go_ret
  exact ⟨rfl, m4⟩

end Go.Proofs.Ytbmeejopfcpoaaa
