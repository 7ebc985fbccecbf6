/- Big, Small, SameInts; what words must be. -/
import Derived.Test.YtbmeejopfcpoaaaW2
namespace Go.Proofs.Ytbmeejopfcpoaaa
open Go.RowKit
set_option linter.unusedSimpArgs false
set_option linter.unusedVariables false

theorem big_ok (s : ByteArray) (w : World) (hs : s.size ≤ 100000) (m : Nat) (hm : s.size = 4 * m) :
    Calls Try.prog 13 #[.string s] w fun e w' => ∃ a c, e = .returned (.tuple #[.slice a m c, .int .i64 0]) ∧ w'.ownsRow w.heap.size 3 1 (.slice a m c) m (wordsL true s m) ∧ Mod (fun _ => False) w w' := by
  have HM := Lib.hid hm
  clear hm
  go_enter Try.func13, Try.ntmps13
  go_wp2_with fail
  refine (words_big s w hs m HM.out).mono ?_
  rintro e w2 ⟨v, rfl, own, mm⟩
  obtain ⟨a, c, rfl⟩ := own_form own
  have HO := Lib.hid own
  clear own
  go_wp2_with fail
  go_ret2
  exact ⟨a, c, rfl, HO.out, mm⟩
theorem small_ok (s : ByteArray) (w : World) (hs : s.size ≤ 100000) (m : Nat) (hm : s.size = 4 * m) :
    Calls Try.prog 18 #[.string s] w fun e w' => ∃ a c, e = .returned (.tuple #[.slice a m c, .int .i64 0]) ∧ w'.ownsRow w.heap.size 3 1 (.slice a m c) m (wordsL false s m) ∧ Mod (fun _ => False) w w' := by
  have HM := Lib.hid hm
  clear hm
  go_enter Try.func18, Try.ntmps18
  go_wp2_with fail
  refine (words_small s w hs m HM.out).mono ?_
  rintro e w2 ⟨v, rfl, own, mm⟩
  obtain ⟨a, c, rfl⟩ := own_form own
  have HO := Lib.hid own
  clear own
  go_wp2_with fail
  go_ret2
  exact ⟨a, c, rfl, HO.out, mm⟩
theorem big_bad (s : ByteArray) (w : World) (hs : s.size ≤ 100000) (hm : s.size % 4 ≠ 0) :
    Calls Try.prog 13 #[.string s] w fun e w' => e = .returned (.tuple #[.slice none 0 0, .int .i64 1]) ∧ w = w' := by
  go_enter Try.func13, Try.ntmps13
  go_wp2_with fail
  refine (words_bad s w _ hm hs).mono ?_
  rintro e w2 ⟨rfl, rfl⟩
  go_wp2_with fail
  go_ret2
  exact ⟨rfl, rfl⟩
theorem small_bad (s : ByteArray) (w : World) (hs : s.size ≤ 100000) (hm : s.size % 4 ≠ 0) :
    Calls Try.prog 18 #[.string s] w fun e w' => e = .returned (.tuple #[.slice none 0 0, .int .i64 1]) ∧ w = w' := by
  go_enter Try.func18, Try.ntmps18
  go_wp2_with fail
  refine (words_bad s w _ hm hs).mono ?_
  rintro e w2 ⟨rfl, rfl⟩
  go_wp2_with fail
  go_ret2
  exact ⟨rfl, rfl⟩
/-- The cells of n numbers. -/
def Ints (w : World) (a : Option Addr) (n : Nat) (z : Nat → Int) : Prop :=
  ∀ k, k < n → ∃ b off, a = some ⟨b, off, none⟩ ∧ w.cell? ⟨b, off + k, none⟩ = some (.int .i64 (z k))
theorem Ints.kept {w w' : World} {a : Option Addr} {n : Nat} {z : Nat → Int} (h : Ints w a n z) (m : Mod (fun _ => False) w w') : Ints w' a n z := fun k hk => by
  obtain ⟨b, off, e, c⟩ := h k hk
  exact ⟨b, off, e, m.at c⟩
theorem own_ints {w : World} {base n cap : Nat} {a : Option Addr} {x : Nat → Int} (h : w.ownsRow base 3 1 (.slice a n cap) n ((List.range n).map fun j => .int .i64 (x j))) : Ints w a n x := by
  intro k hk
  rcases h.2 with ⟨h2, hn⟩ | ⟨g, cap', cur, hv, hg, hh, hc1, hc2, hsz, htk⟩
  · omega
  · simp at hv
    obtain ⟨rfl, rfl⟩ := hv
    refine ⟨g, 0, rfl, ?_⟩
    rw [Nat.zero_add]
    refine blk_cell hh ?_
    have h3 : (cur.toList.take (n * 1))[k]? = some (.int .i64 (x k)) := by rw [htk]; simp [hk]
    rw [List.getElem?_take, if_pos (by omega)] at h3
    simpa using h3
set_option maxHeartbeats 2000000 in
theorem same_yes (a b : Option Addr) (n ca cb : Nat) (x y : Nat → Int) (w : World) (hn : n ≤ 1000000) (ha : Ints w a n x) (hb : Ints w b n y) (hxy : ∀ k, k < n → x k = y k) :
    Calls Try.prog 15 #[.slice a n ca, .slice b n cb] w fun e w' => e = .returned (.bool true) ∧ Mod (fun _ => False) w w' := by
  go_enter Try.func15, Try.ntmps15
  go_wp2_with fail
  go_loopw [5] (fun i wr => ∃ k : Nat, k ≤ n ∧ i = .int .i64 k ∧ Mod (fun _ => False) w wr) (fun i _ => n - (intOf i).toNat)
  case atStart => exact ⟨0, by omega, rfl, Mod.refl _ _⟩
  case round =>
    obtain ⟨k, hk, rfl, hm⟩ := hrel
    by_cases hlt : k < n
    · obtain ⟨b1, o1, rfl, c1⟩ := ha k hlt
      obtain ⟨b2, o2, rfl, c2⟩ := hb k hlt
      replace c1 := hm.at c1; replace c2 := hm.at c2
      have hi0 : (0 : Int) ≤ (k : Int) := by omega
      have hi1 : (k : Int) < (n : Int) := by omega
      rw [← hxy k hlt] at c2
      clear ha hb hxy
      generalize x k = v at *
      go_wp2_with fail
      go_quiet (fail)
      go_wp2_with fail
      go_roundw
      case rel => exact ⟨k + 1, by omega, by go_num, hm.tr (Mod.drewN _ _)⟩
      case measure => simp [intOf]; omega
    · obtain rfl : k = n := by omega
      go_wp2_with fail
      go_ret
      exact ⟨rfl, hm⟩
theorem one_ints (w : World) (v : Int) : Ints (w.alloc (.cells #[.int .i64 v] 3)) (some ⟨w.heap.size, 0, none⟩) 1 (fun _ => v) := fun k hk => by
  obtain rfl : k = 0 := by omega
  exact ⟨_, _, rfl, cell_new w #[.int .i64 v] 3 0 _ rfl⟩
def bstr (l : List UInt8) : ByteArray := ⟨l.toArray⟩
set_option maxHeartbeats 2000000 in
theorem words_any (w : World) : Calls Try.prog 12 #[] w fun e w' => e = .returned (.bool true) ∧ Mod (fun _ => False) w w' := by
  go_enter Try.func12, Try.ntmps12
  go_wp2_with fail
  refine (big_ok _ _ (by decide) 1 rfl).mono ?_
  rintro e w1 ⟨a1, k1, rfl, own1, m1⟩
  go_wp2_with fail
  refine (small_ok _ _ (by decide) 1 rfl).mono ?_
  rintro e w2 ⟨a2, k2, rfl, own2, m2⟩
  have I1 := Lib.hid ((own_ints (x := fun j => (wordAt true ⟨#[0, 0, 1, 2]⟩ j : Int)) own1).kept m2)
  have I2 := Lib.hid (own_ints (x := fun j => (wordAt false ⟨#[2, 1, 0, 0]⟩ j : Int)) own2)
  clear own1 own2
  go_wp2_with fail
  have n3 := (Mod.refl (fun _ => False) w2).alloc (.cells #[.int .i64 258] 3)
  refine (same_yes _ _ _ _ _ _ _ _ (by omega) (I1.out.kept n3) (one_ints w2 258) (fun k hk => by obtain rfl : k = 0 := (by omega); rfl)).mono ?_
  rintro e w3 ⟨rfl, m3⟩
  replace m3 := n3.tr m3
  clear n3
  have I3 := Lib.hid (I2.out.kept m3)
  go_wp2_with fail
  have n4 := (Mod.refl (fun _ => False) w3).alloc (.cells #[.int .i64 258] 3)
  refine (same_yes _ _ _ _ _ _ _ _ (by omega) (I3.out.kept n4) (one_ints w3 258) (fun k hk => by obtain rfl : k = 0 := (by omega); rfl)).mono ?_
  rintro e w4 ⟨rfl, m4⟩
  replace m4 := n4.tr m4
  clear n4
  go_wp2_with fail
  refine (rot_any _ _ _).mono ?_
  rintro e w5 ⟨rfl, rfl⟩
  rw [show ((rotN (wordN 1) (turnN 31) : Nat) : Int) = 2147483648 from rfl]
  go_wp2_with fail
  go_ret
  exact ⟨rfl, ((m1.tr m2).tr m3).tr m4⟩
end Go.Proofs.Ytbmeejopfcpoaaa
