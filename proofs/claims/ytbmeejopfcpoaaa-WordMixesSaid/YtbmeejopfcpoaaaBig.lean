/- The laws on words of bytes: the walks. -/
import Derived.Test.YtbmeejopfcpoaaaWq
namespace Go.Proofs.Ytbmeejopfcpoaaa
open Go.RowKit
set_option linter.unusedSimpArgs false
set_option linter.unusedVariables false

theorem rbig_ints (s : ByteArray) (w : World) (hs : s.size ≤ 100000) (m : Nat) (hm : s.size = 4 * m) :
    Calls Try.prog 14 #[.string s] w fun e w' => ∃ a c, e = .returned (.tuple #[.slice a m c, .int .i64 0]) ∧ Ints w' a m (fun j => (wordAt true s j : Int)) ∧ Mod (fun _ => False) w w' := by
  refine (rbig_ok s w hs m hm).mono ?_
  rintro e w' ⟨v, rfl, own, mm⟩
  obtain ⟨a, c, rfl⟩ := own_form own
  exact ⟨a, c, rfl, own_ints own, mm⟩
theorem big_ints (s : ByteArray) (w : World) (hs : s.size ≤ 100000) (m : Nat) (hm : s.size = 4 * m) :
    Calls Try.prog 13 #[.string s] w fun e w' => ∃ a c, e = .returned (.tuple #[.slice a m c, .int .i64 0]) ∧ Ints w' a m (fun j => (wordAt true s j : Int)) ∧ Mod (fun _ => False) w w' := by
  refine (big_ok s w hs m hm).mono ?_
  rintro e w' ⟨a, c, rfl, own, mm⟩
  exact ⟨a, c, rfl, own_ints own, mm⟩
theorem small_ints (s : ByteArray) (w : World) (hs : s.size ≤ 100000) (m : Nat) (hm : s.size = 4 * m) :
    Calls Try.prog 18 #[.string s] w fun e w' => ∃ a c, e = .returned (.tuple #[.slice a m c, .int .i64 0]) ∧ Ints w' a m (fun j => (wordAt false s j : Int)) ∧ Mod (fun _ => False) w w' := by
  refine (small_ok s w hs m hm).mono ?_
  rintro e w' ⟨a, c, rfl, own, mm⟩
  exact ⟨a, c, rfl, own_ints own, mm⟩
theorem rsmall_ints (s : ByteArray) (w : World) (hs : s.size ≤ 100000) (m : Nat) (hm : s.size = 4 * m) :
    Calls Try.prog 19 #[.string s] w fun e w' => ∃ a c, e = .returned (.tuple #[.slice a m c, .int .i64 0]) ∧ Ints w' a m (fun j => (wordAt false s j : Int)) ∧ Mod (fun _ => False) w w' := by
  have hr : (((s.size : Nat) : Int) % 4 != 0) = false := by rw [bne_eq_false_iff_eq]; omega
  have HM := Lib.hid hm
  clear hm
  go_enter Try.func19, Try.ntmps19
  go_wp2_with fail
  refine (turned_any s _ hs m HM.out).mono ?_
  rintro e w1 ⟨rfl, m1⟩
  go_wp2_with fail
  refine (rbig_ints _ _ (by rw [rev4_size]; have := HM.out; omega) m (rev4_size s m)).mono ?_
  rintro e w2 ⟨a, c, rfl, ints, m2⟩
  have HI := Lib.hid ints
  clear ints
  go_wp2_with fail
  go_ret2
  refine ⟨a, c, rfl, fun k hk => ?_, m1.tr m2⟩
  obtain ⟨b, off, e1, e2⟩ := HI.out k hk
  exact ⟨b, off, e1, by rw [e2]; simp only [turned_word s m k hk]⟩
theorem rsmall_bad (s : ByteArray) (w : World) (hs : s.size ≤ 100000) (hm : s.size % 4 ≠ 0) :
    Calls Try.prog 19 #[.string s] w fun e w' => e = .returned (.tuple #[.slice none 0 0, .int .i64 1]) ∧ w = w' := by
  have hr : (((s.size : Nat) : Int) % 4 != 0) = true := by rw [bne_iff_ne]; omega
  go_enter Try.func19, Try.ntmps19
  go_wp2_with fail
  go_ret2
  exact ⟨rfl, rfl⟩
theorem rputsmall_any (a : Option Addr) (n cap : Nat) (z : Nat → Int) (w : World) (hn : n ≤ 10000) (hz : Ints w a n z) :
    Calls Try.prog 21 #[.slice a n cap] w fun e w' => e = .returned (.string ⟨(putS z n).toArray⟩) ∧ Mod (fun _ => False) w w' := by
  have HZ := Lib.hid hz
  clear hz
  go_enter Try.func21, Try.ntmps21
  go_wp2_with fail
  refine (rputbig_any _ _ _ z _ hn HZ.out).mono ?_
  rintro e w1 ⟨rfl, m1⟩
  go_wp2_with fail
  refine (turned_any _ _ (by rw [putL_size]; omega) n (putL_size z n)).mono ?_
  rintro e w2 ⟨rfl, m2⟩
  rw [turned_put]
  go_wp2_with fail
  go_ret
  exact ⟨rfl, m1.tr m2⟩
theorem nil_ints (w : World) (z : Nat → Int) : Ints w none 0 z := fun k hk => by omega

set_option maxRecDepth 100000 in
set_option maxHeartbeats 4000000 in
theorem lawbig_long (s : ByteArray) (a : Option Addr) (n cap : Nat) (w : World) (hl : 1024 < s.size ∨ 1024 < n) :
    Calls Try.prog 4 #[.string s, .slice a n cap] w fun e w' => e = .returned (.bool true) ∧ Mod (fun _ => False) w w' := by
  by_cases h1 : 1024 < s.size
  · have hc : (1024 : Int) < ((s.size : Nat) : Int) := by omega
    go_enter Try.func4, Try.ntmps4
    go_wp2_with fail
    refine (words_any _).mono ?_
    rintro e w2 ⟨rfl, m2⟩
    go_wp2_with fail
    go_ret
    exact ⟨rfl, m2⟩
  · have hc : ¬ (1024 : Int) < ((s.size : Nat) : Int) := by omega
    have hd : (1024 : Int) < ((n : Nat) : Int) := by omega
    go_enter Try.func4, Try.ntmps4
    go_wp2_with fail
    refine (words_any _).mono ?_
    rintro e w2 ⟨rfl, m2⟩
    go_wp2_with fail
    go_ret
    exact ⟨rfl, m2⟩
set_option maxRecDepth 100000 in
set_option maxHeartbeats 4000000 in
theorem lawbig_bad (s : ByteArray) (a : Option Addr) (n cap : Nat) (z : Nat → Int) (w : World) (hs : s.size ≤ 1024) (hn : n ≤ 1024) (hz : Ints w a n z) (hm : s.size % 4 ≠ 0) :
    Calls Try.prog 4 #[.string s, .slice a n cap] w fun e w' => e = .returned (.bool true) ∧ Mod (fun _ => False) w w' := by
  have hc : ¬ (1024 : Int) < ((s.size : Nat) : Int) := by omega
  have hd : ¬ (1024 : Int) < ((n : Nat) : Int) := by omega
  have HZ := Lib.hid hz
  clear hz
  go_enter Try.func4, Try.ntmps4
  go_wp2_with fail
  refine (big_bad s _ (by omega) hm).mono ?_
  rintro e w1 ⟨rfl, rfl⟩
  go_wp2_with fail
  refine (rbig_bad s _ (by omega) hm).mono ?_
  rintro e w1 ⟨rfl, rfl⟩
  go_wp2_with fail
  refine (same_yes none none 0 0 0 z z _ (by omega) (nil_ints _ _) (nil_ints _ _) (fun _ _ => rfl)).mono ?_
  rintro e w1 ⟨rfl, m1⟩
  go_wp2_with fail
  refine (putbig_any _ _ _ z _ (by omega) (HZ.out.kept m1)).mono ?_
  rintro e w2 ⟨rfl, m2⟩
  go_wp2_with fail
  refine (rputbig_any _ _ _ z _ (by omega) (HZ.out.kept (m1.tr m2))).mono ?_
  rintro e w3 ⟨rfl, m3⟩
  go_wp2_with fail
  refine (words_any _).mono ?_
  rintro e w4 ⟨rfl, m4⟩
  go_wp2_with fail
  go_ret
  exact ⟨rfl, ((m1.tr m2).tr m3).tr m4⟩
set_option maxRecDepth 100000 in
set_option maxHeartbeats 4000000 in
theorem lawbig_ok (s : ByteArray) (a : Option Addr) (n cap : Nat) (z : Nat → Int) (w : World) (hs : s.size ≤ 1024) (hn : n ≤ 1024) (hz : Ints w a n z) (m : Nat) (hm : s.size = 4 * m) :
    Calls Try.prog 4 #[.string s, .slice a n cap] w fun e w' => e = .returned (.bool true) ∧ Mod (fun _ => False) w w' := by
  have hc : ¬ (1024 : Int) < ((s.size : Nat) : Int) := by omega
  have hd : ¬ (1024 : Int) < ((n : Nat) : Int) := by omega
  have HZ := Lib.hid hz
  have HM := Lib.hid hm
  have HB := Lib.hid (put_words s m hm)
  clear hz hm
  go_enter Try.func4, Try.ntmps4
  go_wp2_with fail
  refine (big_ints s _ (by omega) m HM.out).mono ?_
  rintro e w1 ⟨a1, k1, rfl, i1, m1⟩
  have I1 := Lib.hid i1
  clear i1
  go_wp2_with fail
  refine (rbig_ints s _ (by omega) m HM.out).mono ?_
  rintro e w2 ⟨a2, k2, rfl, i2, m2⟩
  have I2 := Lib.hid i2
  clear i2
  go_wp2_with fail
  refine (same_yes a1 a2 m _ _ _ _ _ (by have := HM.out; omega) (I1.out.kept m2) I2.out (fun _ _ => rfl)).mono ?_
  rintro e w3 ⟨rfl, m3⟩
  go_wp2_with fail
  refine (putbig_any _ _ _ z _ (by omega) (HZ.out.kept ((m1.tr m2).tr m3))).mono ?_
  rintro e w4 ⟨rfl, m4⟩
  go_wp2_with fail
  refine (rputbig_any _ _ _ z _ (by omega) (HZ.out.kept (((m1.tr m2).tr m3).tr m4))).mono ?_
  rintro e w5 ⟨rfl, m5⟩
  go_wp2_with fail
  refine (putbig_any a1 m _ _ _ (by have := HM.out; omega) (I1.out.kept (((m2.tr m3).tr m4).tr m5))).mono ?_
  rintro e w6 ⟨rfl, m6⟩
  rw [HB.out]
  go_wp2_with fail
  refine (words_any _).mono ?_
  rintro e w7 ⟨rfl, m7⟩
  go_wp2_with fail
  go_ret
  exact ⟨rfl, ((((((m1.tr m2).tr m3).tr m4).tr m5).tr m6).tr m7)⟩
theorem lawbig_any (s : ByteArray) (a : Option Addr) (n cap : Nat) (z : Nat → Int) (w : World) (hz : Ints w a n z) :
    Calls Try.prog 4 #[.string s, .slice a n cap] w fun e w' => e = .returned (.bool true) ∧ Mod (fun _ => False) w w' := by
  by_cases h : 1024 < s.size ∨ 1024 < n
  · exact lawbig_long s a n cap w h
  · by_cases hm : s.size % 4 = 0
    · exact lawbig_ok s a n cap z w (by omega) (by omega) hz (s.size / 4) (by omega)
    · exact lawbig_bad s a n cap z w (by omega) (by omega) hz hm

set_option maxRecDepth 100000 in
set_option maxHeartbeats 4000000 in
theorem lawsmall_long (s : ByteArray) (a : Option Addr) (n cap : Nat) (w : World) (hl : 1024 < s.size ∨ 1024 < n) :
    Calls Try.prog 5 #[.string s, .slice a n cap] w fun e w' => e = .returned (.bool true) ∧ Mod (fun _ => False) w w' := by
  by_cases h1 : 1024 < s.size
  · have hc : (1024 : Int) < ((s.size : Nat) : Int) := by omega
    go_enter Try.func5, Try.ntmps5
    go_wp2_with fail
    refine (words_any _).mono ?_
    rintro e w2 ⟨rfl, m2⟩
    go_wp2_with fail
    go_ret
    exact ⟨rfl, m2⟩
  · have hc : ¬ (1024 : Int) < ((s.size : Nat) : Int) := by omega
    have hd : (1024 : Int) < ((n : Nat) : Int) := by omega
    go_enter Try.func5, Try.ntmps5
    go_wp2_with fail
    refine (words_any _).mono ?_
    rintro e w2 ⟨rfl, m2⟩
    go_wp2_with fail
    go_ret
    exact ⟨rfl, m2⟩
set_option maxRecDepth 100000 in
set_option maxHeartbeats 4000000 in
theorem lawsmall_bad (s : ByteArray) (a : Option Addr) (n cap : Nat) (z : Nat → Int) (w : World) (hs : s.size ≤ 1024) (hn : n ≤ 1024) (hz : Ints w a n z) (hm : s.size % 4 ≠ 0) :
    Calls Try.prog 5 #[.string s, .slice a n cap] w fun e w' => e = .returned (.bool true) ∧ Mod (fun _ => False) w w' := by
  have hc : ¬ (1024 : Int) < ((s.size : Nat) : Int) := by omega
  have hd : ¬ (1024 : Int) < ((n : Nat) : Int) := by omega
  have HZ := Lib.hid hz
  clear hz
  go_enter Try.func5, Try.ntmps5
  go_wp2_with fail
  refine (small_bad s _ (by omega) hm).mono ?_
  rintro e w1 ⟨rfl, rfl⟩
  go_wp2_with fail
  refine (rsmall_bad s _ (by omega) hm).mono ?_
  rintro e w1 ⟨rfl, rfl⟩
  go_wp2_with fail
  refine (same_yes none none 0 0 0 z z _ (by omega) (nil_ints _ _) (nil_ints _ _) (fun _ _ => rfl)).mono ?_
  rintro e w1 ⟨rfl, m1⟩
  go_wp2_with fail
  refine (putsmall_any _ _ _ z _ (by omega) (HZ.out.kept m1)).mono ?_
  rintro e w2 ⟨rfl, m2⟩
  go_wp2_with fail
  refine (rputsmall_any _ _ _ z _ (by omega) (HZ.out.kept (m1.tr m2))).mono ?_
  rintro e w3 ⟨rfl, m3⟩
  go_wp2_with fail
  refine (words_any _).mono ?_
  rintro e w4 ⟨rfl, m4⟩
  go_wp2_with fail
  go_ret
  exact ⟨rfl, ((m1.tr m2).tr m3).tr m4⟩
set_option maxRecDepth 100000 in
set_option maxHeartbeats 4000000 in
theorem lawsmall_ok (s : ByteArray) (a : Option Addr) (n cap : Nat) (z : Nat → Int) (w : World) (hs : s.size ≤ 1024) (hn : n ≤ 1024) (hz : Ints w a n z) (m : Nat) (hm : s.size = 4 * m) :
    Calls Try.prog 5 #[.string s, .slice a n cap] w fun e w' => e = .returned (.bool true) ∧ Mod (fun _ => False) w w' := by
  have hc : ¬ (1024 : Int) < ((s.size : Nat) : Int) := by omega
  have hd : ¬ (1024 : Int) < ((n : Nat) : Int) := by omega
  have HZ := Lib.hid hz
  have HM := Lib.hid hm
  have HB := Lib.hid (puts_words s m hm)
  clear hz hm
  go_enter Try.func5, Try.ntmps5
  go_wp2_with fail
  refine (small_ints s _ (by omega) m HM.out).mono ?_
  rintro e w1 ⟨a1, k1, rfl, i1, m1⟩
  have I1 := Lib.hid i1
  clear i1
  go_wp2_with fail
  refine (rsmall_ints s _ (by omega) m HM.out).mono ?_
  rintro e w2 ⟨a2, k2, rfl, i2, m2⟩
  have I2 := Lib.hid i2
  clear i2
  go_wp2_with fail
  refine (same_yes a1 a2 m _ _ _ _ _ (by have := HM.out; omega) (I1.out.kept m2) I2.out (fun _ _ => rfl)).mono ?_
  rintro e w3 ⟨rfl, m3⟩
  go_wp2_with fail
  refine (putsmall_any _ _ _ z _ (by omega) (HZ.out.kept ((m1.tr m2).tr m3))).mono ?_
  rintro e w4 ⟨rfl, m4⟩
  go_wp2_with fail
  refine (rputsmall_any _ _ _ z _ (by omega) (HZ.out.kept (((m1.tr m2).tr m3).tr m4))).mono ?_
  rintro e w5 ⟨rfl, m5⟩
  go_wp2_with fail
  refine (putsmall_any a1 m _ _ _ (by have := HM.out; omega) (I1.out.kept (((m2.tr m3).tr m4).tr m5))).mono ?_
  rintro e w6 ⟨rfl, m6⟩
  rw [HB.out]
  go_wp2_with fail
  refine (words_any _).mono ?_
  rintro e w7 ⟨rfl, m7⟩
  go_wp2_with fail
  go_ret
  exact ⟨rfl, ((((((m1.tr m2).tr m3).tr m4).tr m5).tr m6).tr m7)⟩
theorem lawsmall_any (s : ByteArray) (a : Option Addr) (n cap : Nat) (z : Nat → Int) (w : World) (hz : Ints w a n z) :
    Calls Try.prog 5 #[.string s, .slice a n cap] w fun e w' => e = .returned (.bool true) ∧ Mod (fun _ => False) w w' := by
  by_cases h : 1024 < s.size ∨ 1024 < n
  · exact lawsmall_long s a n cap w h
  · by_cases hm : s.size % 4 = 0
    · exact lawsmall_ok s a n cap z w (by omega) (by omega) hz (s.size / 4) (by omega)
    · exact lawsmall_bad s a n cap z w (by omega) (by omega) hz hm
end Go.Proofs.Ytbmeejopfcpoaaa
