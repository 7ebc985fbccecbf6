/- The laws on two texts, and on digits: the walks. -/
import Derived.Test.YtbmeejopfcpoaaaD6
namespace Go.Proofs.Ytbmeejopfcpoaaa
open Go.RowKit
set_option linter.unusedSimpArgs false
set_option linter.unusedVariables false

theorem beq_list (a b : ByteArray) : (a.toList == b.toList) = decide (a = b) := by
  rw [Lib.toList_data, Lib.toList_data]
  by_cases h : a = b
  · subst h; simp
  · rw [decide_eq_false h, beq_eq_false_iff_ne]
    intro e
    apply h
    rw [← bytes_back' a, ← bytes_back' b]
    unfold bytes; rw [e]
theorem same_self (a : ByteArray) (w : World) (ha : a.size ≤ 100000) : Calls Try.prog 25 #[.string a, .string a] w fun e w' => e = .returned (.bool true) ∧ Mod (fun _ => False) w w' := by
  refine (same_any a a w ha).mono ?_
  rintro e w' ⟨rfl, m⟩
  exact ⟨by rw [decide_eq_true rfl], m⟩
set_option maxRecDepth 100000 in
set_option maxHeartbeats 4000000 in
theorem xors_long (a b : ByteArray) (w : World) (hl : 4096 < a.size ∨ 4096 < b.size) :
    Calls Try.prog 7 #[.string a, .string b] w fun e w' => e = .returned (.bool true) ∧ Mod (fun _ => False) w w' := by
  by_cases h1 : 4096 < a.size
  · have hc : (4096 : Int) < ((a.size : Nat) : Int) := by omega
    go_enter Try.func7, Try.ntmps7
    go_wp2_with fail
    refine (texts_any _).mono ?_
    rintro e w2 ⟨rfl, m2⟩
    go_wp2_with fail
    go_ret
    exact ⟨rfl, m2⟩
  · have hc : ¬ (4096 : Int) < ((a.size : Nat) : Int) := by omega
    have hd : (4096 : Int) < ((b.size : Nat) : Int) := by omega
    go_enter Try.func7, Try.ntmps7
    go_wp2_with fail
    refine (texts_any _).mono ?_
    rintro e w2 ⟨rfl, m2⟩
    go_wp2_with fail
    go_ret
    exact ⟨rfl, m2⟩
set_option maxRecDepth 100000 in
set_option maxHeartbeats 4000000 in
theorem xors_bad (a b : ByteArray) (w : World) (ha : a.size ≤ 4096) (hb : b.size ≤ 4096) (hab : a.size ≠ b.size) :
    Calls Try.prog 7 #[.string a, .string b] w fun e w' => e = .returned (.bool true) ∧ Mod (fun _ => False) w w' := by
  have hc : ¬ (4096 : Int) < ((a.size : Nat) : Int) := by omega
  have hd : ¬ (4096 : Int) < ((b.size : Nat) : Int) := by omega
  have hne : a ≠ b := fun e => hab (by rw [e])
  have heq : (a.toList == b.toList) = false := by rw [beq_list, decide_eq_false hne]
  have HS : Hid (decide (a = b) = false) := Lib.hid (decide_eq_false hne)
  have HAB := Lib.hid hab
  clear hab hne
  go_enter Try.func7, Try.ntmps7
  go_wp2_with fail
  refine (xor_bad a b _ HAB.out).mono ?_
  rintro e w1 ⟨rfl, rfl⟩
  go_wp2_with fail
  refine (rxor_bad a b _ HAB.out).mono ?_
  rintro e w1 ⟨rfl, rfl⟩
  go_wp2_with fail
  refine (same_any a b _ (by omega)).mono ?_
  rintro e w1 ⟨rfl, m1⟩
  rw [HS.out]
  go_wp2_with fail
  refine (same_self a _ (by omega)).mono ?_
  rintro e w2 ⟨rfl, m2⟩
  replace m2 := m1.tr m2
  go_wp2_with fail
  refine (texts_any _).mono ?_
  rintro e w3 ⟨rfl, m3⟩
  go_wp2_with fail
  go_ret
  exact ⟨rfl, m2.tr m3⟩
set_option maxRecDepth 100000 in
set_option maxHeartbeats 4000000 in
theorem xors_ok (a b : ByteArray) (w : World) (ha : a.size ≤ 4096) (hb : b.size ≤ 4096) (hab : a.size = b.size) (r : Bool) (hr : decide (a = b) = r) :
    Calls Try.prog 7 #[.string a, .string b] w fun e w' => e = .returned (.bool true) ∧ Mod (fun _ => False) w w' := by
  have hc : ¬ (4096 : Int) < ((a.size : Nat) : Int) := by omega
  have hd : ¬ (4096 : Int) < ((b.size : Nat) : Int) := by omega
  have heq : (a.toList == b.toList) = r := by rw [beq_list, hr]
  have HS : Hid (decide (a = b) = r) := Lib.hid hr
  have HAB := Lib.hid hab
  obtain ⟨X, HX⟩ : ∃ X : ByteArray, Hid (⟨(xorL a b a.size).toArray⟩ = X) := ⟨_, rfl⟩
  have HXS : Hid (X.size = a.size) := by show _ = _; rw [← HX.out, mk_size, xorL_length]
  have HB : Hid ((⟨(xorL X b X.size).toArray⟩ : ByteArray) = a) := by show _ = _; rw [HXS.out, ← HX.out]; exact xor_back a b
  clear hab hr
  go_enter Try.func7, Try.ntmps7
  go_wp2_with fail
  refine (xor_ok a b _ (by omega) HAB.out).mono ?_
  rintro e w1 ⟨rfl, m1⟩
  rw [HX.out]
  go_wp2_with fail
  refine (rxor_ok a b _ (by omega) HAB.out).mono ?_
  rintro e w2 ⟨rfl, m2⟩
  rw [HX.out]
  replace m2 := m1.tr m2
  clear m1
  go_wp2_with fail
  refine (same_any a b _ (by omega)).mono ?_
  rintro e w3 ⟨rfl, m3⟩
  rw [HS.out]
  replace m3 := m2.tr m3
  clear m2
  go_wp2_with fail
  refine (same_self a _ (by omega)).mono ?_
  rintro e w4 ⟨rfl, m4⟩
  replace m4 := m3.tr m4
  clear m3
  go_wp2_with fail
  refine (xor_ok X b _ (by have := HXS.out; omega) (HXS.out.trans HAB.out)).mono ?_
  rintro e w5 ⟨rfl, m5⟩
  rw [HB.out]
  replace m5 := m4.tr m5
  clear m4
  go_wp2_with fail
  refine (texts_any _).mono ?_
  rintro e w6 ⟨rfl, m6⟩
  go_wp2_with fail
  go_ret
  exact ⟨rfl, m5.tr m6⟩
theorem xors_any (a b : ByteArray) (w : World) :
    Calls Try.prog 7 #[.string a, .string b] w fun e w' => e = .returned (.bool true) ∧ Mod (fun _ => False) w w' := by
  by_cases h : 4096 < a.size ∨ 4096 < b.size
  · exact xors_long a b w h
  · by_cases hab : a.size = b.size
    · exact xors_ok a b w (by omega) (by omega) hab _ rfl
    · exact xors_bad a b w (by omega) (by omega) hab

set_option maxRecDepth 100000 in
set_option maxHeartbeats 4000000 in
theorem digits_long (s t : ByteArray) (w : World) (hl : 1024 < s.size ∨ 1024 < t.size) :
    Calls Try.prog 8 #[.string s, .string t] w fun e w' => e = .returned (.bool true) ∧ Mod (fun _ => False) w w' := by
  by_cases h1 : 1024 < s.size
  · have hc : (1024 : Int) < ((s.size : Nat) : Int) := by omega
    go_enter Try.func8, Try.ntmps8
    go_wp2_with fail
    refine (texts_any _).mono ?_
    rintro e w2 ⟨rfl, m2⟩
    go_wp2_with fail
    go_ret
    exact ⟨rfl, m2⟩
  · have hc : ¬ (1024 : Int) < ((s.size : Nat) : Int) := by omega
    have hd : (1024 : Int) < ((t.size : Nat) : Int) := by omega
    go_enter Try.func8, Try.ntmps8
    go_wp2_with fail
    refine (texts_any _).mono ?_
    rintro e w2 ⟨rfl, m2⟩
    go_wp2_with fail
    go_ret
    exact ⟨rfl, m2⟩
/-- What Unhex gives: a text and a number. -/
def Un (t : ByteArray) (U : ByteArray) (n : Int) : Prop := (t.size % 2 = 0 ∧ AllDig t t.size ∧ U = ⟨(unL t (t.size / 2)).toArray⟩ ∧ n = 0) ∨ (¬ (t.size % 2 = 0 ∧ AllDig t t.size) ∧ U = ⟨#[]⟩ ∧ n = 1)
theorem un_there (t : ByteArray) : ∃ U n, Un t U n := by
  by_cases h : t.size % 2 = 0 ∧ AllDig t t.size
  · exact ⟨_, _, .inl ⟨h.1, h.2, rfl, rfl⟩⟩
  · exact ⟨_, _, .inr ⟨h, rfl, rfl⟩⟩
theorem unhex_un (t : ByteArray) (w : World) (ht : t.size ≤ 10000) (U : ByteArray) (n : Int) (h : Un t U n) : Calls Try.prog 26 #[.string t] w fun e w' => e = .returned (.tuple #[.string U, .int .i64 n]) ∧ Mod (fun _ => False) w w' := by
  by_cases hm : t.size % 2 = 0
  · refine (unhex_ok t w ht (t.size / 2) (by omega)).mono ?_
    rintro e w' ⟨⟨rfl, hd⟩ | ⟨rfl, hd⟩, m⟩
    · rcases h with ⟨_, _, rfl, rfl⟩ | ⟨h, _⟩
      · exact ⟨rfl, m⟩
      · exact (h ⟨hm, hd⟩).elim
    · rcases h with ⟨_, h, _⟩ | ⟨_, rfl, rfl⟩
      · exact (hd h).elim
      · exact ⟨rfl, m⟩
  · refine (unhex_odd t w hm).mono ?_
    rintro e w' ⟨rfl, rfl⟩
    rcases h with ⟨h, _⟩ | ⟨_, rfl, rfl⟩
    · exact (hm h).elim
    · exact ⟨rfl, Mod.refl _ _⟩
theorem runhex_un (t : ByteArray) (w : World) (ht : t.size ≤ 10000) (U : ByteArray) (n : Int) (h : Un t U n) : Calls Try.prog 27 #[.string t] w fun e w' => e = .returned (.tuple #[.string U, .int .i64 n]) ∧ Mod (fun _ => False) w w' := by
  by_cases hm : t.size % 2 = 0
  · refine (runhex_ok t w ht (t.size / 2) (by omega)).mono ?_
    rintro e w' ⟨⟨rfl, hd⟩ | ⟨rfl, hd⟩, m⟩
    · rcases h with ⟨_, _, rfl, rfl⟩ | ⟨h, _⟩
      · exact ⟨rfl, m⟩
      · exact (h ⟨hm, hd⟩).elim
    · rcases h with ⟨_, h, _⟩ | ⟨_, rfl, rfl⟩
      · exact (hd h).elim
      · exact ⟨rfl, m⟩
  · refine (runhex_odd t w hm).mono ?_
    rintro e w' ⟨rfl, rfl⟩
    rcases h with ⟨h, _⟩ | ⟨_, rfl, rfl⟩
    · exact (hm h).elim
    · exact ⟨rfl, Mod.refl _ _⟩
set_option maxRecDepth 100000 in
set_option maxHeartbeats 4000000 in
theorem digits_short (s t : ByteArray) (w : World) (hs : s.size ≤ 1024) (ht : t.size ≤ 1024) :
    Calls Try.prog 8 #[.string s, .string t] w fun e w' => e = .returned (.bool true) ∧ Mod (fun _ => False) w w' := by
  have hc : ¬ (1024 : Int) < ((s.size : Nat) : Int) := by omega
  have hd : ¬ (1024 : Int) < ((t.size : Nat) : Int) := by omega
  obtain ⟨U, n, hU⟩ := un_there t
  have HU := Lib.hid hU
  obtain ⟨X, HX⟩ : ∃ X : ByteArray, Hid (⟨(hexL s s.size).toArray⟩ = X) := ⟨_, rfl⟩
  have HXS : Hid (X.size = 2 * s.size) := by show _ = _; rw [← HX.out, hex_size]
  have HV : Hid (Un X s 0) := by
    show Un X s 0
    refine .inl ⟨by rw [HXS.out]; omega, by rw [← HX.out]; exact hex_all s, ?_, rfl⟩
    rw [HXS.out, show 2 * s.size / 2 = s.size by omega, ← HX.out, hex_back]
  clear hU
  go_enter Try.func8, Try.ntmps8
  go_wp2_with fail
  refine (unhex_un t _ (by omega) U n HU.out).mono ?_
  rintro e w1 ⟨rfl, m1⟩
  go_wp2_with fail
  refine (runhex_un t _ (by omega) U n HU.out).mono ?_
  rintro e w2 ⟨rfl, m2⟩
  replace m2 := m1.tr m2
  clear m1
  go_wp2_with fail
  refine (hex_any s _ (by omega)).mono ?_
  rintro e w3 ⟨rfl, m3⟩
  rw [HX.out]
  replace m3 := m2.tr m3
  clear m2
  go_wp2_with fail
  refine (unhex_un X _ (by have := HXS.out; omega) s 0 HV.out).mono ?_
  rintro e w4 ⟨rfl, m4⟩
  replace m4 := m3.tr m4
  clear m3
  go_wp2_with fail
  refine (hex_any s _ (by omega)).mono ?_
  rintro e w5 ⟨rfl, m5⟩
  rw [HX.out]
  replace m5 := m4.tr m5
  clear m4
  go_wp2_with fail
  refine (rhex_any s _ (by omega)).mono ?_
  rintro e w6 ⟨rfl, m6⟩
  rw [HX.out]
  replace m6 := m5.tr m6
  clear m5
  go_wp2_with fail
  refine (texts_any _).mono ?_
  rintro e w7 ⟨rfl, m7⟩
  go_wp2_with fail
  go_ret
  exact ⟨rfl, m6.tr m7⟩
theorem digits_any (s t : ByteArray) (w : World) :
    Calls Try.prog 8 #[.string s, .string t] w fun e w' => e = .returned (.bool true) ∧ Mod (fun _ => False) w w' := by
  by_cases h : 1024 < s.size ∨ 1024 < t.size
  · exact digits_long s t w h
  · exact digits_short s t w (by omega) (by omega)
end Go.Proofs.Ytbmeejopfcpoaaa
