/- PolyMacs, PolyClamps: the walks of the laws. -/
import Derived.Test.YtfmfopbcgohdgaaQ8
namespace Go.Proofs.Ytfmfopbcgohdgaa
open Go.RowKit
set_option linter.unusedSimpArgs false
set_option linter.unusedVariables false

set_option maxRecDepth 100000 in
set_option maxHeartbeats 2000000 in
theorem macs_out (key s tag : ByteArray) (w : World) (h : 128 < key.size ∨ (512 < s.size ∧ s.size ≤ 65536) ∨ 128 < tag.size) :
    Calls Try.prog 3 #[.string key, .string s, .string tag] w fun e w' => e = .returned (.bool true) ∧ Mod (fun _ => False) w w' := by
  by_cases h1 : 128 < key.size
  · have hc : (128 : Int) < ((key.size : Nat) : Int) := by omega
    clear h
    go_enter Try.func3, Try.ntmps3
    go_wp2_with fail
    refine (awake_any _).mono ?_
    rintro e w2 ⟨rfl, m2⟩
    go_wp2_with fail
    go_ret
    exact ⟨rfl, m2⟩
  · have hc : ¬ (128 : Int) < ((key.size : Nat) : Int) := by omega
    by_cases h2 : 512 < s.size ∧ s.size ≤ 65536
    · have hd : (512 : Int) < ((s.size : Nat) : Int) := by omega
      have he : ((s.size : Nat) : Int) ≤ 65536 := by omega
      clear h h2
      go_enter Try.func3, Try.ntmps3
      go_wp2_with fail
      refine (awake_any _).mono ?_
      rintro e w2 ⟨rfl, m2⟩
      go_wp2_with fail
      go_ret
      exact ⟨rfl, m2⟩
    · have hf : (128 : Int) < ((tag.size : Nat) : Int) := by omega
      by_cases h3 : 512 < s.size
      · have hd : (512 : Int) < ((s.size : Nat) : Int) := by omega
        have he : ¬ ((s.size : Nat) : Int) ≤ 65536 := by omega
        clear h h2
        go_enter Try.func3, Try.ntmps3
        go_wp2_with fail
        refine (awake_any _).mono ?_
        rintro e w2 ⟨rfl, m2⟩
        go_wp2_with fail
        go_ret
        exact ⟨rfl, m2⟩
      · have hd : ¬ (512 : Int) < ((s.size : Nat) : Int) := by omega
        clear h h2
        go_enter Try.func3, Try.ntmps3
        go_wp2_with fail
        refine (awake_any _).mono ?_
        rintro e w2 ⟨rfl, m2⟩
        go_wp2_with fail
        go_ret
        exact ⟨rfl, m2⟩
set_option maxRecDepth 100000 in
set_option maxHeartbeats 2000000 in
theorem macs_in (key s tag : ByteArray) (w : World) (h1 : key.size ≤ 128) (h2 : s.size ≤ 512 ∨ 65536 < s.size) (h3 : tag.size ≤ 128) :
    Calls Try.prog 3 #[.string key, .string s, .string tag] w fun e w' => e = .returned (.bool true) ∧ Mod (fun _ => False) w w' := by
  obtain ⟨U, n, hU⟩ := macv_there key s
  obtain ⟨r, hr⟩ := chk_there hU tag
  have HU := Lib.hid hU
  have HR := Lib.hid hr
  clear hU hr
  have hc : ¬ (128 : Int) < ((key.size : Nat) : Int) := by omega
  have hf : ¬ (128 : Int) < ((tag.size : Nat) : Int) := by omega
  by_cases h4 : s.size ≤ 512
  · have hd : ¬ (512 : Int) < ((s.size : Nat) : Int) := by omega
    clear h2
    go_enter Try.func3, Try.ntmps3
    go_wp2_with fail
    refine (mac_v HU.out _).mono ?_
    rintro e w1 ⟨rfl, m1⟩
    go_wp2_with fail
    refine (rmac_v HU.out _).mono ?_
    rintro e w2 ⟨rfl, m2⟩
    replace m2 := m1.tr m2
    go_wp2_with fail
    refine (check_v HU.out HR.out _).mono ?_
    rintro e w3 ⟨rfl, m3⟩
    replace m3 := m2.tr m3
    go_wp2_with fail
    refine (rcheck_v HU.out HR.out _).mono ?_
    rintro e w4 ⟨rfl, m4⟩
    replace m4 := m3.tr m4
    go_wp2_with fail
    refine (awake_any _).mono ?_
    rintro e w5 ⟨rfl, m5⟩
    go_wp2_with fail
    go_ret
    exact ⟨rfl, m4.tr m5⟩
  · have hd : (512 : Int) < ((s.size : Nat) : Int) := by omega
    have he : ¬ ((s.size : Nat) : Int) ≤ 65536 := by omega
    clear h2
    go_enter Try.func3, Try.ntmps3
    go_wp2_with fail
    refine (mac_v HU.out _).mono ?_
    rintro e w1 ⟨rfl, m1⟩
    go_wp2_with fail
    refine (rmac_v HU.out _).mono ?_
    rintro e w2 ⟨rfl, m2⟩
    replace m2 := m1.tr m2
    go_wp2_with fail
    refine (check_v HU.out HR.out _).mono ?_
    rintro e w3 ⟨rfl, m3⟩
    replace m3 := m2.tr m3
    go_wp2_with fail
    refine (rcheck_v HU.out HR.out _).mono ?_
    rintro e w4 ⟨rfl, m4⟩
    replace m4 := m3.tr m4
    go_wp2_with fail
    refine (awake_any _).mono ?_
    rintro e w5 ⟨rfl, m5⟩
    go_wp2_with fail
    go_ret
    exact ⟨rfl, m4.tr m5⟩
theorem macs_any (key s tag : ByteArray) (w : World) : Calls Try.prog 3 #[.string key, .string s, .string tag] w fun e w' => e = .returned (.bool true) ∧ Mod (fun _ => False) w w' := by
  by_cases h : 128 < key.size ∨ (512 < s.size ∧ s.size ≤ 65536) ∨ 128 < tag.size
  · exact macs_out key s tag w h
  · exact macs_in key s tag w (by omega) (by omega) (by omega)
theorem and_idem (a b : UInt8) : a &&& b &&& b = a &&& b := by rw [UInt8.and_assoc, UInt8.and_self]
theorem clS_at (s : ByteArray) (k : Nat) (hk : k < 16) : byteU (clS s) k = clB s k := by
  unfold byteU bytes clS
  rw [List.getD_eq_getElem?_getD, List.getElem?_map, List.getElem?_range hk]
  rfl
theorem clS_clS (s : ByteArray) : clS (clS s) = clS s := by
  apply bytes_ext
  · rw [clS_size, clS_size]
  · intro j hj
    rw [clS_size] at hj
    rw [clS_at _ _ hj, clS_at _ _ hj]
    unfold clB
    rw [clS_at _ _ hj]
    unfold clB
    by_cases h3 : j % 4 = 3
    · simp only [if_pos h3, and_idem]
    · simp only [if_neg h3]
      by_cases h4 : j % 4 = 0 ∧ 0 < j
      · simp only [if_pos h4, and_idem]
      · simp only [if_neg h4]
set_option maxRecDepth 100000 in
set_option maxHeartbeats 2000000 in
theorem clamps_any (s : ByteArray) (w : World) : Calls Try.prog 4 #[.string s] w fun e w' => e = .returned (.bool true) ∧ Mod (fun _ => False) w w' := by
  by_cases h1 : 128 < s.size
  · have hc : (128 : Int) < ((s.size : Nat) : Int) := by omega
    go_enter Try.func4, Try.ntmps4
    go_wp2_with fail
    refine (awake_any _).mono ?_
    rintro e w2 ⟨rfl, m2⟩
    go_wp2_with fail
    go_ret
    exact ⟨rfl, m2⟩
  · have hc : ¬ (128 : Int) < ((s.size : Nat) : Int) := by omega
    by_cases h16 : s.size = 16
    · have H16 := Lib.hid h16
      obtain ⟨C, HC⟩ : ∃ C, Hid (clS s = C) := ⟨_, rfl⟩
      have HCC : Hid (clS C = C) := by show _ = _; rw [← HC.out, clS_clS]
      have HCS : Hid (C.size = 16) := by show _ = _; rw [← HC.out, clS_size]
      clear h16
      go_enter Try.func4, Try.ntmps4
      go_wp2_with fail
      refine (clamp_ok s _ H16.out).mono ?_
      rintro e w1 ⟨rfl, m1⟩
      rw [HC.out]
      go_wp2_with fail
      refine (rclamp_ok s _ H16.out).mono ?_
      rintro e w2 ⟨rfl, m2⟩
      rw [HC.out]
      replace m2 := m1.tr m2
      go_wp2_with fail
      refine (clamp_ok C _ HCS.out).mono ?_
      rintro e w3 ⟨rfl, m3⟩
      rw [HCC.out]
      replace m3 := m2.tr m3
      go_wp2_with fail
      refine (awake_any _).mono ?_
      rintro e w4 ⟨rfl, m4⟩
      go_wp2_with fail
      go_ret
      exact ⟨rfl, m3.tr m4⟩
    · have H16 := Lib.hid h16
      clear h16
      go_enter Try.func4, Try.ntmps4
      go_wp2_with fail
      refine (clamp_bad s _ H16.out).mono ?_
      rintro e w1 ⟨rfl, rfl⟩
      go_wp2_with fail
      refine (rclamp_bad s _ H16.out).mono ?_
      rintro e w1 ⟨rfl, rfl⟩
      go_wp2_with fail
      refine (clamp_bad ⟨#[]⟩ _ (by decide)).mono ?_
      rintro e w1 ⟨rfl, rfl⟩
      go_wp2_with fail
      refine (awake_any _).mono ?_
      rintro e w4 ⟨rfl, m4⟩
      go_wp2_with fail
      go_ret
      exact ⟨rfl, m4⟩
end Go.Proofs.Ytfmfopbcgohdgaa
