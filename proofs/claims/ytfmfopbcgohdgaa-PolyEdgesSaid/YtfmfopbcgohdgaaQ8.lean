/- Whether a tag is a text's; what must come whatever the arguments are: the walks. -/
import Derived.Test.YtfmfopbcgohdgaaQ7
namespace Go.Proofs.Ytfmfopbcgohdgaa
open Go.RowKit
set_option linter.unusedSimpArgs false
set_option linter.unusedVariables false

/-- What Mac gives: a text and a number. -/
def MacV (key s U : ByteArray) (n : Int) : Prop := (key.size = 32 ∧ s.size ≤ 65536 ∧ U = macS key s ∧ n = 0) ∨ ((key.size ≠ 32 ∨ 65536 < s.size) ∧ U = ⟨#[]⟩ ∧ n = 1)
theorem macv_there (key s : ByteArray) : ∃ U n, MacV key s U n := by
  by_cases h : key.size = 32 ∧ s.size ≤ 65536
  · exact ⟨_, _, .inl ⟨h.1, h.2, rfl, rfl⟩⟩
  · exact ⟨_, _, .inr ⟨by omega, rfl, rfl⟩⟩
theorem mac_v {key s U : ByteArray} {n : Int} (h : MacV key s U n) (w : World) : Calls Try.prog 9 #[.string key, .string s] w fun e w' => e = .returned (.tuple #[.string U, .int .i64 n]) ∧ Mod (fun _ => False) w w' := by
  rcases h with ⟨hk, hs, rfl, rfl⟩ | ⟨h, rfl, rfl⟩
  · exact mac_ok key s w hk hs
  · refine (mac_bad key s w h).mono ?_
    rintro e w' ⟨rfl, rfl⟩
    exact ⟨rfl, Mod.refl _ _⟩
theorem rmac_v {key s U : ByteArray} {n : Int} (h : MacV key s U n) (w : World) : Calls Try.prog 10 #[.string key, .string s] w fun e w' => e = .returned (.tuple #[.string U, .int .i64 n]) ∧ Mod (fun _ => False) w w' := by
  rcases h with ⟨hk, hs, rfl, rfl⟩ | ⟨h, rfl, rfl⟩
  · exact rmac_ok key s w hk hs
  · refine (rmac_bad key s w h).mono ?_
    rintro e w' ⟨rfl, rfl⟩
    exact ⟨rfl, Mod.refl _ _⟩
theorem macS_size (key s : ByteArray) : (macS key s).size = 16 := leS_size _ _
theorem beq_list (a b : ByteArray) : (a.toList == b.toList) = decide (a = b) := by
  rw [Lib.toList_data, Lib.toList_data]
  by_cases h : a = b
  · subst h; simp
  · rw [decide_eq_false h, beq_eq_false_iff_ne]
    intro e
    apply h
    rw [← bytes_back' a, ← bytes_back' b]
    unfold bytes; rw [e]
/-- What Check gives. -/
def ChkV (U tag : ByteArray) (n : Int) (r : Bool) : Prop := (n = 0 ∧ U.size ≤ 100000 ∧ decide (U = tag) = r) ∨ (n = 1 ∧ r = false)
theorem chk_there {key s U : ByteArray} {n : Int} (h : MacV key s U n) (tag : ByteArray) : ∃ r, ChkV U tag n r := by
  rcases h with ⟨_, _, rfl, rfl⟩ | ⟨_, rfl, rfl⟩
  · exact ⟨_, .inl ⟨rfl, by rw [macS_size]; omega, rfl⟩⟩
  · exact ⟨_, .inr ⟨rfl, rfl⟩⟩
set_option maxHeartbeats 1000000 in
theorem check_v {key s U tag : ByteArray} {n : Int} {r : Bool} (h : MacV key s U n) (hr : ChkV U tag n r) (w : World) : Calls Try.prog 11 #[.string key, .string s, .string tag] w fun e w' => e = .returned (.bool r) ∧ Mod (fun _ => False) w w' := by
  have HM := Lib.hid h
  clear h
  rcases hr with ⟨rfl, hs, hd⟩ | ⟨rfl, rfl⟩
  · have HD := Lib.hid hd
    clear hd
    go_enter Try.func11, Try.ntmps11
    go_wp2_with fail
    refine (mac_v HM.out _).mono ?_
    rintro e w1 ⟨rfl, m1⟩
    go_wp2_with fail
    refine (same_any U tag _ hs).mono ?_
    rintro e w2 ⟨rfl, m2⟩
    rw [HD.out]
    go_wp2_with fail
    go_ret
    exact ⟨rfl, m1.tr m2⟩
  · go_enter Try.func11, Try.ntmps11
    go_wp2_with fail
    refine (mac_v HM.out _).mono ?_
    rintro e w1 ⟨rfl, m1⟩
    go_wp2_with fail
    go_ret
    exact ⟨rfl, m1⟩
set_option maxHeartbeats 1000000 in
theorem rcheck_v {key s U tag : ByteArray} {n : Int} {r : Bool} (h : MacV key s U n) (hr : ChkV U tag n r) (w : World) : Calls Try.prog 12 #[.string key, .string s, .string tag] w fun e w' => e = .returned (.bool r) ∧ Mod (fun _ => False) w w' := by
  have HM := Lib.hid h
  clear h
  rcases hr with ⟨rfl, hs, hd⟩ | ⟨rfl, rfl⟩
  · have hb : (U.toList == tag.toList) = r := by rw [beq_list, hd]
    clear hd
    go_enter Try.func12, Try.ntmps12
    go_wp2_with fail
    refine (rmac_v HM.out _).mono ?_
    rintro e w1 ⟨rfl, m1⟩
    go_wp2_with fail
    go_ret
    exact ⟨rfl, m1⟩
  · go_enter Try.func12, Try.ntmps12
    go_wp2_with fail
    refine (rmac_v HM.out _).mono ?_
    rintro e w1 ⟨rfl, m1⟩
    go_wp2_with fail
    go_ret
    exact ⟨rfl, m1⟩
def kKey : ByteArray := ⟨#[133, 214, 190, 120, 87, 85, 109, 51, 127, 68, 82, 254, 66, 213, 6, 168, 1, 3, 128, 138, 251, 13, 178, 253, 74, 191, 246, 175, 65, 73, 245, 27]⟩
def kText : ByteArray := ⟨#[67, 114, 121, 112, 116, 111, 103, 114, 97, 112, 104, 105, 99, 32, 70, 111, 114, 117, 109, 32, 82, 101, 115, 101, 97, 114, 99, 104, 32, 71, 114, 111, 117, 112]⟩
def kTag : ByteArray := ⟨#[168, 6, 29, 193, 48, 81, 54, 198, 194, 43, 139, 175, 12, 1, 39, 169]⟩
theorem k_tag : macS kKey kText = kTag := by decide +kernel
theorem k_mac (w : World) : Calls Try.prog 9 #[.string kKey, .string kText] w fun e w' => e = .returned (.tuple #[.string ⟨#[168, 6, 29, 193, 48, 81, 54, 198, 194, 43, 139, 175, 12, 1, 39, 169]⟩, .int .i64 0]) ∧ Mod (fun _ => False) w w' :=
  mac_v (.inl ⟨rfl, (by decide), k_tag.symm, rfl⟩) w
theorem k_check (w : World) : Calls Try.prog 11 #[.string kKey, .string kText, .string ⟨#[168, 6, 29, 193, 48, 81, 54, 198, 194, 43, 139, 175, 12, 1, 39, 169]⟩] w fun e w' => e = .returned (.bool true) ∧ Mod (fun _ => False) w w' :=
  check_v (.inl ⟨rfl, (by decide), k_tag.symm, rfl⟩) (.inl ⟨rfl, (by decide), decide_eq_true rfl⟩) w
set_option maxRecDepth 100000 in
set_option maxHeartbeats 2000000 in
theorem awake_any (w : World) : Calls Try.prog 8 #[] w fun e w' => e = .returned (.bool true) ∧ Mod (fun _ => False) w w' := by
  go_enter Try.func8, Try.ntmps8
  go_wp2_with fail
  refine (k_mac _).mono ?_
  rintro e w1 ⟨rfl, m1⟩
  go_wp2_with fail
  refine (k_check _).mono ?_
  rintro e w2 ⟨rfl, m2⟩
  go_wp2_with fail
  go_ret
  exact ⟨rfl, m1.tr m2⟩
end Go.Proofs.Ytfmfopbcgohdgaa
