/- Texts filled up, who may seal: the walks on both sides. Texts filled up and joined: the program's walk. -/
import Derived.Test.YtpnpmploaaenlaaMSr
namespace Go.Proofs.Ytpnpmploaaenlaa
open Go.RowKit
set_option linter.unusedSimpArgs false
set_option linter.unusedVariables false
def MayV (key nonce : ByteArray) (r : Bool) : Prop := (key.size = 32 ∧ nonce.size = 12 ∧ r = true) ∨ ((key.size ≠ 32 ∨ nonce.size ≠ 12) ∧ r = false)
set_option maxHeartbeats 2000000 in
theorem amay_any (key nonce : ByteArray) (a b : Nat) (r : Bool) (h : MayV key nonce r) (ha : a ≤ 10000) (hb : b ≤ 10000) (w : World) :
    Calls Try.prog 9 #[.string key, .string nonce, .int .i64 (a : Int), .int .i64 (b : Int)] w fun e w' => e = .returned (.bool r) ∧ w' = w := by
  have h0 : (a : Int) ≤ 32768 := by omega
  have h1 : (b : Int) ≤ 32768 - (a : Int) := by omega
  rcases h with ⟨h2, h3, rfl⟩ | ⟨h2, rfl⟩
  · go_enter Try.func9, Try.ntmps9
    go_wp2_with fail
    go_ret
    exact ⟨rfl, rfl⟩
  · by_cases hk : key.size = 32
    · have hn : ¬ nonce.size = 12 := by omega
      have hn2 : ((nonce.size : Int) == 12) = false := by rw [beq_eq_false_iff_ne]; omega
      go_enter Try.func9, Try.ntmps9
      go_wp2_with fail
      go_ret
      exact ⟨rfl, rfl⟩
    · have hk2 : ((key.size : Int) == 32) = false := by rw [beq_eq_false_iff_ne]; omega
      go_enter Try.func9, Try.ntmps9
      go_wp2_with fail
      go_ret
      exact ⟨rfl, rfl⟩
set_option maxHeartbeats 2000000 in
theorem rmay_any (key nonce : ByteArray) (a b : Nat) (r : Bool) (h : MayV key nonce r) (ha : a ≤ 10000) (hb : b ≤ 10000) (w : World) :
    Calls Try.prog 12 #[.string key, .string nonce, .int .i64 (a : Int), .int .i64 (b : Int)] w fun e w' => e = .returned (.bool r) ∧ w' = w := by
  have h0 : (a : Int) ≤ 32768 := by omega
  have h1 : (b : Int) ≤ 32768 - (a : Int) := by omega
  rcases h with ⟨h2, h3, rfl⟩ | ⟨h2, rfl⟩
  · go_enter Try.func12, Try.ntmps12
    go_wp2_with fail
    go_ret
    exact ⟨rfl, rfl⟩
  · by_cases hk : key.size = 32
    · have hn : ¬ nonce.size = 12 := by omega
      have hn2 : ((nonce.size : Int) == 12) = false := by rw [beq_eq_false_iff_ne]; omega
      go_enter Try.func12, Try.ntmps12
      go_wp2_with fail
      go_ret
      exact ⟨rfl, rfl⟩
    · have hk2 : ((key.size : Int) == 32) = false := by rw [beq_eq_false_iff_ne]; omega
      go_enter Try.func12, Try.ntmps12
      go_wp2_with fail
      go_ret
      exact ⟨rfl, rfl⟩
def padN (n : Nat) : Nat := (16 - n % 16) % 16
def zs (c : Nat) : ByteArray := ⟨(List.replicate c 0).toArray⟩
def fillS (s : ByteArray) : ByteArray := s ++ zs (padN s.size)
theorem zs_size (c : Nat) : (zs c).size = c := by show (List.replicate c (0 : UInt8)).toArray.size = c; simp
theorem zs_succ (s : ByteArray) (k : Nat) : s ++ zs k ++ ⟨#[0]⟩ = s ++ zs (k + 1) := by
  apply ByteArray.ext
  simp [zs, Array.append_assoc]
  rw [← Array.toList_inj]
  simp [List.replicate_succ']
theorem zs_zero (s : ByteArray) : s ++ zs 0 = s := by
  apply ByteArray.ext
  simp [zs]
set_option maxRecDepth 100000 in
set_option maxHeartbeats 2000000 in
theorem rfilled_any (s : ByteArray) (hs : s.size ≤ 100000) (w : World) :
    Calls Try.prog 30 #[.string s] w fun e w' => e = .returned (.string (fillS s)) ∧ Mod (fun _ => False) w w' := by
  obtain ⟨c, hc⟩ : ∃ c, padN s.size = c := ⟨_, rfl⟩
  have HF := Lib.hid (show fillS s = s ++ zs c by unfold fillS; rw [hc])
  have HC := Lib.hid (show (16 - s.size % 16) % 16 = c from hc)
  clear hc
  go_enter Try.func30, Try.ntmps30
  go_wp2_with fail
  go_loopw [0] (fun v wr => ∃ k : Nat, ∃ t : ByteArray, k ≤ c ∧ v = .string t ∧ t = s ++ zs k ∧ Mod (fun _ => False) w wr) (fun v _ => s.size + c - strSize v)
  case atStart => exact ⟨0, s, by omega, rfl, (zs_zero s).symm, Mod.refl _ _⟩
  case round =>
    obtain ⟨k, t, hk, rfl, ht, hm⟩ := hrel
    have hts : t.size = s.size + k := by rw [ht, ByteArray.size_append, zs_size]
    have hbig : ¬ (9223372036854775807 < t.size + 1) := by have := HC.out; omega
    obtain ⟨r, hr⟩ : ∃ r : Nat, t.size % 16 = r := ⟨_, rfl⟩
    have hr1 : (t.size : Int) % 16 = (r : Int) := by omega
    have hr2 : (t.size : Int).tmod 16 = (r : Int) := by rw [Int.tmod_eq_emod_of_nonneg (by omega)]; omega
    by_cases hlt : k < c
    · have hr0 : ((r : Int) != 0) = true := by rw [bne_iff_ne]; have := HC.out; omega
      have HT := Lib.hid (show t ++ ⟨#[0]⟩ = s ++ zs (k + 1) by rw [ht, zs_succ])
      have HS := Lib.hid hts
      clear hts ht hr
      go_wp2_with fail
      go_roundw
      case rel => exact ⟨k + 1, _, by omega, rfl, HT.out, hm⟩
      case measure =>
        have h1 := HS.out
        have h2 : (t ++ (⟨#[0]⟩ : ByteArray)).size = t.size + 1 := by rw [ByteArray.size_append]; rfl
        show s.size + c - (t ++ (⟨#[0]⟩ : ByteArray)).size < s.size + c - t.size
        rw [h2]
        omega
    · obtain rfl : k = c := by omega
      have hr0 : ((r : Int) != 0) = false := by rw [bne_eq_false_iff_eq]; have := HC.out; omega
      have HT := Lib.hid ht
      clear hts ht hr
      go_wp2_with fail
      go_ret
      exact ⟨by rw [HF.out, HT.out]; rfl, hm⟩
end Go.Proofs.Ytpnpmploaaenlaa
namespace Go.Proofs.Ytpnpmploaaenlaa
open Go.RowKit
set_option linter.unusedSimpArgs false
set_option linter.unusedVariables false
def flL (S : Nat → ByteArray) : Nat → List UInt8
  | 0 => []
  | k + 1 => (flL S k ++ (S k).data.toList) ++ List.replicate (padN (S k).size) 0
structure FlW (S : Nat → ByteArray) (F : Nat → List UInt8) : Prop where
  f0 : F 0 = []
  f1 : ∀ k, F (k + 1) = (F k ++ (S k).data.toList) ++ List.replicate (padN (S k).size) 0
  sl : ∀ k, (S k).size ≤ 20000
  fl : ∀ k, (F k).length ≤ 20100 * k
set_option maxRecDepth 100000 in
set_option maxHeartbeats 4000000 in
theorem afilled_walk (S : Nat → ByteArray) (F : Nat → List UInt8) (hF : FlW S F) (g cap : Nat) (w : World) (hc : ∀ k, k < 3 → w.cell? ⟨g, k, none⟩ = some (.string (S k))) :
    Calls Try.prog 25 #[.slice (some ⟨g, 0, none⟩) 3 cap] w fun e w' => e = .returned (.string ⟨(F 3).toArray⟩) ∧ Mod (fun _ => False) w w' := by
  have HF := Lib.hid hF
  have HC := Lib.hid hc
  have FR := Lib.hid (Wd.bld_fresh w)
  clear hF hc
  go_enter Try.func25, Try.ntmps25
  go_wp2_with fail
  go_loopw [8] (fun i wr => ∃ k : Nat, k ≤ 3 ∧ i = .int .i64 (k : Int) ∧ Wd.Bld w wr w.heap.size (F k)) (fun i _ => 3 - (intOf i).toNat)
  case atStart => exact ⟨0, by omega, rfl, by rw [HF.out.f0]; exact FR.out⟩
  case round =>
    obtain ⟨k, hk, rfl, bld⟩ := hrel
    by_cases hlt : k < 3
    · have hi0 : (0 : Int) ≤ (k : Int) := by omega
      have hlt2 : (k : Int) < 3 := by omega
      have hx := bld.2.at (HC.out k hlt)
      have hsl := HF.out.sl k
      have hfl := HF.out.fl k
      have hf1 := HF.out.f1 k
      obtain ⟨x, hxx⟩ : ∃ x, S k = x := ⟨_, rfl⟩
      rw [hxx] at hx hsl hf1
      clear hxx
      obtain ⟨c, hc⟩ : ∃ c, padN x.size = c := ⟨_, rfl⟩
      rw [hc] at hf1
      have hc2 : (16 - x.size % 16) % 16 = c := hc
      have e : (16 - (x.size : Int) % 16) % 16 = (c : Int) := by omega
      have e2 : -((x.size : Int) % 16) % 16 = (c : Int) := by omega
      have hc16 : c < 16 := by omega
      have hl2 : (F k ++ x.data.toList).length ≤ 1000000 := by
        have e1 : x.data.toList.length = x.size := Array.length_toList
        rw [List.length_append, e1]
        omega
      have hz1 : (⟨Array.replicate c 0⟩ : ByteArray).size ≤ 1000000 := by show (Array.replicate c (0 : UInt8)).size ≤ 1000000; rw [Array.size_replicate]; omega
      have e3 : (⟨Array.replicate c 0⟩ : ByteArray).data.toList = List.replicate c 0 := by simp
      have HL2 := Lib.hid (And.intro hl2 (And.intro hz1 e3))
      clear hl2 hz1 e3
      have HF1 := Lib.hid hf1
      have HCC := Lib.hid hc2
      have HB := Lib.hid bld
      clear hc hf1 hc2 bld
      go_wp2_with (first | (go_at_call 19; refine (writeS_any w _ _ _ HB.out _ (by omega) (by omega)).mono ?_; rintro er w1 ⟨rfl, bld1⟩; have HB1 := Lib.hid bld1; clear HB bld1) | (go_at_call 32; refine (zeros_any c (by omega) _).mono ?_; rintro er w2 ⟨rfl, hm2⟩) | (go_at_call 19; refine (writeS_any w _ _ _ (HB1.out.mod hm2) _ HL2.out.1 HL2.out.2.1).mono ?_; rintro er w3 ⟨rfl, bld3⟩))
      have hF3 : Wd.Bld w w3 w.heap.size (F (k + 1)) := by
        rw [HF1.out, ← HL2.out.2.2]
        exact bld3
      go_roundw
      case rel => exact ⟨k + 1, by omega, by go_num, hF3⟩
      case measure => simp [intOf]; omega
    · obtain rfl : k = 3 := by omega
      have HB := Lib.hid bld
      clear bld
      go_wp2_with (go_at_call 20; refine (Wd.string_any w _ _ _ HB.out).mono ?_; rintro er w1 ⟨rfl, hm1⟩)
      go_ret
      exact ⟨rfl, hm1⟩
end Go.Proofs.Ytpnpmploaaenlaa
