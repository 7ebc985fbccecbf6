/- hkdf on both sides: the walks joined. hkdf's Derive on both sides. -/
import Derived.Test.YtpnpmploaaenlaaMSf
namespace Go.Proofs.Ytpnpmploaaenlaa
open Go.RowKit
set_option linter.unusedSimpArgs false
set_option linter.unusedVariables false
def lastS (key p : ByteArray) : Nat → ByteArray
  | 0 => ⟨#[]⟩
  | k + 1 => hmacS key (lastS key p k ++ p ++ ⟨#[UInt8.ofNat (k + 1)]⟩)
def outL (key p : ByteArray) : Nat → List UInt8
  | 0 => []
  | k + 1 => outL key p k ++ (lastS key p (k + 1)).data.toList
def expS (key p : ByteArray) (n : Nat) : ByteArray := (⟨(outL key p ((n + 31) / 32)).toArray⟩ : ByteArray).extract 0 n
theorem lastS_size (key p : ByteArray) (k : Nat) : (lastS key p (k + 1)).size = 32 := hmacS_size _ _
theorem exp_word (key p : ByteArray) : ExpWord p (hmacS key) (lastS key p) (outL key p) where
  l0 := rfl
  l1 := fun _ => rfl
  o0 := rfl
  o1 := fun _ => rfl
  ls := fun k => by
    cases k with
    | zero => exact Nat.zero_le _
    | succ k => rw [lastS_size]; exact Nat.le_refl _
  ol := fun k => by
    induction k with
    | zero => rfl
    | succ k ih =>
      show (outL key p k ++ (lastS key p (k + 1)).data.toList).length = _
      rw [List.length_append, ih, Array.length_toList]
      have : (lastS key p (k + 1)).data.size = 32 := lastS_size key p k
      omega
theorem expand_any (key p : ByteArray) (n : Nat) (hn : n ≤ 8160) (hk : key.size ≤ 100000) (hp : p.size ≤ 100000) (w : World) :
    Calls Try.prog 8 #[.string key, .string p, .int .i64 (n : Int)] w fun e w' => e = .returned (.tuple #[.string (expS key p n), .int .i64 0]) ∧ Mod (fun _ => False) w w' :=
  expand_walk key p n _ _ _ _ (exp_word key p) (fun x w hx => hmac_any key x (by omega) hx w) hn rfl hp w
theorem app_L (a : List UInt8) (b : ByteArray) : (⟨a.toArray⟩ : ByteArray) ++ b = ⟨(a ++ b.data.toList).toArray⟩ := by
  apply ByteArray.ext
  simp
set_option maxRecDepth 100000 in
set_option maxHeartbeats 4000000 in
theorem rexpand_walk (key p : ByteArray) (n q : Nat) (M : ByteArray → ByteArray) (L : Nat → ByteArray) (O : Nat → List UInt8) (hE : ExpWord p M L O) (hM : ∀ x w, x.size ≤ 900000 → Calls Try.prog 33 #[.string key, .string x] w fun e w' => e = .returned (.string (M x)) ∧ Mod (fun _ => False) w w')
    (hn : n ≤ 8160) (hq : (n + 31) / 32 = q) (hp : p.size ≤ 100000) (w : World) :
    Calls Try.prog 16 #[.string key, .string p, .int .i64 (n : Int)] w fun e w' => e = .returned (.tuple #[.string ((⟨(O q).toArray⟩ : ByteArray).extract 0 n), .int .i64 0]) ∧ Mod (fun _ => False) w w' := by
  have HE := Lib.hid hE
  have HM := Lib.hid hM
  have h0 : ¬ (n : Int) < 0 := by omega
  have h1 : ¬ (8160 : Int) < (n : Int) := by omega
  have HQ := Lib.hid hq
  clear hE hM hq
  go_enter Try.func16, Try.ntmps16
  go_wp2_with fail
  go_loopw [8, 9, 10] (fun out last i wr => ∃ k d : Nat, k ≤ q ∧ d = k + 1 ∧ i = .int .i64 (d : Int) ∧ last = .string (L k) ∧ (∃ o : ByteArray, out = .string o ∧ o = ⟨(O k).toArray⟩) ∧ Mod (fun _ => False) w wr) (fun _ _ i => fun _ => q + 1 - (intOf i).toNat)
  case atStart => exact ⟨0, 1, by omega, rfl, rfl, by rw [HE.out.l0], ⟨_, rfl, by rw [HE.out.o0]⟩, Mod.refl _ _⟩
  case round =>
    obtain ⟨k, d, hk, hd, rfl, rfl, ⟨o, rfl, ho⟩, hm⟩ := hrel
    have hosz : o.size = 32 * k := by
      rw [ho]
      show (O k).toArray.size = _
      rw [List.size_toArray]; exact HE.out.ol k
    have HD := Lib.hid hd
    by_cases hlt : k < q
    · have hlt2 : (o.size : Int) < (n : Int) := by have := HQ.out; omega
      have hk8 : d < 256 := by have := HQ.out; omega
      have hbig : ¬ (9223372036854775807 < (L k).size + p.size) := by have := HE.out.ls k; omega
      have hbig2 : ¬ (9223372036854775807 < (L k).size + p.size + 1) := by have := HE.out.ls k; omega
      have hbig3 : ¬ (9223372036854775807 < o.size + (L (k + 1)).size) := by have := HE.out.ls (k + 1); have := HQ.out; omega
      have hl1 : L (k + 1) = M (L k ++ p ++ ⟨#[UInt8.ofNat d]⟩) := by rw [hd]; exact HE.out.l1 k
      obtain ⟨bt, hbt⟩ : ∃ b, UInt8.ofNat d = b := ⟨_, rfl⟩
      have hst := byte_str wr bt (d : Int) (by rw [← hbt, UInt8.toNat_ofNat']; omega)
      rw [hbt] at hl1
      clear hbt
      have hxs : (L k ++ p ++ ⟨#[bt]⟩).size ≤ 900000 := by
        rw [ByteArray.size_append, ByteArray.size_append]
        have := HE.out.ls k
        have e : (⟨#[bt]⟩ : ByteArray).size = 1 := rfl
        omega
      have HO := Lib.hid (show o ++ L (k + 1) = ⟨(O (k + 1)).toArray⟩ by rw [ho, app_L, HE.out.o1])
      have HL := Lib.hid hl1
      have hmA := hm.alloc (.cells #[.int .u8 (d : Int)] 5)
      clear hl1 hd ho
      have HS := Lib.hid hosz
      clear hosz
      obtain ⟨L1, hL1⟩ : ∃ x, L (k + 1) = x := ⟨_, rfl⟩
      rw [hL1] at HL HO hbig3
      go_wp2_with (go_at_call 33; refine (HM.out _ _ hxs).mono ?_; rintro e w1 ⟨rfl, hm1⟩; rw [← HL.out])
      go_roundw
      case rel => exact ⟨k + 1, d + 1, by omega, by have := HD.out; omega, by go_num, by rw [hL1], ⟨_, rfl, HO.out⟩, hmA.tr hm1⟩
      case measure => have := HD.out; simp [intOf]; omega
    · obtain rfl : k = q := by omega
      have hlt2 : ¬ (o.size : Int) < (n : Int) := by have := HQ.out; omega
      have hn3 : n ≤ o.size := by omega
      have HS := Lib.hid hosz
      clear hosz hd
      have HO := Lib.hid ho
      clear ho
      go_wp2_with fail
      go_ret2
      exact ⟨by rw [HO.out]; rfl, hm⟩
theorem rexpand_any (key p : ByteArray) (n : Nat) (hn : n ≤ 8160) (hk : key.size ≤ 100000) (hp : p.size ≤ 100000) (w : World) :
    Calls Try.prog 16 #[.string key, .string p, .int .i64 (n : Int)] w fun e w' => e = .returned (.tuple #[.string (expS key p n), .int .i64 0]) ∧ Mod (fun _ => False) w w' :=
  rexpand_walk key p n _ _ _ _ (exp_word key p) (fun x w hx => rhmac_any key x (by omega) hx w) hn rfl hp w
def zero32 : ByteArray := ⟨(List.replicate 32 0).toArray⟩
def saltS (salt : ByteArray) : ByteArray := if salt.size = 0 then zero32 else salt
def extS (salt secret : ByteArray) : ByteArray := hmacS (saltS salt) secret
theorem eq_nil_false (s : ByteArray) (h : ¬ s.size = 0) : s.toList.isEmpty = false := ne_nil s (by omega)
set_option maxRecDepth 100000 in
set_option maxHeartbeats 4000000 in
theorem extract_walk (salt secret : ByteArray) (M : ByteArray → ByteArray) (hM : ∀ x w, x.size ≤ 100000 → Calls Try.prog 18 #[.string x, .string secret] w fun e w' => e = .returned (.string (M x)) ∧ Mod (fun _ => False) w w') (hs : salt.size ≤ 100000) (Z : ByteArray) (hZ : Z.size ≤ 100000)
    (hz : ∀ w, Calls Try.prog 32 #[.string ⟨#[0]⟩, .int .i64 32] w fun e w' => e = .returned (.string Z) ∧ Mod (fun _ => False) w w') (w : World) :
    Calls Try.prog 15 #[.string salt, .string secret] w fun e w' => e = .returned (.string (M (if salt.size = 0 then Z else salt))) ∧ Mod (fun _ => False) w w' := by
  have HM := Lib.hid hM
  have HZ := Lib.hid hz
  clear hM hz
  have hm := Mod.refl (fun _ => False) w
  go_enter Try.func15, Try.ntmps15
  by_cases h : salt.size = 0
  · rw [if_pos h]
    obtain rfl := nil_of_size salt h
    go_wp2_with (first | (go_at_call 32; refine (HZ.out _).mono ?_; rintro e w1 ⟨rfl, hm1⟩; replace hm := hm.tr hm1) | (go_at_call 18; refine (HM.out _ _ hZ).mono ?_; rintro e w2 ⟨rfl, hm2⟩; replace hm := hm.tr hm2))
    go_ret
    exact ⟨rfl, hm⟩
  · rw [if_neg h]
    have hne := eq_nil_false salt h
    have HS := Lib.hid h
    clear h
    go_wp2_with (go_at_call 18; refine (HM.out _ _ hs).mono ?_; rintro e w2 ⟨rfl, hm2⟩; replace hm := hm.tr hm2)
    go_ret
    exact ⟨rfl, hm⟩
theorem extract_any (salt secret : ByteArray) (h1 : salt.size ≤ 100000) (h2 : secret.size ≤ 100000) (w : World) :
    Calls Try.prog 15 #[.string salt, .string secret] w fun e w' => e = .returned (.string (extS salt secret)) ∧ Mod (fun _ => False) w w' :=
  extract_walk salt secret (fun x => hmacS x secret) (fun x w hx => hmac_any x secret (by omega) (by omega) w) h1 zero32 (by decide) (zeros_any 32 (by decide)) w
theorem derive_walk (a b c : ByteArray) (n : Nat) (X Y : ByteArray) (hx : ∀ w, Calls Try.prog 15 #[.string a, .string b] w fun e w' => e = .returned (.string X) ∧ Mod (fun _ => False) w w') (hy : ∀ w, Calls Try.prog 8 #[.string X, .string c, .int .i64 (n : Int)] w fun e w' => e = .returned (.tuple #[.string Y, .int .i64 0]) ∧ Mod (fun _ => False) w w') (w : World) :
    Calls Try.prog 6 #[.string a, .string b, .string c, .int .i64 (n : Int)] w fun e w' => e = .returned (.tuple #[.string Y, .int .i64 0]) ∧ Mod (fun _ => False) w w' := by
  have HX := Lib.hid hx
  have HY := Lib.hid hy
  clear hx hy
  go_enter Try.func6, Try.ntmps6
  go_wp2_with (first | (go_at_call 15; refine (HX.out _).mono ?_; rintro e w1 ⟨rfl, hm1⟩) | (go_at_call 8; refine (HY.out _).mono ?_; rintro e w2 ⟨rfl, hm2⟩))
  go_ret2
  exact ⟨rfl, hm1.tr hm2⟩
theorem rderive_walk (a b c : ByteArray) (n : Nat) (X Y : ByteArray) (hx : ∀ w, Calls Try.prog 17 #[.string a, .string b] w fun e w' => e = .returned (.string X) ∧ Mod (fun _ => False) w w') (hy : ∀ w, Calls Try.prog 16 #[.string X, .string c, .int .i64 (n : Int)] w fun e w' => e = .returned (.tuple #[.string Y, .int .i64 0]) ∧ Mod (fun _ => False) w w') (w : World) :
    Calls Try.prog 7 #[.string a, .string b, .string c, .int .i64 (n : Int)] w fun e w' => e = .returned (.tuple #[.string Y, .int .i64 0]) ∧ Mod (fun _ => False) w w' := by
  have HX := Lib.hid hx
  have HY := Lib.hid hy
  clear hx hy
  go_enter Try.func7, Try.ntmps7
  go_wp2_with (first | (go_at_call 17; refine (HX.out _).mono ?_; rintro e w1 ⟨rfl, hm1⟩) | (go_at_call 16; refine (HY.out _).mono ?_; rintro e w2 ⟨rfl, hm2⟩))
  go_ret2
  exact ⟨rfl, hm1.tr hm2⟩
end Go.Proofs.Ytpnpmploaaenlaa
namespace Go.Proofs.Ytpnpmploaaenlaa
open Go.RowKit
set_option linter.unusedSimpArgs false
set_option linter.unusedVariables false
theorem zeros_str (w : World) : (convert 33 9 (.slice (some ⟨w.heap.size, 0, none⟩) 32 32)).run Try.prog (w.alloc (.cells (Array.replicate 32 (.int .u8 0)) 5)) = .ok (.string zero32) (w.alloc (.cells (Array.replicate 32 (.int .u8 0)) 5)) := by
  have hrow : Ytpnpmploaaenlaa.Row (w.alloc (.cells (Array.replicate 32 (.int .u8 0)) 5)) w.heap.size (List.replicate 32 (0 : UInt8)).length (fun j => (List.replicate 32 (0 : UInt8)).getD j 0) := by
    refine ⟨Array.replicate 32 (.int .u8 0), 5, (0, 0), new_block _ _ _ _ rfl, .inr rfl, by simp, fun j hj => ?_⟩
    have hj' : j < 32 := by simpa using hj
    rw [Array.getElem?_replicate, if_pos hj']
    show _ = some (Value.int .u8 (((List.replicate 32 (0 : UInt8)).getD j 0).toNat : Int))
    rw [List.getD_eq_getElem?_getD, List.getElem?_replicate, if_pos hj']
    rfl
  have := hrow.str 32
  rw [show (List.replicate 32 (0 : UInt8)).length = 32 by simp] at this
  exact this
theorem make32 (w : World) : (Instr.makeSlice 33 (.int .i64 32) (.int .i64 32)).run Try.prog w = .ok (.slice (some ⟨w.heap.size, 0, none⟩) 32 32) (w.alloc (.cells (Array.replicate 32 (.int .u8 0)) 5)) := by
  obtain ⟨i, hi, hz, hs, hb⟩ := info_parts info5
  have h := run_make (P := Try.prog) w 33 5 i (.int .u8 0) Try.underlying33 hi hz .i64 .i64 32 32 (by omega) (by omega) (by rw [hb]; omega) (by omega)
  rw [hs] at h
  rw [h, show madeCells (Value.int IntKind.u8 0).cells (Int.toNat 32 * 1) = Array.replicate 32 (.int .u8 0) from by kernel_rfl]
  rfl
set_option maxRecDepth 100000 in
set_option maxHeartbeats 4000000 in
theorem rextract_walk (salt secret : ByteArray) (M : ByteArray → ByteArray) (hM : ∀ x w, x.size ≤ 100000 → Calls Try.prog 33 #[.string x, .string secret] w fun e w' => e = .returned (.string (M x)) ∧ Mod (fun _ => False) w w') (hs : salt.size ≤ 100000) (Z : ByteArray) (hZ : Z.size ≤ 100000) (hZe : zero32 = Z) (w : World) :
    Calls Try.prog 17 #[.string salt, .string secret] w fun e w' => e = .returned (.string (M (if salt.size = 0 then Z else salt))) ∧ Mod (fun _ => False) w w' := by
  have HM := Lib.hid hM
  have hst := zeros_str w
  rw [hZe] at hst
  have hmk := make32 w
  clear hM hZe
  have hm := Mod.refl (fun _ => False) w
  go_enter Try.func17, Try.ntmps17
  by_cases h : salt.size = 0
  · rw [if_pos h]
    obtain rfl := nil_of_size salt h
    go_wp2_with (go_at_call 33; refine (HM.out _ _ hZ).mono ?_; rintro e w2 ⟨rfl, hm2⟩)
    go_ret
    exact ⟨rfl, (hm.alloc _).tr hm2⟩
  · rw [if_neg h]
    have hne := eq_nil_false salt h
    have HS := Lib.hid h
    clear h
    go_wp2_with (go_at_call 33; refine (HM.out _ _ hs).mono ?_; rintro e w2 ⟨rfl, hm2⟩)
    go_ret
    exact ⟨rfl, hm2⟩
theorem rextract_any (salt secret : ByteArray) (h1 : salt.size ≤ 100000) (h2 : secret.size ≤ 100000) (w : World) :
    Calls Try.prog 17 #[.string salt, .string secret] w fun e w' => e = .returned (.string (extS salt secret)) ∧ Mod (fun _ => False) w w' :=
  rextract_walk salt secret (fun x => hmacS x secret) (fun x w hx => rhmac_any x secret (by omega) (by omega) w) h1 zero32 (by decide) rfl w
def hkdfS (salt secret p : ByteArray) (n : Nat) : ByteArray := expS (extS salt secret) p n
theorem extS_size (a b : ByteArray) : (extS a b).size = 32 := hmacS_size _ _
theorem derive_any (a b c : ByteArray) (n : Nat) (hn : n ≤ 8160) (h1 : a.size ≤ 100000) (h2 : b.size ≤ 100000) (h3 : c.size ≤ 100000) (w : World) :
    Calls Try.prog 6 #[.string a, .string b, .string c, .int .i64 (n : Int)] w fun e w' => e = .returned (.tuple #[.string (hkdfS a b c n), .int .i64 0]) ∧ Mod (fun _ => False) w w' :=
  derive_walk a b c n _ _ (extract_any a b h1 h2) (expand_any _ c n hn (by rw [extS_size]; decide) h3) w
theorem rderive_any (a b c : ByteArray) (n : Nat) (hn : n ≤ 8160) (h1 : a.size ≤ 100000) (h2 : b.size ≤ 100000) (h3 : c.size ≤ 100000) (w : World) :
    Calls Try.prog 7 #[.string a, .string b, .string c, .int .i64 (n : Int)] w fun e w' => e = .returned (.tuple #[.string (hkdfS a b c n), .int .i64 0]) ∧ Mod (fun _ => False) w w' :=
  rderive_walk a b c n _ _ (rextract_any a b h1 h2) (rexpand_any _ c n hn (by rw [extS_size]; decide) h3) w
end Go.Proofs.Ytpnpmploaaenlaa
