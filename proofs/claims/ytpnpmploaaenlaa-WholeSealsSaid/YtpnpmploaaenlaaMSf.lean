/- The reference's hmac: the walks. hkdf: the walks. -/
import Derived.Test.YtpnpmploaaenlaaMSe
namespace Go.Proofs.Ytpnpmploaaenlaa
open Go.RowKit
set_option linter.unusedSimpArgs false
set_option linter.unusedVariables false
theorem byteU_get (s : ByteArray) (k : Nat) (h : k < s.size) : s[k].toNat = (byteU s k).toNat := byteAt_get s k h
theorem byteU_out (s : ByteArray) (k : Nat) (h : ¬ k < s.size) : byteU s k = 0 := by
  unfold byteU bytes
  have : s.data.toList.length = s.size := by simp
  rw [List.getD_eq_getElem?_getD, List.getElem?_eq_none (by omega)]
  rfl
set_option maxRecDepth 100000 in
set_option maxHeartbeats 4000000 in
theorem rturned_walk (key K0 : ByteArray) (bb : UInt8) (bi : Int) (hbi : bi = (bb.toNat : Int)) (h1 : key.size ≤ 64 → K0 = key) (h2 : ¬ key.size ≤ 64 → ∀ w, Calls Try.prog 59 #[.string key] w fun e w' => e = .returned (.string K0) ∧ Mod (fun _ => False) w w')
    (hK : K0.size ≤ 64) (w : World) :
    Calls Try.prog 60 #[.string key, .int .u8 bi] w fun e w' => e = .returned (.string ⟨(turnL K0 bb 64).toArray⟩) ∧ Mod (fun _ => False) w w' := by
  subst hbi
  have HK := Lib.hid h2
  have H1 := Lib.hid h1
  clear h1 h2
  go_enter Try.func60, Try.ntmps60
  by_cases hle : key.size ≤ 64
  · obtain rfl := H1.out hle
    have hgt : ¬ (64 : Int) < (K0.size : Int) := by omega
    clear HK H1
    have hm0 := Mod.refl (fun _ => False) w
    go_wp2_with fail
    go_loopw [5, 6] (fun v i wr => ∃ k : Nat, k ≤ 64 ∧ i = .int .i64 (k : Int) ∧ Acc w wr v (turnL K0 bb k)) (fun _ i _ => 64 - (intOf i).toNat)
    case atStart => exact ⟨0, by omega, rfl, (Acc.nil w).mod hm0⟩
    case round =>
      obtain ⟨k, hk, rfl, acc⟩ := hrel
      by_cases hlt : k < 64
      · have hi0 : (0 : Int) ≤ (k : Int) := by omega
        have hlt2 : (k : Int) < 64 := by omega
        have HL := Lib.hid (turnL_succ K0 bb k)
        have hv := xor_u8 (byteU K0 k) bb
        by_cases hin : k < K0.size
        · have hin2 : (k : Int) < (K0.size : Int) := by omega
          have hget := byteU_get K0 k hin
          obtain ⟨x, hx⟩ : ∃ x, byteU K0 k = x := ⟨_, rfl⟩
          rw [hx] at hget hv HL
          clear hx
          go_wp2_with (at_builtin; refine wpList_push rfl (.tmp 24) (.tmp 28) rfl rfl rfl acc (by rw [turnL_len]; omega) (x ^^^ bb) _ rfl rfl ?_; intro v' w' acc2)
          rw [← HL.out] at acc2
          go_wp2_with fail
          go_roundw
          case rel => exact ⟨k + 1, by omega, by go_num, acc2⟩
          case measure => simp [intOf]; omega
        · have hin2 : ¬ (k : Int) < (K0.size : Int) := by omega
          rw [byteU_out K0 k hin] at hv HL
          have hv2 : bits BinOp.xor IntKind.u8 0 (bb.toNat : Int) = (((0 : UInt8) ^^^ bb).toNat : Int) := hv
          clear hv
          go_wp2_with (at_builtin; refine wpList_push rfl (.tmp 24) (.tmp 28) rfl rfl rfl acc (by rw [turnL_len]; omega) ((0 : UInt8) ^^^ bb) _ (by first | rfl | exact hv2 | simp) rfl ?_; intro v' w' acc2)
          rw [← HL.out] at acc2
          go_wp2_with fail
          go_roundw
          case rel => exact ⟨k + 1, by omega, by go_num, acc2⟩
          case measure => simp [intOf]; omega
      · obtain rfl : k = 64 := by omega
        have HS := Lib.hid acc.str
        have hcv := HS.out
        go_wp2_with fail
        go_ret
        exact ⟨rfl, acc.2⟩
  · have hgt : (64 : Int) < (key.size : Int) := by omega
    go_wp2_with (go_at_call 59; refine (HK.out hle _).mono ?_; rintro e w1 ⟨rfl, hm0⟩)
    go_loopw [5, 6] (fun v i wr => ∃ k : Nat, k ≤ 64 ∧ i = .int .i64 (k : Int) ∧ Acc w wr v (turnL K0 bb k)) (fun _ i _ => 64 - (intOf i).toNat)
    case atStart => exact ⟨0, by omega, rfl, (Acc.nil w).mod hm0⟩
    case round =>
      obtain ⟨k, hk, rfl, acc⟩ := hrel
      by_cases hlt : k < 64
      · have hi0 : (0 : Int) ≤ (k : Int) := by omega
        have hlt2 : (k : Int) < 64 := by omega
        have HL := Lib.hid (turnL_succ K0 bb k)
        have hv := xor_u8 (byteU K0 k) bb
        by_cases hin : k < K0.size
        · have hin2 : (k : Int) < (K0.size : Int) := by omega
          have hget := byteU_get K0 k hin
          obtain ⟨x, hx⟩ : ∃ x, byteU K0 k = x := ⟨_, rfl⟩
          rw [hx] at hget hv HL
          clear hx
          go_wp2_with (at_builtin; refine wpList_push rfl (.tmp 24) (.tmp 28) rfl rfl rfl acc (by rw [turnL_len]; omega) (x ^^^ bb) _ rfl rfl ?_; intro v' w' acc2)
          rw [← HL.out] at acc2
          go_wp2_with fail
          go_roundw
          case rel => exact ⟨k + 1, by omega, by go_num, acc2⟩
          case measure => simp [intOf]; omega
        · have hin2 : ¬ (k : Int) < (K0.size : Int) := by omega
          rw [byteU_out K0 k hin] at hv HL
          have hv2 : bits BinOp.xor IntKind.u8 0 (bb.toNat : Int) = (((0 : UInt8) ^^^ bb).toNat : Int) := hv
          clear hv
          go_wp2_with (at_builtin; refine wpList_push rfl (.tmp 24) (.tmp 28) rfl rfl rfl acc (by rw [turnL_len]; omega) ((0 : UInt8) ^^^ bb) _ (by first | rfl | exact hv2 | simp) rfl ?_; intro v' w' acc2)
          rw [← HL.out] at acc2
          go_wp2_with fail
          go_roundw
          case rel => exact ⟨k + 1, by omega, by go_num, acc2⟩
          case measure => simp [intOf]; omega
      · obtain rfl : k = 64 := by omega
        have HS := Lib.hid acc.str
        have hcv := HS.out
        go_wp2_with fail
        go_ret
        exact ⟨rfl, acc.2⟩
theorem rturned_any (key : ByteArray) (hk : key.size ≤ 1000000) (bb : UInt8) (bi : Int) (hbi : bi = (bb.toNat : Int)) (w : World) :
    Calls Try.prog 60 #[.string key, .int .u8 bi] w fun e w' => e = .returned (.string (turnS key bb)) ∧ Mod (fun _ => False) w w' :=
  rturned_walk key (keyB key) bb bi hbi (fun h => by unfold keyB; rw [if_pos h]) (fun h w => by rw [show keyB key = shaS key by unfold keyB; rw [if_neg h]]; exact rsum_any key hk w) (keyB_size key) w
theorem rmac_walk (key s : ByteArray) (TS : Int → ByteArray) (S : ByteArray → ByteArray) (h1 : ∀ bi w, bi = 92 ∨ bi = 54 → Calls Try.prog 60 #[.string key, .int .u8 bi] w fun e w' => e = .returned (.string (TS bi)) ∧ Mod (fun _ => False) w w')
    (h2 : ∀ x w, x.size ≤ 1000000 → Calls Try.prog 59 #[.string x] w fun e w' => e = .returned (.string (S x)) ∧ Mod (fun _ => False) w w')
    (hb1 : ∀ bi, (TS bi).size = 64) (hb2 : ∀ x, (S x).size = 32) (hs : s.size ≤ 900000) (w : World) :
    Calls Try.prog 33 #[.string key, .string s] w fun e w' => e = .returned (.string (S (TS 92 ++ S (TS 54 ++ s)))) ∧ Mod (fun _ => False) w w' := by
  have H1 := Lib.hid h1
  have H2 := Lib.hid h2
  have g1 : ¬ (9223372036854775807 < (TS 54).size + s.size) := by rw [hb1]; omega
  have g2 : ¬ (9223372036854775807 < (TS 92).size + (S (TS 54 ++ s)).size) := by rw [hb1, hb2]; omega
  have HB := Lib.hid (And.intro hb1 hb2)
  clear h1 h2 hb1 hb2
  have hm := Mod.refl (fun _ => False) w
  go_enter Try.func33, Try.ntmps33
  go_wp2_with (first | (go_at_call 60; refine (H1.out _ _ (by omega)).mono ?_; rintro e w1 ⟨rfl, hm1⟩; replace hm := hm.tr hm1) | (go_at_call 59; refine (H2.out _ _ ?_).mono ?_; (· have := HB.out.1 54; have := HB.out.1 92; have := HB.out.2 (TS 54 ++ s); simp only [ByteArray.size_append]; omega); rintro e w3 ⟨rfl, hm3⟩; replace hm := hm.tr hm3))
  go_ret
  exact ⟨rfl, hm⟩
theorem rhmac_any (key s : ByteArray) (hk : key.size ≤ 900000) (hs : s.size ≤ 900000) (w : World) :
    Calls Try.prog 33 #[.string key, .string s] w fun e w' => e = .returned (.string (hmacS key s)) ∧ Mod (fun _ => False) w w' :=
  rmac_walk key s (fun bi => turnS key (UInt8.ofNat bi.toNat)) shaS (fun bi w h => rturned_any key (by omega) _ bi (by rcases h with rfl | rfl <;> rfl) w) (fun x w hx => rsum_any x hx w) (fun _ => turnS_size _ _) shaS_size hs w
end Go.Proofs.Ytpnpmploaaenlaa
namespace Go.Proofs.Ytpnpmploaaenlaa
open Go.RowKit
set_option linter.unusedSimpArgs false
set_option linter.unusedVariables false
theorem writeS_any (W w : World) (b : Nat) (l : List UInt8) (h : Wd.Bld W w b l) (s : ByteArray) (hl : l.length ≤ 1000000) (hs : s.size ≤ 1000000) :
    Calls Try.prog 19 #[.pointer (some ⟨b, 0, none⟩), .string s] w fun e w' => e = .returned (.tuple #[.int .i64 s.size, .nilIface]) ∧ Wd.Bld W w' b (l ++ s.data.toList) := by
  obtain ⟨⟨p, hp, hb⟩, hm⟩ := h
  have hI : Lib.IsBuilder 35 5 W.heap.size b (Lib.byteCells l) w := by
    rcases hp with rfl | rfl
    · exact .inl hb
    · exact .inr hb
  refine (Try.Builder_WriteString W.heap.size b _ s w hI (by rw [Lib.byteCells_length]; omega) hm.size).mono ?_
  rintro e w' ⟨rfl, hB, h2⟩
  refine ⟨rfl, ⟨_, .inr rfl, ?_⟩, h2.os.trans hm.os, h2.tape.trans hm.tape, h2.output.trans hm.output, Nat.le_trans hm.size h2.size, fun k hk hs => (h2.block k hk).trans (hm.block k hk hs)⟩
  rw [Lib.byteCells_append]
  exact hB
structure ExpWord (p : ByteArray) (M : ByteArray → ByteArray) (L : Nat → ByteArray) (O : Nat → List UInt8) : Prop where
  l0 : L 0 = ⟨#[]⟩
  l1 : ∀ k, L (k + 1) = M (L k ++ p ++ ⟨#[UInt8.ofNat (k + 1)]⟩)
  o0 : O 0 = []
  o1 : ∀ k, O (k + 1) = O k ++ (L (k + 1)).data.toList
  ls : ∀ k, (L k).size ≤ 32
  ol : ∀ k, (O k).length = 32 * k
theorem byte_str (w : World) (b : UInt8) (c : Int) (hc : c = (b.toNat : Int)) : (convert 33 9 (.slice (some ⟨w.heap.size, 0, none⟩) 1 1)).run Try.prog (w.alloc (.cells #[.int .u8 c] 5)) = .ok (.string ⟨#[b]⟩) (w.alloc (.cells #[.int .u8 c] 5)) :=
  (own_new w b c hc).str
set_option maxRecDepth 100000 in
set_option maxHeartbeats 4000000 in
theorem expand_walk (key p : ByteArray) (n q : Nat) (M : ByteArray → ByteArray) (L : Nat → ByteArray) (O : Nat → List UInt8) (hE : ExpWord p M L O) (hM : ∀ x w, x.size ≤ 900000 → Calls Try.prog 18 #[.string key, .string x] w fun e w' => e = .returned (.string (M x)) ∧ Mod (fun _ => False) w w')
    (hn : n ≤ 8160) (hq : (n + 31) / 32 = q) (hp : p.size ≤ 100000) (w : World) :
    Calls Try.prog 8 #[.string key, .string p, .int .i64 (n : Int)] w fun e w' => e = .returned (.tuple #[.string ((⟨(O q).toArray⟩ : ByteArray).extract 0 n), .int .i64 0]) ∧ Mod (fun _ => False) w w' := by
  have HE := Lib.hid hE
  have HM := Lib.hid hM
  have FR := Lib.hid (Wd.bld_fresh w)
  have h0 : ¬ (n : Int) < 0 := by omega
  have h1 : ¬ (8160 : Int) < (n : Int) := by omega
  have hq2 : ((n : Int) + 32 - 1) / 32 = (q : Int) := by omega
  have hq3 : ((n : Int) + 32 - 1).tdiv 32 = (q : Int) := by rw [Int.tdiv_eq_ediv_of_nonneg (by omega)]; omega
  have HQ := Lib.hid hq
  clear hE hM hq
  go_enter Try.func8, Try.ntmps8
  go_wp2_with fail
  go_loopw [9, 21] (fun last i wr => ∃ k : Nat, k ≤ q ∧ i = .int .i64 (k : Int) ∧ last = .string (L k) ∧ Wd.Bld w wr w.heap.size (O k)) (fun _ i => fun _ => q - (intOf i).toNat)
  case atStart => exact ⟨0, by omega, rfl, by rw [HE.out.l0], by rw [HE.out.o0]; exact FR.out⟩
  case round =>
    obtain ⟨k, hk, rfl, rfl, bld⟩ := hrel
    by_cases hlt : k < q
    · have hlt2 : (k : Int) < (q : Int) := by omega
      have hk8 : k + 1 < 256 := by have := HQ.out; omega
      have hw : IntKind.i64.wrap ((k : Int) + 1) = (k : Int) + 1 := by rw [IntKind.wrap_i64]; omega
      have hbig : ¬ (9223372036854775807 < (L k).size + p.size) := by have := HE.out.ls k; omega
      have hbig2 : ¬ (9223372036854775807 < (L k).size + p.size + 1) := by have := HE.out.ls k; omega
      have hl1 := HE.out.l1 k
      obtain ⟨bt, hbt⟩ : ∃ b, UInt8.ofNat (k + 1) = b := ⟨_, rfl⟩
      have hst := byte_str wr bt ((k : Int) + 1) (by rw [← hbt, UInt8.toNat_ofNat']; omega)
      rw [hbt] at hl1
      clear hbt
      have HB := Lib.hid (bld.mod ((Mod.refl _ wr).alloc (.cells #[.int .u8 ((k : Int) + 1)] 5)))
      have HL := Lib.hid hl1
      clear hl1
      have hxs : (L k ++ p ++ ⟨#[bt]⟩).size ≤ 900000 := by
        rw [ByteArray.size_append, ByteArray.size_append]
        have := HE.out.ls k
        have e : (⟨#[bt]⟩ : ByteArray).size = 1 := rfl
        omega
      clear bld
      go_wp2_with (first | (go_at_call 18; refine (HM.out _ _ hxs).mono ?_; rintro e w1 ⟨rfl, hm1⟩; rw [← HL.out]) | (go_at_call 19; refine (writeS_any w _ _ _ (HB.out.mod hm1) _ (by rw [HE.out.ol]; have := HQ.out; omega) (by have := HE.out.ls (k + 1); omega)).mono ?_; rintro e w2 ⟨rfl, bld2⟩))
      rw [← HE.out.o1] at bld2
      go_roundw
      case rel => exact ⟨k + 1, by omega, by go_num, rfl, bld2⟩
      case measure => simp [intOf]; omega
    · obtain rfl : k = q := by omega
      have HB := Lib.hid bld
      have hsz : (O k).length = 32 * k := HE.out.ol k
      have hn1 : n ≤ 32 * k := by have := HQ.out; omega
      have hn2 : (n : Int) ≤ ((O k).length : Int) := by rw [hsz]; omega
      have hn3 : n ≤ (O k).length := by omega
      have HSZ := Lib.hid hsz
      clear hsz bld
      go_wp2_with (go_at_call 20; refine (Wd.string_any w _ _ _ HB.out).mono ?_; rintro e w1 ⟨rfl, hm1⟩)
      go_ret2
      exact ⟨rfl, hm1⟩
end Go.Proofs.Ytpnpmploaaenlaa
