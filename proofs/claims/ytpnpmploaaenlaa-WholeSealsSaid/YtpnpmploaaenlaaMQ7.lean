/- The reference's tag: the walk. Whether a tag is a text's; what must come whatever the arguments are: the walks. -/
import Derived.Test.YtpnpmploaaenlaaMQ5
namespace Go.Proofs.Ytpnpmploaaenlaa
open Go.RowKit
set_option linter.unusedSimpArgs false
set_option linter.unusedVariables false

theorem rmac_bad (key s : ByteArray) (w : World) (h : key.size ≠ 32 ∨ 65536 < s.size) :
    Calls Try.prog 29 #[.string key, .string s] w fun e w' => e = .returned (.tuple #[.string ⟨#[]⟩, .int .i64 1]) ∧ w = w' := by
  by_cases h1 : key.size = 32
  · have hne : (((key.size : Nat) : Int) != 32) = false := by rw [bne_eq_false_iff_eq]; omega
    have hl : (65536 : Int) < ((s.size : Nat) : Int) := by omega
    clear h
    go_enter Try.func29, Try.ntmps29
    go_wp2_with fail
    go_ret2
    exact ⟨rfl, rfl⟩
  · have hne : (((key.size : Nat) : Int) != 32) = true := by rw [bne_iff_ne]; omega
    clear h
    go_enter Try.func29, Try.ntmps29
    go_wp2_with fail
    go_ret2
    exact ⟨rfl, rfl⟩
theorem bn_at (s : ByteArray) (k j : Nat) (hj : j < bn s k) : byteAt (s.extract (16 * k) (16 * k + bn s k)) j = bl s k j := by
  unfold bl
  rw [if_pos hj, byteAt_extract _ _ _ _ (by omega)]
theorem blkN_lt (s : ByteArray) (k : Nat) : blkN s k < 256 ^ 17 := by
  have h : bn s k ≤ 16 := Nat.min_le_left _ _
  have := le_lt (bl s k) (bn s k + 1) (fun i _ => by unfold bl; split; exact byteAt_lt _ _; omega)
  exact Nat.lt_of_lt_of_le this (Nat.pow_le_pow_right (by decide) (by omega))
theorem mac_sum (s : ByteArray) (r k : Nat) : macA s r k + blkN s k < 256 ^ 18 := by
  have h1 := macA_lt s r k
  have h2 := blkN_lt s k
  have h3 : P130 + 256 ^ 17 < 256 ^ 18 := by decide +kernel
  exact Nat.lt_trans (Nat.add_lt_add h1 h2) h3
theorem mac_prod (S R : Nat) (hS : S < 256 ^ 18) (hR : R < 256 ^ 16) : S * R < 256 ^ 35 := by
  have : S * R < 256 ^ 18 * 256 ^ 16 := Nat.mul_lt_mul'' hS hR
  exact Nat.lt_trans this (by decide +kernel)
theorem leN_lt (s : ByteArray) (n : Nat) : leN s n < 256 ^ n := by rw [leN_le]; exact le_lt _ _ (fun i _ => byteAt_lt s i)
theorem macA_17 (s : ByteArray) (r k : Nat) : macA s r k < 256 ^ 17 := Nat.lt_trans (macA_lt s r k) (by decide +kernel)
theorem pow_17_18 : (256 : Nat) ^ 17 < 256 ^ 18 := by decide +kernel
set_option maxRecDepth 100000 in
set_option maxHeartbeats 4000000 in
theorem rmac_ok (key s : ByteArray) (w : World) (hk : key.size = 32) (hs : s.size ≤ 65536) :
    Calls Try.prog 29 #[.string key, .string s] w fun e w' => e = .returned (.tuple #[.string (macS key s), .int .i64 0]) ∧ Mod (fun _ => False) w w' := by
  obtain ⟨i0, hi, hz0, hz1, hz2⟩ := info_parts info3
  have hne : (((key.size : Nat) : Int) != 32) = false := by rw [bne_eq_false_iff_eq]; omega
  have hl : ¬ (65536 : Int) < ((s.size : Nat) : Int) := by omega
  have hk16 : (16 : Int) ≤ ((key.size : Nat) : Int) := by omega
  have HKE : Hid ((key.extract 0 16).size = 16) := by show _ = _; simp; omega
  have HKF : Hid ((key.extract 16 key.size).size = 16) := by show _ = _; simp; omega
  have HK := Lib.hid hk
  clear hk
  go_enter Try.func29, Try.ntmps29
  go_wp2_with fail
  refine (rclamp_ok _ _ HKE.out).mono ?_
  rintro e w1 ⟨rfl, m1⟩
  obtain ⟨cl, hcl⟩ : ∃ cl, cl = clS (key.extract 0 16) := ⟨_, rfl⟩
  rw [← hcl]
  have HCL := Lib.hid hcl
  have HCS : Hid (cl.size = 16) := by show _ = _; rw [hcl, clS_size]
  clear hcl
  go_wp2_with fail
  refine (digits_dg cl _ (by have := HCS.out; omega) (by have := HCS.out; omega)).mono ?_
  rintro e w2 ⟨⟨gr, cr, rfl, hdr⟩, m2⟩
  rw [HCS.out] at hdr ⊢
  have HDR := Lib.hid hdr
  have HM2 := Lib.hid (m1.tr m2)
  clear m1 m2 hdr
  obtain ⟨Z, hmk0, hrow⟩ := make_ints 17 (by omega) w2
  have hmk : (Instr.makeSlice 47 (.int .i64 17) (.int .i64 17)).run Try.prog w2 = .ok (.slice (some ⟨w2.heap.size, 0, none⟩) 17 17) (w2.alloc (.cells Z 3)) := hmk0
  clear hmk0
  have HROW := Lib.hid hrow
  clear hrow
  go_wp2_with fail
  clear hmk
  go_loopw [9, 10] (fun a v wr => ∃ k i g : Nat, Hid (k ≤ blocks s) ∧ Hid (i = 16 * k) ∧ v = .int .i64 (i : Int) ∧ a = .slice (some ⟨g, 0, none⟩) 17 17 ∧ Dg wr g 17 (dgt (macA s (leN cl 16) k)) ∧ Dg wr gr 16 (byteAt cl) ∧ Mod (fun _ => False) w wr) (fun _ v _ => 70000 - (intOf v).toNat)
  case atStart =>
    refine ⟨0, 0, w2.heap.size, Nat.zero_le _, rfl, rfl, rfl, HROW.out.dg.eq (fun j _ => ?_), HDR.out.kept ((Mod.refl _ _).alloc _), HM2.out.alloc _⟩
    show 0 = dgt 0 j
    unfold dgt; rw [Nat.zero_div]
  case round =>
    obtain ⟨k, i, g, HKB, HI, rfl, rfl, dga, dgr, hm⟩ := hrel
    have HDA := Lib.hid dga
    have HDR2 := Lib.hid dgr
    have HM := Lib.hid hm
    clear dga dgr hm
    by_cases hlt : i < s.size
    · have hi0 : (0 : Int) ≤ (i : Int) := by omega
      have hi1 : (i : Int) < ((s.size : Nat) : Int) := by omega
      have hi2 : (i : Int) ≤ ((s.size : Nat) : Int) := by omega
      obtain ⟨e, HE⟩ : ∃ e, Hid (e = i + bn s k) := ⟨_, rfl⟩
      have HB16 : Hid (bn s k ≤ 16) := Nat.min_le_left _ _
      have HB0 : Hid (0 < bn s k) := by show 0 < min 16 (s.size - 16 * k); have := HI.out; omega
      have hes : e ≤ s.size := by have := HE.out; have := HI.out; have h3 : bn s k = min 16 (s.size - 16 * k) := rfl; omega
      have hie : i ≤ e := by have := HE.out; omega
      have HUS : Hid ((s.extract i e).size = bn s k) := by show _ = _; simp; have := HE.out; omega
      have HUA : Hid (∀ j, j < bn s k → byteAt (s.extract i e) j = bl s k j) := by
        show ∀ j, _
        intro j hj
        rw [HE.out, HI.out]
        exact bn_at s k j hj
      have HKB2 : Hid (k + 1 ≤ blocks s) := by show k + 1 ≤ (s.size + 15) / 16; have := HI.out; omega
      have hmin : (s.size ≤ i + 16 ∧ e = s.size) ∨ (i + 16 < s.size ∧ e = i + 16) := by
        have := HE.out; have := HI.out; have h3 : bn s k = min 16 (s.size - 16 * k) := rfl; omega
      have HLT := Lib.hid hlt
      go_upto_region 9 with fail
      go_cut [11] (fun n wx => ∃ g c, n = .slice (some ⟨g, 0, none⟩) (bn s k + 1) c ∧ Dg wx g (bn s k + 1) (bl s k) ∧ Mod (fun _ => False) wr wx)
      case first =>
        obtain ⟨u, hu⟩ : ∃ u, u = s.extract i e := ⟨_, rfl⟩
        rw [← hu] at HUS HUA
        rcases hmin with ⟨h1, h2⟩ | ⟨h1, h2⟩
        · skip
          have h1i : ((s.size : Nat) : Int) ≤ (i : Int) + 16 := by omega
          have hee : (i : Int) ≤ ((s.size : Nat) : Int) := by omega
          have hEq := Lib.hid (show s.extract i s.size = u by rw [hu, h2])
          clear hu h2
          go_wp2_with fail
          rw [hEq.out]
          refine (digits_any u _ (by have := HUS.out; have := HB16.out; omega)).mono ?_
          rintro ee w4 ⟨v, rfl, own, m4⟩
          rw [HUS.out] at own
          have hw4 := m4.size
          have HB16' := HB16.out
          go_wp2_with (at_builtin; refine wpList_append_own _ rfl (.tmp 46) (.tmp 47) 47 rfl wr.heap.size 3 i0 (.int .i64 0) 1 8 Try.underlying47 hi hz0 hz1 hz2 rfl (by decide) _ _ _ rfl (own.alloc _) ⟨w4.heap.size, 0, none⟩ 1 1 [.int .i64 1] rfl rfl ?_ ?_ ?_ ?_ ?_ ?_)
          · intro j x hj
            match j, hj with
            | 0, hj => simp at hj; subst hj; simp [Addr.add]
          · intro x hx; simp at hx; subst hx; rfl
          · unfold maxLen; omega
          · omega
          · simp; omega
          intro v' w5 hown hgrow _
          have hm5 := own_grown (m4.alloc _) (own.alloc (.cells #[.int .i64 1] 3)) hgrow
          obtain ⟨a5, c5, rfl⟩ := own_form hown
          obtain ⟨g5, rfl, _, hc5⟩ := own_dg hown (by omega)
          have HD5 : Hid (Dg w5 g5 (bn s k + 1) (bl s k)) := by
            show Dg w5 g5 (bn s k + 1) (bl s k)
            intro j hj
            refine hc5 j _ hj ?_
            by_cases hjn : j < bn s k
            · rw [List.getElem?_append_left (by simpa [dgL] using hjn)]
              unfold dgL
              rw [List.getElem?_map, List.getElem?_range hjn, ← HUA.out j hjn]
              rfl
            · obtain rfl : j = bn s k := by omega
              rw [List.getElem?_append_right (by simp [dgL])]
              simp [dgL, bl]
          clear own hgrow hown hc5
          go_wp2_with fail
          go_meet
          exact ⟨g5, c5, rfl, HD5.out, hm5⟩
        · skip
          have h1i : (i : Int) + 16 < ((s.size : Nat) : Int) := by omega
          have h1j : (i : Int) + 16 ≤ ((s.size : Nat) : Int) := by omega
          have hEq := Lib.hid (show s.extract i (i + 16) = u by rw [hu, h2])
          clear hu h2
          go_wp2_with fail
          rw [hEq.out]
          refine (digits_any u _ (by have := HUS.out; have := HB16.out; omega)).mono ?_
          rintro ee w4 ⟨v, rfl, own, m4⟩
          rw [HUS.out] at own
          have hw4 := m4.size
          have HB16' := HB16.out
          go_wp2_with (at_builtin; refine wpList_append_own _ rfl (.tmp 46) (.tmp 47) 47 rfl wr.heap.size 3 i0 (.int .i64 0) 1 8 Try.underlying47 hi hz0 hz1 hz2 rfl (by decide) _ _ _ rfl (own.alloc _) ⟨w4.heap.size, 0, none⟩ 1 1 [.int .i64 1] rfl rfl ?_ ?_ ?_ ?_ ?_ ?_)
          · intro j x hj
            match j, hj with
            | 0, hj => simp at hj; subst hj; simp [Addr.add]
          · intro x hx; simp at hx; subst hx; rfl
          · unfold maxLen; omega
          · omega
          · simp; omega
          intro v' w5 hown hgrow _
          have hm5 := own_grown (m4.alloc _) (own.alloc (.cells #[.int .i64 1] 3)) hgrow
          obtain ⟨a5, c5, rfl⟩ := own_form hown
          obtain ⟨g5, rfl, _, hc5⟩ := own_dg hown (by omega)
          have HD5 : Hid (Dg w5 g5 (bn s k + 1) (bl s k)) := by
            show Dg w5 g5 (bn s k + 1) (bl s k)
            intro j hj
            refine hc5 j _ hj ?_
            by_cases hjn : j < bn s k
            · rw [List.getElem?_append_left (by simpa [dgL] using hjn)]
              unfold dgL
              rw [List.getElem?_map, List.getElem?_range hjn, ← HUA.out j hjn]
              rfl
            · obtain rfl : j = bn s k := by omega
              rw [List.getElem?_append_right (by simp [dgL])]
              simp [dgL, bl]
          clear own hgrow hown hc5
          go_wp2_with fail
          go_meet
          exact ⟨g5, c5, rfl, HD5.out, hm5⟩
      case rest =>
        obtain ⟨gn, cn, rfl, hdn, mn⟩ := hcut
        have HDN := Lib.hid hdn
        have HMN := Lib.hid mn
        have HDA2 := Lib.hid (HDA.out.kept mn)
        have HDR3 := Lib.hid (HDR2.out.kept mn)
        have HBN16 := HB16.out
        have HSUM := Lib.hid (mac_sum s (leN cl 16) k)
        clear hdn mn
        go_wp2_with fail
        refine (radd_any g 17 17 gn (bn s k + 1) cn 18 (dgt (macA s (leN cl 16) k)) (bl s k) (by omega) (fun j _ => dgt_255 _ j) (fun j _ => by unfold bl; split; have := byteAt_lt s (16 * k + j); omega; omega) (by omega) (by omega) _ HDA2.out HDN.out).mono ?_
        rintro ee w5 ⟨⟨g5, rfl, row5, hge5⟩, m5⟩
        rw [le_zx_dgt _ 17 18 (macA_17 s _ k) (Nat.lt_trans (macA_17 s _ k) pow_17_18), le_zx_ge (bn s k + 1) (bl s k) 18 (by omega), show le (bl s k) (bn s k + 1) = blkN s k from rfl] at row5
        have HD5 := Lib.hid row5.dg
        have HM5 := Lib.hid (HMN.out.tr m5)
        have HDR5 := Lib.hid (HDR3.out.kept m5)
        clear row5 m5 hge5
        go_wp2_with fail
        refine (rtimes_any g5 18 18 gr 16 cr (dgt (macA s (leN cl 16) k + blkN s k)) (byteAt cl) (fun j _ => dgt_255 _ j) (fun j _ => by have := byteAt_lt cl j; omega) (by omega) (by omega) _ HD5.out HDR5.out).mono ?_
        rintro ee w6 ⟨⟨g6, rfl, row6, hge6⟩, m6⟩
        rw [show le (dgt (macA s (leN cl 16) k + blkN s k)) 18 = macA s (leN cl 16) k + blkN s k by rw [le_dgt, Nat.mod_eq_of_lt HSUM.out], ← leN_le] at row6
        have HD6 := Lib.hid row6.dg
        have HM6 := Lib.hid (HM5.out.tr m6)
        have HDR6 := Lib.hid (HDR5.out.kept m6)
        clear row6 m6 hge6
        go_wp2_with fail
        refine (reduced_any g6 35 _ (mac_prod _ _ HSUM.out (leN_lt cl 16)) _ HD6.out).mono ?_
        rintro ee w7 ⟨⟨g7, rfl, row7⟩, m7⟩
        rw [show (macA s (leN cl 16) k + blkN s k) * leN cl 16 % P130 = macA s (leN cl 16) (k + 1) from rfl] at row7
        have HD7 := Lib.hid row7.dg
        have HM7 := Lib.hid (HM.out.tr (HM6.out.tr m7))
        have HDR7 := Lib.hid (HDR6.out.kept m7)
        clear row7 m7
        have hi64 : (i : Int) ≤ 65536 := by omega
        go_wp2_with fail
        go_roundw
        case rel => exact ⟨k + 1, i + 16, g7, HKB2.out, (show i + 16 = 16 * (k + 1) by have := HI.out; omega), by go_num, rfl, HD7.out, HDR7.out, HM7.out⟩
        case measure => simp [intOf]; omega
    · have HKE2 : Hid (k = blocks s) := by show k = (s.size + 15) / 16; have h1 := HKB.out; have h2 : blocks s = (s.size + 15) / 16 := rfl; have := HI.out; omega
      have hge : ¬ (i : Int) < ((s.size : Nat) : Int) := by omega
      obtain ⟨V, HVV⟩ : ∃ V, Hid (V = macA s (leN cl 16) k + leN (key.extract 16 key.size) 16) := ⟨_, rfl⟩
      have HV18 : Hid (V < 256 ^ 18) := by
        show V < 256 ^ 18
        rw [HVV.out]
        have h3 : P130 + 256 ^ 16 < 256 ^ 18 := by decide +kernel
        exact Nat.lt_trans (Nat.add_lt_add (macA_lt _ _ _) (leN_lt _ 16)) h3
      have HTAG : Hid (leS V 16 = macS key s) := by
        show _ = _
        unfold macS
        rw [HVV.out, HK.out, HCL.out, ← HKE2.out]
      go_wp2_with fail
      refine (digits_dg (key.extract 16 key.size) _ (by have := HKF.out; omega) (by have := HKF.out; omega)).mono ?_
      rintro ee w4 ⟨⟨gk, ck, rfl, hdk⟩, m4⟩
      rw [HKF.out] at hdk ⊢
      have HDK := Lib.hid hdk
      have HM4 := Lib.hid (HM.out.tr m4)
      have HDA4 := Lib.hid (HDA.out.kept m4)
      clear hdk m4
      go_wp2_with fail
      refine (radd_any g 17 17 gk 16 ck 18 (dgt (macA s (leN cl 16) k)) (byteAt (key.extract 16 key.size)) (by omega) (fun j _ => dgt_255 _ j) (fun j _ => by have := byteAt_lt (key.extract 16 key.size) j; omega) (by omega) (by omega) _ HDA4.out HDK.out).mono ?_
      rintro ee w5 ⟨⟨g5, rfl, row5, hge5⟩, m5⟩
      rw [le_zx_dgt _ 17 18 (macA_17 s _ k) (Nat.lt_trans (macA_17 s _ k) pow_17_18), le_zx_ge 16 _ 18 (by omega), ← leN_le, ← HVV.out] at row5
      have HD5 := Lib.hid row5.dg
      have HM5 := Lib.hid (HM4.out.tr m5)
      clear row5 m5 hge5
      go_wp2_with fail
      go_loopw [13, 14] (fun v q wq => ∃ n : Nat, n ≤ 16 ∧ q = .int .i64 (n : Int) ∧ Acc w5 wq v ((List.range n).map fun j => UInt8.ofNat (dgt V j))) (fun _ q _ => 16 - (intOf q).toNat)
      case atStart => exact ⟨0, by omega, rfl, Acc.nil w5⟩
      case round =>
        obtain ⟨n, hn, rfl, acc⟩ := hrel
        have dg := HD5.out.kept acc.2
        by_cases hltn : n < 16
        · have hn0 : (0 : Int) ≤ (n : Int) := by omega
          have hn2 : (n : Int) < 18 := by omega
          have hn3 : (n : Int) < 16 := by omega
          have hX := dg n (by omega)
          have HDG := Lib.hid dg
          have hxb := dgt_lt V n
          have HL : Hid ((List.range (n + 1)).map (fun j => UInt8.ofNat (dgt V j)) = (List.range n).map (fun j => UInt8.ofNat (dgt V j)) ++ [UInt8.ofNat (dgt V n)]) := by show _ = _; rw [List.range_succ]; simp
          obtain ⟨B, HB, HB2⟩ : ∃ B : UInt8, Hid (B.toNat = dgt V n) ∧ Hid (UInt8.ofNat (dgt V n) = B) := ⟨UInt8.ofNat (dgt V n), by show _ = _; rw [UInt8.toNat_ofNat']; exact Nat.mod_eq_of_lt hxb, rfl⟩
          rw [HB2.out] at HL
          generalize dgt V n = X at *
          clear dg
          go_wp2_with (at_builtin; refine wpList_push rfl (.tmp 64) (.tmp 70) rfl rfl rfl acc ?hl B _ ?c1 rfl ?_)
          case c1 => first | (rw [HB.out]; done) | (rw [HB.out]; omega)
          case hl => first | (simp; done) | (simp; omega)
          clear acc
          intro v0 w0 acc
          rw [← HL.out] at acc
          go_wp2_with fail
          go_roundw
          case rel => exact ⟨n + 1, by omega, by go_num, acc⟩
          case measure => simp [intOf]; omega
        · obtain rfl : n = 16 := by omega
          have HS := Lib.hid acc.str
          have hcv := HS.out
          go_wp2_with fail
          go_ret2
          exact ⟨by rw [← HTAG.out]; rfl, HM5.out.tr acc.2⟩
end Go.Proofs.Ytpnpmploaaenlaa
namespace Go.Proofs.Ytpnpmploaaenlaa
open Go.RowKit
set_option linter.unusedSimpArgs false
set_option linter.unusedVariables false

/-- What Mac gives: a text and a number. -/
def MacV (key s U : ByteArray) (n : Int) : Prop := (key.size = 32 ∧ s.size ≤ 65536 ∧ U = macS key s ∧ n = 0) ∨ ((key.size ≠ 32 ∨ 65536 < s.size) ∧ U = ⟨#[]⟩ ∧ n = 1)
theorem macv_there (key s : ByteArray) : ∃ U n, MacV key s U n := by
  by_cases h : key.size = 32 ∧ s.size ≤ 65536
  · exact ⟨_, _, .inl ⟨h.1, h.2, rfl, rfl⟩⟩
  · exact ⟨_, _, .inr ⟨by omega, rfl, rfl⟩⟩
theorem mac_v {key s U : ByteArray} {n : Int} (h : MacV key s U n) (w : World) : Calls Try.prog 24 #[.string key, .string s] w fun e w' => e = .returned (.tuple #[.string U, .int .i64 n]) ∧ Mod (fun _ => False) w w' := by
  rcases h with ⟨hk, hs, rfl, rfl⟩ | ⟨h, rfl, rfl⟩
  · exact mac_ok key s w hk hs
  · refine (mac_bad key s w h).mono ?_
    rintro e w' ⟨rfl, rfl⟩
    exact ⟨rfl, Mod.refl _ _⟩
theorem rmac_v {key s U : ByteArray} {n : Int} (h : MacV key s U n) (w : World) : Calls Try.prog 29 #[.string key, .string s] w fun e w' => e = .returned (.tuple #[.string U, .int .i64 n]) ∧ Mod (fun _ => False) w w' := by
  rcases h with ⟨hk, hs, rfl, rfl⟩ | ⟨h, rfl, rfl⟩
  · exact rmac_ok key s w hk hs
  · refine (rmac_bad key s w h).mono ?_
    rintro e w' ⟨rfl, rfl⟩
    exact ⟨rfl, Mod.refl _ _⟩
theorem macS_size (key s : ByteArray) : (macS key s).size = 16 := leS_size _ _
theorem beq_list (a b : ByteArray) : (a.toList == b.toList) = decide (a = b) := by
  rw [Lib.toList_data, Lib.toList_data]
  by_cases h : a = b
  · subst h; simp
  · rw [decide_eq_false h, beq_eq_false_iff_ne]
    intro e
    apply h
    rw [← bytes_back' a, ← bytes_back' b]
    unfold bytes; rw [e]
/-- What Check gives. -/
def ChkV (U tag : ByteArray) (n : Int) (r : Bool) : Prop := (n = 0 ∧ U.size ≤ 100000 ∧ decide (U = tag) = r) ∨ (n = 1 ∧ r = false)
theorem chk_there {key s U : ByteArray} {n : Int} (h : MacV key s U n) (tag : ByteArray) : ∃ r, ChkV U tag n r := by
  rcases h with ⟨_, _, rfl, rfl⟩ | ⟨_, rfl, rfl⟩
  · exact ⟨_, .inl ⟨rfl, by rw [macS_size]; omega, rfl⟩⟩
  · exact ⟨_, .inr ⟨rfl, rfl⟩⟩
def kKey : ByteArray := ⟨#[133, 214, 190, 120, 87, 85, 109, 51, 127, 68, 82, 254, 66, 213, 6, 168, 1, 3, 128, 138, 251, 13, 178, 253, 74, 191, 246, 175, 65, 73, 245, 27]⟩
def kText : ByteArray := ⟨#[67, 114, 121, 112, 116, 111, 103, 114, 97, 112, 104, 105, 99, 32, 70, 111, 114, 117, 109, 32, 82, 101, 115, 101, 97, 114, 99, 104, 32, 71, 114, 111, 117, 112]⟩
def kTag : ByteArray := ⟨#[168, 6, 29, 193, 48, 81, 54, 198, 194, 43, 139, 175, 12, 1, 39, 169]⟩
theorem k_tag : macS kKey kText = kTag := by decide +kernel
theorem k_mac (w : World) : Calls Try.prog 24 #[.string kKey, .string kText] w fun e w' => e = .returned (.tuple #[.string ⟨#[168, 6, 29, 193, 48, 81, 54, 198, 194, 43, 139, 175, 12, 1, 39, 169]⟩, .int .i64 0]) ∧ Mod (fun _ => False) w w' :=
  mac_v (.inl ⟨rfl, (by decide), k_tag.symm, rfl⟩) w
end Go.Proofs.Ytpnpmploaaenlaa
