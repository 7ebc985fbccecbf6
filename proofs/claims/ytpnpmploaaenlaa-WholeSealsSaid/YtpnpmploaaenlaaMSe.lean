/- Keys turned for hmac: the walks; hmac. -/
import Derived.Test.YtpnpmploaaenlaaMS7
import Derived.Test.YtpnpmploaaenlaaMSd
import Derived.Test.YtpnpmploaaenlaaMX1
namespace Go.Proofs.Ytpnpmploaaenlaa
open Go.RowKit
set_option linter.unusedSimpArgs false
set_option linter.unusedVariables false
def keyB (key : ByteArray) : ByteArray := if key.size ≤ 64 then key else shaS key
theorem keyB_size (key : ByteArray) : (keyB key).size ≤ 64 := by
  unfold keyB
  by_cases h : key.size ≤ 64
  · rw [if_pos h]; exact h
  · rw [if_neg h, shaS_size]; decide
def xk (key : ByteArray) (bb : UInt8) (k : Nat) (j : Nat) : UInt8 := if j < k then byteU key j ^^^ bb else byteU key j
def turnL (key : ByteArray) (bb : UInt8) (k : Nat) : List UInt8 := (List.range k).map fun j => byteU key j ^^^ bb
def turnS (key : ByteArray) (bb : UInt8) : ByteArray := ⟨(turnL (keyB key) bb 64).toArray⟩
theorem turnL_len (key : ByteArray) (bb : UInt8) (k : Nat) : (turnL key bb k).length = k := by simp [turnL]
theorem turnS_size (key : ByteArray) (bb : UInt8) : (turnS key bb).size = 64 := by
  show (turnL _ _ _).toArray.size = 64
  rw [List.size_toArray, turnL_len]
theorem turnL_get (key : ByteArray) (bb : UInt8) (k j : Nat) (hj : j < k) : (turnL key bb k).getD j 0 = byteU key j ^^^ bb := by
  unfold turnL
  rw [List.getD_eq_getElem?_getD, List.getElem?_map, List.getElem?_range hj]
  rfl
theorem turnL_succ (key : ByteArray) (bb : UInt8) (k : Nat) : turnL key bb (k + 1) = turnL key bb k ++ [byteU key k ^^^ bb] := by
  unfold turnL; rw [List.range_succ]; simp
theorem byteU_pad (a : ByteArray) (c j : Nat) : byteU (a ++ ⟨Array.replicate c 0⟩) j = byteU a j := by
  unfold byteU bytes
  have e : (a ++ (⟨Array.replicate c 0⟩ : ByteArray)).data.toList = a.data.toList ++ List.replicate c 0 := by simp
  rw [e, List.getD_eq_getElem?_getD, List.getD_eq_getElem?_getD, List.getElem?_append]
  by_cases h : j < a.data.toList.length
  · rw [if_pos h]
  · rw [if_neg h, List.getElem?_replicate, List.getElem?_eq_none (l := a.data.toList) (by omega)]
    split <;> rfl
theorem xor_u8 (x y : UInt8) : bits BinOp.xor IntKind.u8 (x.toNat : Int) (y.toNat : Int) = ((x ^^^ y).toNat : Int) := by
  rw [u8_xor_nat _ _ x.toNat_lt y.toNat_lt, UInt8.toNat_xor]
theorem xk_upd (key : ByteArray) (bb : UInt8) (k : Nat) (j : Nat) : (if j = k then byteU key k ^^^ bb else xk key bb k j) = xk key bb (k + 1) j := by
  unfold xk
  by_cases e : j = k
  · subst e; rw [if_pos rfl, if_pos (by omega)]
  · rw [if_neg e]
    by_cases e2 : j < k
    · rw [if_pos e2, if_pos (by omega)]
    · rw [if_neg e2, if_neg (by omega)]
set_option maxRecDepth 100000 in
set_option maxHeartbeats 4000000 in
theorem turned_walk (key K0 : ByteArray) (bb : UInt8) (bi : Int) (hbi : bi = (bb.toNat : Int)) (h1 : key.size ≤ 64 → K0 = key) (h2 : ¬ key.size ≤ 64 → ∀ w, Calls Try.prog 34 #[.string key] w fun e w' => e = .returned (.string K0) ∧ Mod (fun _ => False) w w')
    (hK : K0.size ≤ 64) (w : World) :
    Calls Try.prog 35 #[.string key, .int .u8 bi] w fun e w' => e = .returned (.string ⟨(turnL K0 bb 64).toArray⟩) ∧ Mod (fun _ => False) w w' := by
  subst hbi
  obtain ⟨c, hc⟩ : ∃ c, K0.size + c = 64 := ⟨64 - K0.size, by omega⟩
  have hc1 : (64 : Int) - (K0.size : Int) = (c : Int) := by omega
  have hbig : ¬ (9223372036854775807 < K0.size + c) := by omega
  have HC := Lib.hid hc
  have HK := Lib.hid h2
  have H1 := Lib.hid h1
  clear hc h1 h2
  go_enter Try.func35, Try.ntmps35
  have hsz : (K0 ++ (⟨Array.replicate c 0⟩ : ByteArray)).size = 64 := by
    rw [ByteArray.size_append]
    have : (⟨Array.replicate c 0⟩ : ByteArray).size = c := by show (Array.replicate c (0 : UInt8)).size = c; simp
    have := HC.out
    omega
  by_cases hle : key.size ≤ 64
  · obtain rfl := H1.out hle
    have hgt : ¬ (64 : Int) < (K0.size : Int) := by omega
    clear HK H1
    go_wp2_with (go_at_call 32; refine (zeros_any c (by have := HC.out; omega) _).mono ?_; rintro e w2 ⟨rfl, hm2⟩; obtain ⟨C, W3, hcv, m3, hsz3, row3⟩ := conv_row (K0 ++ ⟨Array.replicate c 0⟩) w2; rw [hsz] at hcv row3)
    have HROW := Lib.hid (row3.eq (fun j _ => byteU_pad K0 c j))
    have HM := Lib.hid (hm2.tr m3)
    clear row3 hcv 
    have hg : w.heap.size ≤ w2.heap.size := by have := (hm2).size; omega
    obtain ⟨g, hgg⟩ : ∃ g, w2.heap.size = g := ⟨_, rfl⟩
    rw [hgg] at HROW hg hsz3 ⊢
    clear hgg
    go_loopw [19] (fun i wr => ∃ k : Nat, k ≤ 64 ∧ i = .int .i64 (k : Int) ∧ Ytpnpmploaaenlaa.Row wr g 64 (xk K0 bb k) ∧ Mod (fun _ => False) w wr) (fun i _ => 64 - (intOf i).toNat)
    case atStart => exact ⟨0, by omega, rfl, HROW.out.eq (fun j _ => by unfold xk; rw [if_neg (by omega)]), HM.out⟩
    case round =>
      obtain ⟨k, hk, rfl, row, hm⟩ := hrel
      by_cases hlt : k < 64
      · have hi0 : (0 : Int) ≤ (k : Int) := by omega
        have hlt2 : (k : Int) < 64 := by omega
        have hc0 := row.cell k hlt
        rw [show xk K0 bb k k = byteU K0 k by unfold xk; rw [if_neg (by omega)]] at hc0
        have hf0 := row.free k hlt
        obtain ⟨x, hx⟩ : ∃ x, byteU K0 k = x := ⟨_, rfl⟩
        rw [hx] at hc0
        have hv := xor_u8 x bb
        have HR := Lib.hid (row.set k hlt (x ^^^ bb) (xk K0 bb (k + 1)) (by rw [← xk_upd, if_pos rfl, hx]) (fun j _ hne => by rw [← xk_upd, if_neg hne]))
        have HM2 := Lib.hid hm
        clear row hm hx
        go_wp2_with fail
        go_roundw
        case rel => exact ⟨k + 1, by omega, by go_num, HR.out, HM2.out.setCell (fun hh => absurd hh (by simp; omega)) _⟩
        case measure => simp [intOf]; omega
      · obtain rfl : k = 64 := by omega
        have hst : (convert 33 9 (.slice (some ⟨g, 0, none⟩) 64 C)).run Try.prog wr = .ok (.string ⟨(turnL K0 bb 64).toArray⟩) wr := by
          have hrow : Ytpnpmploaaenlaa.Row wr g (turnL K0 bb 64).length (fun j => (turnL K0 bb 64).getD j 0) := by
            rw [turnL_len]
            exact row.eq (fun j hj => by rw [turnL_get K0 bb 64 j hj]; unfold xk; rw [if_pos hj])
          have := hrow.str C
          rw [turnL_len] at this
          exact this
        have HM2 := Lib.hid hm
        clear row hm
        go_wp2_with fail
        go_ret
        exact ⟨rfl, HM2.out⟩
  · have hgt : (64 : Int) < (key.size : Int) := by omega
    go_wp2_with (first | (go_at_call 34; refine (HK.out hle _).mono ?_; rintro e w1 ⟨rfl, hm1⟩) | (go_at_call 32; refine (zeros_any c (by have := HC.out; omega) _).mono ?_; rintro e w2 ⟨rfl, hm2⟩; obtain ⟨C, W3, hcv, m3, hsz3, row3⟩ := conv_row (K0 ++ ⟨Array.replicate c 0⟩) w2; rw [hsz] at hcv row3))
    have HROW := Lib.hid (row3.eq (fun j _ => byteU_pad K0 c j))
    have HM := Lib.hid ((hm1.tr hm2).tr m3)
    clear row3 hcv 
    have hg : w.heap.size ≤ w2.heap.size := by have := (hm1.tr hm2).size; omega
    obtain ⟨g, hgg⟩ : ∃ g, w2.heap.size = g := ⟨_, rfl⟩
    rw [hgg] at HROW hg hsz3 ⊢
    clear hgg
    go_loopw [19] (fun i wr => ∃ k : Nat, k ≤ 64 ∧ i = .int .i64 (k : Int) ∧ Ytpnpmploaaenlaa.Row wr g 64 (xk K0 bb k) ∧ Mod (fun _ => False) w wr) (fun i _ => 64 - (intOf i).toNat)
    case atStart => exact ⟨0, by omega, rfl, HROW.out.eq (fun j _ => by unfold xk; rw [if_neg (by omega)]), HM.out⟩
    case round =>
      obtain ⟨k, hk, rfl, row, hm⟩ := hrel
      by_cases hlt : k < 64
      · have hi0 : (0 : Int) ≤ (k : Int) := by omega
        have hlt2 : (k : Int) < 64 := by omega
        have hc0 := row.cell k hlt
        rw [show xk K0 bb k k = byteU K0 k by unfold xk; rw [if_neg (by omega)]] at hc0
        have hf0 := row.free k hlt
        obtain ⟨x, hx⟩ : ∃ x, byteU K0 k = x := ⟨_, rfl⟩
        rw [hx] at hc0
        have hv := xor_u8 x bb
        have HR := Lib.hid (row.set k hlt (x ^^^ bb) (xk K0 bb (k + 1)) (by rw [← xk_upd, if_pos rfl, hx]) (fun j _ hne => by rw [← xk_upd, if_neg hne]))
        have HM2 := Lib.hid hm
        clear row hm hx
        go_wp2_with fail
        go_roundw
        case rel => exact ⟨k + 1, by omega, by go_num, HR.out, HM2.out.setCell (fun hh => absurd hh (by simp; omega)) _⟩
        case measure => simp [intOf]; omega
      · obtain rfl : k = 64 := by omega
        have hst : (convert 33 9 (.slice (some ⟨g, 0, none⟩) 64 C)).run Try.prog wr = .ok (.string ⟨(turnL K0 bb 64).toArray⟩) wr := by
          have hrow : Ytpnpmploaaenlaa.Row wr g (turnL K0 bb 64).length (fun j => (turnL K0 bb 64).getD j 0) := by
            rw [turnL_len]
            exact row.eq (fun j hj => by rw [turnL_get K0 bb 64 j hj]; unfold xk; rw [if_pos hj])
          have := hrow.str C
          rw [turnL_len] at this
          exact this
        have HM2 := Lib.hid hm
        clear row hm
        go_wp2_with fail
        go_ret
        exact ⟨rfl, HM2.out⟩
theorem turned_any (key : ByteArray) (hk : key.size ≤ 1000000) (bb : UInt8) (bi : Int) (hbi : bi = (bb.toNat : Int)) (w : World) :
    Calls Try.prog 35 #[.string key, .int .u8 bi] w fun e w' => e = .returned (.string (turnS key bb)) ∧ Mod (fun _ => False) w w' :=
  turned_walk key (keyB key) bb bi hbi (fun h => by unfold keyB; rw [if_pos h]) (fun h w => by rw [show keyB key = shaS key by unfold keyB; rw [if_neg h]]; exact sum_any key hk w) (keyB_size key) w
def hmacS (key s : ByteArray) : ByteArray := shaS (turnS key 92 ++ shaS (turnS key 54 ++ s))
theorem hmacS_size (key s : ByteArray) : (hmacS key s).size = 32 := shaS_size _
theorem mac_walk (key s : ByteArray) (TS : Int → ByteArray) (S : ByteArray → ByteArray) (h1 : ∀ bi w, bi = 92 ∨ bi = 54 → Calls Try.prog 35 #[.string key, .int .u8 bi] w fun e w' => e = .returned (.string (TS bi)) ∧ Mod (fun _ => False) w w')
    (h2 : ∀ x w, x.size ≤ 1000000 → Calls Try.prog 34 #[.string x] w fun e w' => e = .returned (.string (S x)) ∧ Mod (fun _ => False) w w')
    (hb1 : ∀ bi, (TS bi).size = 64) (hb2 : ∀ x, (S x).size = 32) (hs : s.size ≤ 900000) (w : World) :
    Calls Try.prog 18 #[.string key, .string s] w fun e w' => e = .returned (.string (S (TS 92 ++ S (TS 54 ++ s)))) ∧ Mod (fun _ => False) w w' := by
  have H1 := Lib.hid h1
  have H2 := Lib.hid h2
  have g1 : ¬ (9223372036854775807 < (TS 54).size + s.size) := by rw [hb1]; omega
  have g2 : ¬ (9223372036854775807 < (TS 92).size + (S (TS 54 ++ s)).size) := by rw [hb1, hb2]; omega
  have HB := Lib.hid (And.intro hb1 hb2)
  clear h1 h2 hb1 hb2
  have hm := Mod.refl (fun _ => False) w
  go_enter Try.func18, Try.ntmps18
  go_wp2_with (first | (go_at_call 35; refine (H1.out _ _ (by omega)).mono ?_; rintro e w1 ⟨rfl, hm1⟩; replace hm := hm.tr hm1) | (go_at_call 34; refine (H2.out _ _ ?_).mono ?_; (· have := HB.out.1 54; have := HB.out.1 92; have := HB.out.2 (TS 54 ++ s); simp only [ByteArray.size_append]; omega); rintro e w3 ⟨rfl, hm3⟩; replace hm := hm.tr hm3))
  go_ret
  exact ⟨rfl, hm⟩
theorem hmac_any (key s : ByteArray) (hk : key.size ≤ 900000) (hs : s.size ≤ 900000) (w : World) :
    Calls Try.prog 18 #[.string key, .string s] w fun e w' => e = .returned (.string (hmacS key s)) ∧ Mod (fun _ => False) w w' :=
  mac_walk key s (fun bi => turnS key (UInt8.ofNat bi.toNat)) shaS (fun bi w h => turned_any key (by omega) _ bi (by rcases h with rfl | rfl <;> rfl) w) (fun x w hx => sum_any x hx w) (fun _ => turnS_size _ _) shaS_size hs w
end Go.Proofs.Ytpnpmploaaenlaa
