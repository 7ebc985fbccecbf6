/- The program's stream: the walk. -/
import Derived.Test.YtpnpmploaaenlaaMSo
namespace Go.Proofs.Ytpnpmploaaenlaa
open Go.RowKit
set_option linter.unusedSimpArgs false
set_option linter.unusedVariables false
def sx (s : ByteArray) (B : Nat → List UInt8) (j : Nat) : UInt8 := byteU s j ^^^ (B (j / 64)).getD (j % 64) 0
def xm (s : ByteArray) (B : Nat → List UInt8) (c j : Nat) : UInt8 := if j < c then sx s B j else byteU s j
theorem xm_lo (s : ByteArray) (B : Nat → List UInt8) {c j : Nat} (h : j < c) : xm s B c j = sx s B j := by unfold xm; rw [if_pos h]
theorem xm_hi (s : ByteArray) (B : Nat → List UInt8) {c j : Nat} (h : ¬ j < c) : xm s B c j = byteU s j := by unfold xm; rw [if_neg h]
theorem xm_next (s : ByteArray) (B : Nat → List UInt8) (c : Nat) (j : Nat) (hne : j ≠ c) : xm s B (c + 1) j = xm s B c j := by
  by_cases h : j < c
  · rw [xm_lo _ _ h, xm_lo _ _ (by omega)]
  · rw [xm_hi _ _ h, xm_hi _ _ (by omega)]
def sxL (s : ByteArray) (B : Nat → List UInt8) : List UInt8 := (List.range s.size).map (sx s B)
theorem sxL_len (s : ByteArray) (B : Nat → List UInt8) : (sxL s B).length = s.size := by simp [sxL]
theorem sxL_get (s : ByteArray) (B : Nat → List UInt8) (j : Nat) (hj : j < s.size) : (sxL s B).getD j 0 = sx s B j := by
  unfold sxL
  rw [List.getD_eq_getElem?_getD, List.getElem?_map, List.getElem?_range hj]
  rfl
set_option maxRecDepth 100000 in
set_option maxHeartbeats 8000000 in
theorem stream_walk (key nonce s : ByteArray) (c0 : Nat) (B : Nat → List UInt8) (hs : s.size ≤ 10000) (hc : c0 ≤ 10)
    (hm : ∀ w, Calls Try.prog 21 #[.string key, .string nonce, .int .i64 (c0 : Int)] w fun e w' => e = .returned (.bool true) ∧ w' = w)
    (hb : ∀ (q : Nat) (w : World), q ≤ 10000 → Calls Try.prog 22 #[.string key, .string nonce, .int .i64 ((c0 : Int) + (q : Int))] w fun e w' => e = .returned (.agg (rowB (B q) 64)) ∧ Mod (fun _ => False) w w') (w : World) :
    Calls Try.prog 10 #[.string key, .string nonce, .int .i64 (c0 : Int), .string s] w fun e w' => e = .returned (.tuple #[.string ⟨(sxL s B).toArray⟩, .int .i64 0]) ∧ Mod (fun _ => False) w w' := by
  have H1 := Lib.hid hm
  have H2 := Lib.hid hb
  have g1 : ¬ (65536 : Int) < (s.size : Int) := by omega
  obtain ⟨nq, hnq⟩ : ∃ nq, (s.size + 63) / 64 = nq := ⟨_, rfl⟩
  have g2 : ((s.size : Int) + 64 - 1) / 64 = (nq : Int) := by omega
  have g3 : ¬ (4294967296 : Int) - (c0 : Int) < (nq : Int) := by omega
  obtain ⟨C, W1, hcv, m1, hsz, row1⟩ := conv_row s w
  clear hm hb
  go_enter Try.func10, Try.ntmps10
  go_wp2_with (go_at_call 21; refine (H1.out _).mono ?_; rintro e w0 ⟨rfl, rfl⟩)
  have HROW := Lib.hid row1
  have HM1 := Lib.hid m1
  obtain ⟨go, hgo⟩ : ∃ g, w0.heap.size = g := ⟨_, rfl⟩
  have hgw : w0.heap.size ≤ go := by omega
  rw [hgo] at HROW hsz ⊢
  clear row1 m1 hcv hgo
  go_loopw [11] (fun a wr => ∃ q c : Nat, c = 64 * q ∧ c ≤ s.size + 63 ∧ a = .int .i64 (c : Int) ∧ Ytpnpmploaaenlaa.Row wr go s.size (xm s B c) ∧ Mod (fun _ => False) w0 wr) (fun a _ => s.size + 64 - (intOf a).toNat)
  case atStart => exact ⟨0, 0, rfl, by omega, rfl, HROW.out.eq (fun j _ => (xm_hi s B (by omega)).symm), HM1.out⟩
  case round =>
    clear HROW HM1
    obtain ⟨q, c, hcq, hcn, rfl, row, hm⟩ := hrel
    by_cases hlt : c < s.size
    · have hlt2 : (c : Int) < (s.size : Int) := by omega
      have hq1 : (c : Int) / 64 = (q : Int) := by omega
      have hq2 : (c : Int).tdiv 64 = (q : Int) := by rw [Int.tdiv_eq_ediv_of_nonneg (by omega)]; omega
      obtain ⟨mm, hmm⟩ : ∃ mm, min 64 (s.size - c) = mm := ⟨_, rfl⟩
      have hmm64 : mm ≤ 64 := by omega
      have hmmn : c + mm ≤ s.size := by omega
      have hmin : min (64 : Int) ((s.size : Int) - (c : Int)) = (mm : Int) := by omega
      have HQ := Lib.hid hcq
      have HMM := Lib.hid hmm
      have HN := Lib.hid (And.intro row hm)
      clear hcq hmm row hm
      go_upto_region 8 with (first | (go_at_call 22; refine (H2.out _ _ (by have := HQ.out; omega)).mono ?_; rintro e w1 ⟨rfl, hm1⟩) | (refine wpList_store_row rfl 42 (.tmp 12) (.tmp 48) rfl _ (rowB (B q) 64) rfl rfl _ (rowB (B q) 0) (new_block _ _ 42 _ rfl) (by kernel_rfl) (by rw [rowB_size, rowB_size]) (rowB_one (B q) 64) ?_))
      rw [zeroB (B q)]
      have HU := Lib.hid (show UB ((w1.alloc (.cells (rowB (B q) 0) 42)).setRow w1.heap.size (rowB (B q) 64)) w1.heap.size (B q) 64 from setRow_heap _ _ _ _ _ _ (new_block w1 _ 42 _ rfl))
      have hmA := (hm1.alloc (.cells (rowB (B q) 0) 42)).row (g := w1.heap.size) (fun hh => absurd hh (by have := hm1.size; omega)) (rowB (B q) 64)
      have HN2 := Lib.hid (And.intro (HN.out.1.kept hmA (fun e => e)) (HN.out.2.tr hmA))
      have hgk : go < w1.heap.size := by have := HN.out.1.lt; have := hm1.size; omega
      clear HN hm1 hmA
      generalize (w1.alloc (.cells (rowB (B q) 0) 42)).setRow w1.heap.size (rowB (B q) 64) = W2 at HU HN2 ⊢
      obtain ⟨gk, hgk2⟩ : ∃ g, w1.heap.size = g := ⟨_, rfl⟩
      rw [hgk2] at HU hgk ⊢
      clear hgk2
      try go_frame
      go_wp2_with fail
      go_loopw [54] (fun i wx => ∃ k : Nat, k ≤ mm ∧ i = .int .i64 (k : Int) ∧ Ytpnpmploaaenlaa.Row wx go s.size (xm s B (c + k)) ∧ UB wx gk (B q) 64 ∧ Mod (fun _ => False) w0 wx) (fun i _ => mm - (intOf i).toNat)
      case atStart => exact ⟨0, by omega, rfl, HN2.out.1, HU.out, HN2.out.2⟩
      case round =>
        clear HN2 HU
        obtain ⟨k, hk, rfl, row, ub, hm⟩ := hrel
        by_cases hlt3 : k < mm
        · have k0 : (0 : Int) ≤ (k : Int) := by omega
          have k1 : (k : Int) < (mm : Int) := by omega
          have k2 : (k : Int) < 64 := by omega
          obtain ⟨d, hd⟩ : ∃ d, c + k = d := ⟨_, rfl⟩
          have d1 : (c : Int) + (k : Int) = (d : Int) := by omega
          have d2 : (d : Int) < (s.size : Int) := by omega
          have d3 : d < s.size := by omega
          have d4 : (0 : Int) ≤ (d : Int) := by omega
          have dw : IntKind.i64.wrap (d : Int) = (d : Int) := by rw [IntKind.wrap_i64]; omega
          have e1 : d / 64 = q := by have := HQ.out; omega
          have e2 : d % 64 = k := by have := HQ.out; omega
          rw [hd] at row
          have HD := Lib.hid hd
          clear hd
          have HN3 := Lib.hid (And.intro row (And.intro ub hm))
          clear row ub hm
          go_wp2_with fail
          refine wp_still_tail_any 11 (by kernel_rfl) (by kernel_rfl) (fun wd hwd => ?_)
          have HN4 : Hid (Ytpnpmploaaenlaa.Row wd go s.size (xm s B d) ∧ UB wd gk (B q) 64 ∧ Mod (fun _ => False) w0 wd) := by
            subst hwd
            exact ⟨HN3.out.1, HN3.out.2.1, HN3.out.2.2.drew⟩
          have c1 := HN4.out.1.cell d d3
          have f1 := HN4.out.1.free d d3
          have c2 := HN4.out.2.1.cell k (by omega)
          rw [xm_hi s B (Nat.lt_irrefl d)] at c1
          rw [tx_lo _ (by omega)] at c2
          clear hwd HN3
          obtain ⟨x, hx⟩ : ∃ x, byteU s d = x := ⟨_, rfl⟩
          obtain ⟨y, hy⟩ : ∃ y, (B q).getD k 0 = y := ⟨_, rfl⟩
          have HS : Hid (sx s B d = x ^^^ y) := by show sx s B d = _; unfold sx; rw [e1, e2, hx, hy]
          rw [hx] at c1
          rw [hy] at c2
          have hv := xor_u8 x y
          clear hx hy e1 e2
          simp only [List.take_succ_cons, List.take_zero, List.drop_succ_cons, List.drop_zero]
          repeat still_step
          refine wpStill_nil ?_
          go_wp2_with fail
          obtain ⟨row, ub, hm⟩ := HN4.out
          have hsz0 := hm.size
          have HR := row.set d d3 (x ^^^ y) (xm s B (d + 1)) (by rw [xm_lo s B (Nat.lt_succ_self d), HS.out]) (fun j _ hne => xm_next s B d j hne)
          go_roundw
          case rel => exact ⟨k + 1, by omega, by go_num, by rw [← Nat.add_assoc, HD.out]; exact HR, ub.other (by simp; omega) _, hm.setCell (fun hh => absurd hh (by simp; omega)) _⟩
          case measure => simp [intOf]; omega
        · have hkm : k = mm := by omega
          have hge : ¬ ((k : Int) < (mm : Int)) := by omega
          have HR : Hid (Ytpnpmploaaenlaa.Row wr go s.size (xm s B (c + 64))) := by
            refine row.eq (fun j hj => ?_)
            have := HMM.out
            by_cases h : j < c + k
            · rw [xm_lo s B h, xm_lo s B (by omega)]
            · rw [xm_hi s B h, xm_hi s B (by omega)]
          have HM3 := Lib.hid hm
          clear row ub hm hkm hlt3 hk
          go_wp2_with fail
          go_roundw
          case rel => exact ⟨q + 1, c + 64, by have := HQ.out; omega, by omega, by go_num, HR.out, HM3.out⟩
          case measure => simp [intOf]; omega
    · have hge : ¬ (c : Int) < (s.size : Int) := by omega
      have hst : (convert 33 9 (.slice (some ⟨go, 0, none⟩) s.size C)).run Try.prog wr = .ok (.string ⟨(sxL s B).toArray⟩) wr := by
        have hrow : Ytpnpmploaaenlaa.Row wr go (sxL s B).length (fun j => (sxL s B).getD j 0) := by
          rw [sxL_len]
          exact row.eq (fun j hj => by rw [sxL_get s B j hj, xm_lo s B (by omega)])
        have := hrow.str C
        rw [sxL_len] at this
        exact this
      have HM3 := Lib.hid hm
      clear row hm
      go_wp2_with fail
      go_ret2
      exact ⟨rfl, HM3.out⟩
end Go.Proofs.Ytpnpmploaaenlaa
