/- A product of digits: the walk. -/
import Derived.Test.YtfmfopbcgohdgaaQ2
namespace Go.Proofs.Ytfmfopbcgohdgaa
open Go.RowKit
set_option linter.unusedSimpArgs false
set_option linter.unusedVariables false

/-- Behind i digits, and k of the next one. -/
structure Tm (za zb : Nat → Nat) (nb N i k : Nat) (f : Nat → Nat) : Prop where
  v : le f N = le za i * le zb nb + za i * 256 ^ i * le zb k
  lt : ∀ j, j < N → f j ≤ (i * nb + k) * 65025
theorem Tm.start (za zb : Nat → Nat) (nb N : Nat) (f : Nat → Nat) (hf : ∀ j, j < N → f j = 0) : Tm za zb nb N 0 0 f := by
  refine ⟨?_, fun j hj => by rw [hf j hj]; omega⟩
  rw [le_congr f (fun _ => 0) N hf, le_zero]
  show 0 = 0 * _ + za 0 * 256 ^ 0 * 0
  omega
theorem Tm.next {za zb : Nat → Nat} {nb N i : Nat} {f : Nat → Nat} (h : Tm za zb nb N i nb f) : Tm za zb nb N (i + 1) 0 f := by
  refine ⟨?_, fun j hj => ?_⟩
  · rw [h.v, times_next]
    show _ = (le za i + za i * 256 ^ i) * le zb nb + za (i + 1) * 256 ^ (i + 1) * 0
    omega
  · have := h.lt j hj
    rw [show (i + 1) * nb + 0 = i * nb + nb by rw [Nat.add_mul]; omega]
    exact this
theorem Tm.step {za zb : Nat → Nat} {nb N i k : Nat} {f : Nat → Nat} (h : Tm za zb nb N i k f) (hik : i + k < N) (hm : za i * zb k ≤ 65025) : Tm za zb nb N i (k + 1) (upd f (i + k) (f (i + k) + za i * zb k)) := by
  refine ⟨?_, fun j hj => ?_⟩
  · rw [le_upd _ _ _ _ hik, h.v, times_step]
    rfl
  · have h1 := h.lt j hj
    rw [← Nat.add_assoc, Nat.add_mul (i * nb + k) 1, Nat.one_mul]
    unfold upd
    by_cases e : j = i + k
    · subst e; rw [if_pos rfl]; exact Nat.add_le_add h1 hm
    · rw [if_neg e]; exact Nat.le_trans h1 (Nat.le_add_right _ _)
theorem mul_wrap (X Y M : Nat) (h : X * Y = M) (hM : M ≤ 65025) : IntKind.i64.wrap ((X : Int) * (Y : Int)) = (M : Int) ∧ wrap64 ((X : Int) * (Y : Int)) = (M : Int) := by
  have e : (X : Int) * (Y : Int) = (M : Int) := by rw [← Int.natCast_mul, h]
  rw [e]
  clear e h
  constructor
  · rw [IntKind.wrap_i64]; omega
  · unfold wrap64; omega
theorem add_wrap (C M : Nat) (hC : C ≤ 65090025000) (hM : M ≤ 65025) : IntKind.i64.wrap ((C : Int) + (M : Int)) = (C : Int) + (M : Int) ∧ wrap64 ((C : Int) + (M : Int)) = (C : Int) + (M : Int) := by
  constructor
  · rw [IntKind.wrap_i64]; omega
  · unfold wrap64; omega
set_option maxRecDepth 100000 in
set_option maxHeartbeats 4000000 in
theorem rtimes_any (a na ca b nb cb : Nat) (za zb : Nat → Nat) (hza : ∀ k, k < na → za k ≤ 255) (hzb : ∀ k, k < nb → zb k ≤ 255) (hna : na ≤ 1000) (hnb : nb ≤ 1000) (w : World) (hda : Dg w a na za) (hdb : Dg w b nb zb) :
    Calls Try.prog 22 #[.slice (some ⟨a, 0, none⟩) na ca, .slice (some ⟨b, 0, none⟩) nb cb] w fun e w' => (∃ g, e = .returned (.slice (some ⟨g, 0, none⟩) (na + nb + 1) (na + nb + 1)) ∧ IRow w' g (na + nb + 1) (dgt (le za na * le zb nb)) ∧ w.heap.size ≤ g) ∧ Mod (fun _ => False) w w' := by
  obtain ⟨N, hN⟩ : ∃ N, N = na + nb + 1 := ⟨_, rfl⟩
  rw [← hN]
  have hNi : (na : Int) + (nb : Int) + 1 = (N : Int) := by omega
  obtain ⟨Z, hmk, hrow⟩ := make_ints N (by omega) w
  have HR := Lib.hid hrow
  have HA := Lib.hid hda
  have HB := Lib.hid hdb
  have HZA := Lib.hid hza
  have HZB := Lib.hid hzb
  have HN := Lib.hid hN
  clear hrow hda hdb hza hzb hN
  go_enter Try.func22, Try.ntmps22
  go_wp2_with fail
  clear hmk
  go_loopw [6] (fun v wr => ∃ (i : Nat) (f : Nat → Nat), i ≤ na ∧ v = .int .i64 (i : Int) ∧ IRow wr w.heap.size N f ∧ Tm za zb nb N i 0 f ∧ Mod (fun _ => False) w wr) (fun v _ => na - (intOf v).toNat)
  case atStart => exact ⟨0, _, by omega, rfl, HR.out, Tm.start _ _ _ _ _ (fun _ _ => rfl), (Mod.refl _ _).alloc _⟩
  case round =>
    obtain ⟨i, f, hi, rfl, row, tm, hmr⟩ := hrel
    have HROW := Lib.hid row
    have HM := Lib.hid hmr
    have HT := Lib.hid tm
    clear row hmr tm
    by_cases hlt : i < na
    · have hi0 : (0 : Int) ≤ (i : Int) := by omega
      have hi2 : (i : Int) < (na : Int) := by omega
      obtain ⟨wo, hwo⟩ : ∃ wo : World, wo = wr := ⟨_, rfl⟩
      rw [← hwo] at HROW HM ⊢
      clear hwo
      go_wp2_with fail
      go_loopw [7] (fun v wr => ∃ (k : Nat) (f : Nat → Nat), k ≤ nb ∧ v = .int .i64 (k : Int) ∧ IRow wr w.heap.size N f ∧ Tm za zb nb N i k f ∧ Mod (fun _ => False) w wr) (fun v _ => nb - (intOf v).toNat)
      case atStart => exact ⟨0, f, by omega, rfl, HROW.out, HT.out, HM.out⟩
      case round =>
        obtain ⟨k, f, hk, rfl, row, tm, hmr⟩ := hrel
        have HROW := Lib.hid row
        have HM := Lib.hid hmr
        have HT := Lib.hid tm
        clear row hmr tm
        by_cases hltk : k < nb
        · have hk0 : (0 : Int) ≤ (k : Int) := by omega
          have hk2 : (k : Int) < (nb : Int) := by omega
          have hik : i + k < N := by have := HN.out; omega
          have hik2 : (i : Int) + (k : Int) < (N : Int) := by omega
          have hX := (HA.out.kept HM.out) i hlt
          have hY := (HB.out.kept HM.out) k hltk
          have hC := HROW.out.cell (i + k) hik
          have hF := HROW.out.free (i + k)
          have hxb := HZA.out i hlt
          have hyb := HZB.out k hltk
          have hcb := HT.out.lt (i + k) hik
          have hmb : za i * zb k ≤ 65025 := Nat.mul_le_mul hxb hyb
          have HST := Lib.hid (HT.out.step hik hmb)
          have hsm : (i * nb + k) * 65025 ≤ 65090025000 := by
            have h1 : i * nb ≤ 1000000 := Nat.mul_le_mul (by omega : i ≤ 1000) hnb
            have h2 : i * nb + k ≤ 1001000 := Nat.add_le_add h1 (by omega : k ≤ 1000)
            exact Nat.le_trans (Nat.mul_le_mul_right 65025 h2) (by decide)
          have hcb2 : f (i + k) ≤ 65090025000 := Nat.le_trans hcb hsm
          clear hsm hcb
          generalize f (i + k) = C at *
          generalize za i = X at *
          generalize zb k = Y at *
          obtain ⟨M, hMM⟩ : ∃ M, X * Y = M := ⟨_, rfl⟩
          rw [hMM] at hmb HST
          obtain ⟨hmul2, hmul3⟩ := mul_wrap X Y M hMM hmb
          obtain ⟨hw1, hw2⟩ := add_wrap C M hcb2 hmb
          clear HT hMM
          go_wp2_with fail
          go_region
          go_wp2_with fail
          go_roundw
          case rel => exact ⟨k + 1, _, by omega, by go_num, (HROW.out.set' (i + k) (C + M) hik _ (by rw [Int.natCast_add])).drew, HST.out, (HM.out.setCell (fun hh => absurd hh (Nat.lt_irrefl _)) _).drew⟩
          case measure => simp [intOf]; omega
        · obtain rfl : k = nb := by omega
          go_wp2_with fail
          go_roundw
          case rel => exact ⟨i + 1, f, by omega, by go_num, HROW.out, HT.out.next, HM.out⟩
          case measure => simp [intOf]; omega
    · obtain rfl : i = na := by omega
      have HBD : Hid (∀ j, j < N → f j ≤ 255 * 1099511627776) := by
        show ∀ j, _
        intro j hj
        have h1 := HT.out.lt j hj
        have h2 : i * nb + 0 ≤ 1000000 := Nat.mul_le_mul hna hnb
        exact Nat.le_trans (Nat.le_trans h1 (Nat.mul_le_mul_right 65025 h2)) (by decide)
      have HV : Hid (le f N = le za i * le zb nb) := by show _ = _; rw [HT.out.v]; show _ + za i * 256 ^ i * 0 = _; omega
      have hNb : N ≤ 1000000 := by have := HN.out; omega
      clear HT
      go_wp2_with fail
      refine (rcarried_any w.heap.size N N N f hNb hNb HBD.out _ HROW.out.dg).mono ?_
      rintro e w2 ⟨⟨g, rfl, hrow, hge⟩, m2⟩
      rw [le_zx_le _ _ _ (Nat.le_refl _), HV.out] at hrow
      have HRF := Lib.hid hrow
      have HGE : Hid (w.heap.size ≤ g) := Nat.le_trans HM.out.size hge
      clear hrow hge
      go_wp2_with fail
      go_ret
      exact ⟨⟨g, rfl, HRF.out, HGE.out⟩, HM.out.tr m2⟩
end Go.Proofs.Ytfmfopbcgohdgaa
