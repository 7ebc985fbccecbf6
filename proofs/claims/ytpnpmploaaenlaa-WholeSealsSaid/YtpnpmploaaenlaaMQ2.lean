/- A sum of digits: the walk. A product of digits: the walk. -/
import Derived.Test.YtpnpmploaaenlaaMQ1
namespace Go.Proofs.Ytpnpmploaaenlaa
open Go.RowKit
set_option linter.unusedSimpArgs false
set_option linter.unusedVariables false

theorem upTo_upd2 (f : Nat → Nat) (k x y : Nat) (hx : y = f k) (j : Nat) : upd (upd (upTo f k) k x) k y j = upTo f (k + 1) j := by
  rw [← upTo_upd f k y hx j]
  unfold upd
  by_cases e : j = k
  · rw [if_pos e, if_pos e]
  · rw [if_neg e, if_neg e, if_neg e]
theorem upTo_skip (f : Nat → Nat) (k : Nat) (hx : 0 = f k) (j : Nat) : upTo f k j = upTo f (k + 1) j := by
  unfold upTo
  by_cases e : j < k
  · rw [if_pos e, if_pos (by omega)]
  · rw [if_neg e]
    by_cases e2 : j < k + 1
    · obtain rfl : j = k := by omega
      rw [if_pos e2, ← hx]
    · rw [if_neg e2]
theorem upTo_self (f : Nat → Nat) (k : Nat) : upTo f k k = 0 := if_neg (by omega)
def zsum (na nb : Nat) (za zb : Nat → Nat) (i : Nat) : Nat := zx na za i + zx nb zb i
set_option maxRecDepth 100000 in
set_option maxHeartbeats 4000000 in
theorem radd_any (a na ca b nb cb many : Nat) (za zb : Nat → Nat) (hm : many ≤ 1000000) (hza : ∀ k, k < na → za k ≤ 255) (hzb : ∀ k, k < nb → zb k ≤ 255) (hna : na ≤ 1000000) (hnb : nb ≤ 1000000) (w : World) (hda : Dg w a na za) (hdb : Dg w b nb zb) :
    Calls Try.prog 52 #[.slice (some ⟨a, 0, none⟩) na ca, .slice (some ⟨b, 0, none⟩) nb cb, .int .i64 (many : Int)] w fun e w' => (∃ g, e = .returned (.slice (some ⟨g, 0, none⟩) many many) ∧ IRow w' g many (dgt (le (zx na za) many + le (zx nb zb) many)) ∧ w.heap.size ≤ g) ∧ Mod (fun _ => False) w w' := by
  obtain ⟨Z, hmk, hrow⟩ := make_ints many hm w
  have HR := Lib.hid hrow
  have HA := Lib.hid hda
  have HB := Lib.hid hdb
  have HZA := Lib.hid hza
  have HZB := Lib.hid hzb
  clear hrow hda hdb hza hzb
  go_enter Try.func52, Try.ntmps52
  go_wp2_with fail
  clear hmk
  go_loopw [8] (fun i wr => ∃ k : Nat, k ≤ many ∧ i = .int .i64 (k : Int) ∧ IRow wr w.heap.size many (upTo (zsum na nb za zb) k) ∧ Mod (fun _ => False) w wr) (fun i _ => many - (intOf i).toNat)
  case atStart => exact ⟨0, by omega, rfl, HR.out.eq (fun j _ => (if_neg (by omega)).symm), (Mod.refl _ _).alloc _⟩
  case round =>
    obtain ⟨k, hk, rfl, row, hmr⟩ := hrel
    by_cases hlt : k < many
    · have hk0 : (0 : Int) ≤ (k : Int) := by omega
      have hk2 : (k : Int) < (many : Int) := by omega
      have hF := row.free k
      have hC := row.cell k hlt
      rw [upTo_self] at hC
      have HROW := Lib.hid row
      have HM := Lib.hid hmr
      clear row hmr
      by_cases hia : k < na
      · have hia2 : (k : Int) < (na : Int) := by omega
        have hXA := (HA.out.kept HM.out) k hia
        have hab := HZA.out k hia
        obtain ⟨X, HX⟩ : ∃ X, Hid (za k = X) := ⟨_, rfl⟩
        rw [HX.out] at hXA hab
        by_cases hib : k < nb
        · have hib2 : (k : Int) < (nb : Int) := by omega
          have hXB := (HB.out.kept HM.out) k hib
          have hbb := HZB.out k hib
          obtain ⟨Y, HY⟩ : ∃ Y, Hid (zb k = Y) := ⟨_, rfl⟩
          rw [HY.out] at hXB hbb
          have HS : Hid (zsum na nb za zb k = X + Y) := by show zx na za k + zx nb zb k = _; rw [show zx na za k = za k from if_pos hia, show zx nb zb k = zb k from if_pos hib, HX.out, HY.out]
          have hbA : b ≠ w.heap.size := by
            intro e; subst e
            have := World.block_lt_of_cell? w _ (HB.out k hib)
            simp at this
          go_wp2_with fail
          go_region
          go_wp2_with fail
          go_region
          go_wp2_with fail
          go_roundw
          case rel => exact ⟨k + 1, by omega, by go_num, ((HROW.out.set' k X hlt _ (by omega)).set' k (X + Y) hlt _ (by omega)).eq (fun j _ => upTo_upd2 _ k _ _ HS.out.symm j), ((HM.out.setCell (fun hh => absurd hh (Nat.lt_irrefl _)) _).setCell (fun hh => absurd hh (Nat.lt_irrefl _)) _).drew.drew⟩
          case measure => simp [intOf]; omega
        · have hib2 : ¬ (k : Int) < (nb : Int) := by omega
          have HS : Hid (zsum na nb za zb k = X) := by show zx na za k + zx nb zb k = _; rw [show zx na za k = za k from if_pos hia, show zx nb zb k = 0 from if_neg hib, HX.out]; rfl
          go_wp2_with fail
          go_region
          go_wp2_with fail
          go_roundw
          case rel => exact ⟨k + 1, by omega, by go_num, (HROW.out.set' k X hlt _ (by omega)).eq (fun j _ => upTo_upd _ k _ HS.out.symm j), (HM.out.setCell (fun hh => absurd hh (Nat.lt_irrefl _)) _).drew⟩
          case measure => simp [intOf]; omega
      · have hia2 : ¬ (k : Int) < (na : Int) := by omega
        by_cases hib : k < nb
        · have hib2 : (k : Int) < (nb : Int) := by omega
          have hXB := (HB.out.kept HM.out) k hib
          have hbb := HZB.out k hib
          obtain ⟨Y, HY⟩ : ∃ Y, Hid (zb k = Y) := ⟨_, rfl⟩
          rw [HY.out] at hXB hbb
          have HS : Hid (zsum na nb za zb k = Y) := by show zx na za k + zx nb zb k = _; rw [show zx na za k = 0 from if_neg hia, show zx nb zb k = zb k from if_pos hib, HY.out, Nat.zero_add]
          go_wp2_with fail
          go_region
          go_wp2_with fail
          go_roundw
          case rel => exact ⟨k + 1, by omega, by go_num, (HROW.out.set' k Y hlt _ (by omega)).eq (fun j _ => upTo_upd _ k _ HS.out.symm j), (HM.out.setCell (fun hh => absurd hh (Nat.lt_irrefl _)) _).drew⟩
          case measure => simp [intOf]; omega
        · have hib2 : ¬ (k : Int) < (nb : Int) := by omega
          have HS : Hid (0 = zsum na nb za zb k) := by show _ = zx na za k + zx nb zb k; rw [show zx na za k = 0 from if_neg hia, show zx nb zb k = 0 from if_neg hib]
          go_wp2_with fail
          go_roundw
          case rel => exact ⟨k + 1, by omega, by go_num, HROW.out.eq (fun j _ => upTo_skip _ k HS.out j), HM.out⟩
          case measure => simp [intOf]; omega
    · obtain rfl : k = many := by omega
      have HROW := Lib.hid (row.eq (f' := zsum na nb za zb) (fun j hj => if_pos hj))
      have HM := Lib.hid hmr
      have HBD : Hid (∀ j, j < k → zsum na nb za zb j ≤ 255 * 1099511627776) := by
        show ∀ j, _
        intro j _
        have h1 : zx na za j ≤ 255 := by unfold zx; by_cases e : j < na; rw [if_pos e]; exact HZA.out j e; rw [if_neg e]; omega
        have h2 : zx nb zb j ≤ 255 := by unfold zx; by_cases e : j < nb; rw [if_pos e]; exact HZB.out j e; rw [if_neg e]; omega
        show zx na za j + zx nb zb j ≤ _
        omega
      clear row hmr
      go_wp2_with fail
      refine (rcarried_any w.heap.size k k k (zsum na nb za zb) hm hm HBD.out _ HROW.out.dg).mono ?_
      rintro e w2 ⟨⟨g, rfl, hrow, hge⟩, m2⟩
      rw [le_zx_le _ _ _ (Nat.le_refl _), show le (zsum na nb za zb) k = le (zx na za) k + le (zx nb zb) k from le_add _ _ _] at hrow
      have HRF := Lib.hid hrow
      have HGE : Hid (w.heap.size ≤ g) := Nat.le_trans HM.out.size hge
      clear hrow hge
      go_wp2_with fail
      go_ret
      exact ⟨⟨g, rfl, HRF.out, HGE.out⟩, HM.out.tr m2⟩
end Go.Proofs.Ytpnpmploaaenlaa
namespace Go.Proofs.Ytpnpmploaaenlaa
open Go.RowKit
set_option linter.unusedSimpArgs false
set_option linter.unusedVariables false

/-- Behind i digits, and k of the next one. -/
structure Tm (za zb : Nat → Nat) (nb N i k : Nat) (f : Nat → Nat) : Prop where
  v : le f N = le za i * le zb nb + za i * 256 ^ i * le zb k
  lt : ∀ j, j < N → f j ≤ (i * nb + k) * 65025
theorem Tm.start (za zb : Nat → Nat) (nb N : Nat) (f : Nat → Nat) (hf : ∀ j, j < N → f j = 0) : Tm za zb nb N 0 0 f := by
  refine ⟨?_, fun j hj => by rw [hf j hj]; omega⟩
  rw [le_congr f (fun _ => 0) N hf, le_zero]
  show 0 = 0 * _ + za 0 * 256 ^ 0 * 0
  omega
theorem Tm.next {za zb : Nat → Nat} {nb N i : Nat} {f : Nat → Nat} (h : Tm za zb nb N i nb f) : Tm za zb nb N (i + 1) 0 f := by
  refine ⟨?_, fun j hj => ?_⟩
  · rw [h.v, times_next]
    show _ = (le za i + za i * 256 ^ i) * le zb nb + za (i + 1) * 256 ^ (i + 1) * 0
    omega
  · have := h.lt j hj
    rw [show (i + 1) * nb + 0 = i * nb + nb by rw [Nat.add_mul]; omega]
    exact this
theorem Tm.step {za zb : Nat → Nat} {nb N i k : Nat} {f : Nat → Nat} (h : Tm za zb nb N i k f) (hik : i + k < N) (hm : za i * zb k ≤ 65025) : Tm za zb nb N i (k + 1) (upd f (i + k) (f (i + k) + za i * zb k)) := by
  refine ⟨?_, fun j hj => ?_⟩
  · rw [le_upd _ _ _ _ hik, h.v, times_step]
    rfl
  · have h1 := h.lt j hj
    rw [← Nat.add_assoc, Nat.add_mul (i * nb + k) 1, Nat.one_mul]
    unfold upd
    by_cases e : j = i + k
    · subst e; rw [if_pos rfl]; exact Nat.add_le_add h1 hm
    · rw [if_neg e]; exact Nat.le_trans h1 (Nat.le_add_right _ _)
theorem mul_wrap (X Y M : Nat) (h : X * Y = M) (hM : M ≤ 65025) : IntKind.i64.wrap ((X : Int) * (Y : Int)) = (M : Int) ∧ wrap64 ((X : Int) * (Y : Int)) = (M : Int) := by
  have e : (X : Int) * (Y : Int) = (M : Int) := by rw [← Int.natCast_mul, h]
  rw [e]
  clear e h
  constructor
  · rw [IntKind.wrap_i64]; omega
  · unfold wrap64; omega
theorem add_wrap (C M : Nat) (hC : C ≤ 65090025000) (hM : M ≤ 65025) : IntKind.i64.wrap ((C : Int) + (M : Int)) = (C : Int) + (M : Int) ∧ wrap64 ((C : Int) + (M : Int)) = (C : Int) + (M : Int) := by
  constructor
  · rw [IntKind.wrap_i64]; omega
  · unfold wrap64; omega
set_option maxRecDepth 100000 in
set_option maxHeartbeats 4000000 in
theorem rtimes_any (a na ca b nb cb : Nat) (za zb : Nat → Nat) (hza : ∀ k, k < na → za k ≤ 255) (hzb : ∀ k, k < nb → zb k ≤ 255) (hna : na ≤ 1000) (hnb : nb ≤ 1000) (w : World) (hda : Dg w a na za) (hdb : Dg w b nb zb) :
    Calls Try.prog 51 #[.slice (some ⟨a, 0, none⟩) na ca, .slice (some ⟨b, 0, none⟩) nb cb] w fun e w' => (∃ g, e = .returned (.slice (some ⟨g, 0, none⟩) (na + nb + 1) (na + nb + 1)) ∧ IRow w' g (na + nb + 1) (dgt (le za na * le zb nb)) ∧ w.heap.size ≤ g) ∧ Mod (fun _ => False) w w' := by
  obtain ⟨N, hN⟩ : ∃ N, N = na + nb + 1 := ⟨_, rfl⟩
  rw [← hN]
  have hNi : (na : Int) + (nb : Int) + 1 = (N : Int) := by omega
  obtain ⟨Z, hmk, hrow⟩ := make_ints N (by omega) w
  have HR := Lib.hid hrow
  have HA := Lib.hid hda
  have HB := Lib.hid hdb
  have HZA := Lib.hid hza
  have HZB := Lib.hid hzb
  have HN := Lib.hid hN
  clear hrow hda hdb hza hzb hN
  go_enter Try.func51, Try.ntmps51
  go_wp2_with fail
  clear hmk
  go_loopw [6] (fun v wr => ∃ (i : Nat) (f : Nat → Nat), i ≤ na ∧ v = .int .i64 (i : Int) ∧ IRow wr w.heap.size N f ∧ Tm za zb nb N i 0 f ∧ Mod (fun _ => False) w wr) (fun v _ => na - (intOf v).toNat)
  case atStart => exact ⟨0, _, by omega, rfl, HR.out, Tm.start _ _ _ _ _ (fun _ _ => rfl), (Mod.refl _ _).alloc _⟩
  case round =>
    obtain ⟨i, f, hi, rfl, row, tm, hmr⟩ := hrel
    have HROW := Lib.hid row
    have HM := Lib.hid hmr
    have HT := Lib.hid tm
    clear row hmr tm
    by_cases hlt : i < na
    · have hi0 : (0 : Int) ≤ (i : Int) := by omega
      have hi2 : (i : Int) < (na : Int) := by omega
      obtain ⟨wo, hwo⟩ : ∃ wo : World, wo = wr := ⟨_, rfl⟩
      rw [← hwo] at HROW HM ⊢
      clear hwo
      go_wp2_with fail
      go_loopw [7] (fun v wr => ∃ (k : Nat) (f : Nat → Nat), k ≤ nb ∧ v = .int .i64 (k : Int) ∧ IRow wr w.heap.size N f ∧ Tm za zb nb N i k f ∧ Mod (fun _ => False) w wr) (fun v _ => nb - (intOf v).toNat)
      case atStart => exact ⟨0, f, by omega, rfl, HROW.out, HT.out, HM.out⟩
      case round =>
        obtain ⟨k, f, hk, rfl, row, tm, hmr⟩ := hrel
        have HROW := Lib.hid row
        have HM := Lib.hid hmr
        have HT := Lib.hid tm
        clear row hmr tm
        by_cases hltk : k < nb
        · have hk0 : (0 : Int) ≤ (k : Int) := by omega
          have hk2 : (k : Int) < (nb : Int) := by omega
          have hik : i + k < N := by have := HN.out; omega
          have hik2 : (i : Int) + (k : Int) < (N : Int) := by omega
          have hX := (HA.out.kept HM.out) i hlt
          have hY := (HB.out.kept HM.out) k hltk
          have hC := HROW.out.cell (i + k) hik
          have hF := HROW.out.free (i + k)
          have hxb := HZA.out i hlt
          have hyb := HZB.out k hltk
          have hcb := HT.out.lt (i + k) hik
          have hmb : za i * zb k ≤ 65025 := Nat.mul_le_mul hxb hyb
          have HST := Lib.hid (HT.out.step hik hmb)
          have hsm : (i * nb + k) * 65025 ≤ 65090025000 := by
            have h1 : i * nb ≤ 1000000 := Nat.mul_le_mul (by omega : i ≤ 1000) hnb
            have h2 : i * nb + k ≤ 1001000 := Nat.add_le_add h1 (by omega : k ≤ 1000)
            exact Nat.le_trans (Nat.mul_le_mul_right 65025 h2) (by decide)
          have hcb2 : f (i + k) ≤ 65090025000 := Nat.le_trans hcb hsm
          clear hsm hcb
          generalize f (i + k) = C at *
          generalize za i = X at *
          generalize zb k = Y at *
          obtain ⟨M, hMM⟩ : ∃ M, X * Y = M := ⟨_, rfl⟩
          rw [hMM] at hmb HST
          obtain ⟨hmul2, hmul3⟩ := mul_wrap X Y M hMM hmb
          obtain ⟨hw1, hw2⟩ := add_wrap C M hcb2 hmb
          clear HT hMM
          go_wp2_with fail
          go_region
          go_wp2_with fail
          go_roundw
          case rel => exact ⟨k + 1, _, by omega, by go_num, (HROW.out.set' (i + k) (C + M) hik _ (by rw [Int.natCast_add])).drew, HST.out, (HM.out.setCell (fun hh => absurd hh (Nat.lt_irrefl _)) _).drew⟩
          case measure => simp [intOf]; omega
        · obtain rfl : k = nb := by omega
          go_wp2_with fail
          go_roundw
          case rel => exact ⟨i + 1, f, by omega, by go_num, HROW.out, HT.out.next, HM.out⟩
          case measure => simp [intOf]; omega
    · obtain rfl : i = na := by omega
      have HBD : Hid (∀ j, j < N → f j ≤ 255 * 1099511627776) := by
        show ∀ j, _
        intro j hj
        have h1 := HT.out.lt j hj
        have h2 : i * nb + 0 ≤ 1000000 := Nat.mul_le_mul hna hnb
        exact Nat.le_trans (Nat.le_trans h1 (Nat.mul_le_mul_right 65025 h2)) (by decide)
      have HV : Hid (le f N = le za i * le zb nb) := by show _ = _; rw [HT.out.v]; show _ + za i * 256 ^ i * 0 = _; omega
      have hNb : N ≤ 1000000 := by have := HN.out; omega
      clear HT
      go_wp2_with fail
      refine (rcarried_any w.heap.size N N N f hNb hNb HBD.out _ HROW.out.dg).mono ?_
      rintro e w2 ⟨⟨g, rfl, hrow, hge⟩, m2⟩
      rw [le_zx_le _ _ _ (Nat.le_refl _), HV.out] at hrow
      have HRF := Lib.hid hrow
      have HGE : Hid (w.heap.size ≤ g) := Nat.le_trans HM.out.size hge
      clear hrow hge
      go_wp2_with fail
      go_ret
      exact ⟨⟨g, rfl, HRF.out, HGE.out⟩, HM.out.tr m2⟩
end Go.Proofs.Ytpnpmploaaenlaa
