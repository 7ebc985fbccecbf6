/- A sum of digits: the walk. -/
import Derived.Test.YtfmfopbcgohdgaaQ1
namespace Go.Proofs.Ytfmfopbcgohdgaa
open Go.RowKit
set_option linter.unusedSimpArgs false
set_option linter.unusedVariables false

theorem upTo_upd2 (f : Nat → Nat) (k x y : Nat) (hx : y = f k) (j : Nat) : upd (upd (upTo f k) k x) k y j = upTo f (k + 1) j := by
  rw [← upTo_upd f k y hx j]
  unfold upd
  by_cases e : j = k
  · rw [if_pos e, if_pos e]
  · rw [if_neg e, if_neg e, if_neg e]
theorem upTo_skip (f : Nat → Nat) (k : Nat) (hx : 0 = f k) (j : Nat) : upTo f k j = upTo f (k + 1) j := by
  unfold upTo
  by_cases e : j < k
  · rw [if_pos e, if_pos (by omega)]
  · rw [if_neg e]
    by_cases e2 : j < k + 1
    · obtain rfl : j = k := by omega
      rw [if_pos e2, ← hx]
    · rw [if_neg e2]
theorem upTo_self (f : Nat → Nat) (k : Nat) : upTo f k k = 0 := if_neg (by omega)
def zsum (na nb : Nat) (za zb : Nat → Nat) (i : Nat) : Nat := zx na za i + zx nb zb i
set_option maxRecDepth 100000 in
set_option maxHeartbeats 4000000 in
theorem radd_any (a na ca b nb cb many : Nat) (za zb : Nat → Nat) (hm : many ≤ 1000000) (hza : ∀ k, k < na → za k ≤ 255) (hzb : ∀ k, k < nb → zb k ≤ 255) (hna : na ≤ 1000000) (hnb : nb ≤ 1000000) (w : World) (hda : Dg w a na za) (hdb : Dg w b nb zb) :
    Calls Try.prog 23 #[.slice (some ⟨a, 0, none⟩) na ca, .slice (some ⟨b, 0, none⟩) nb cb, .int .i64 (many : Int)] w fun e w' => (∃ g, e = .returned (.slice (some ⟨g, 0, none⟩) many many) ∧ IRow w' g many (dgt (le (zx na za) many + le (zx nb zb) many)) ∧ w.heap.size ≤ g) ∧ Mod (fun _ => False) w w' := by
  obtain ⟨Z, hmk, hrow⟩ := make_ints many hm w
  have HR := Lib.hid hrow
  have HA := Lib.hid hda
  have HB := Lib.hid hdb
  have HZA := Lib.hid hza
  have HZB := Lib.hid hzb
  clear hrow hda hdb hza hzb
  go_enter Try.func23, Try.ntmps23
  go_wp2_with fail
  clear hmk
  go_loopw [8] (fun i wr => ∃ k : Nat, k ≤ many ∧ i = .int .i64 (k : Int) ∧ IRow wr w.heap.size many (upTo (zsum na nb za zb) k) ∧ Mod (fun _ => False) w wr) (fun i _ => many - (intOf i).toNat)
  case atStart => exact ⟨0, by omega, rfl, HR.out.eq (fun j _ => (if_neg (by omega)).symm), (Mod.refl _ _).alloc _⟩
  case round =>
    obtain ⟨k, hk, rfl, row, hmr⟩ := hrel
    by_cases hlt : k < many
    · have hk0 : (0 : Int) ≤ (k : Int) := by omega
      have hk2 : (k : Int) < (many : Int) := by omega
      have hF := row.free k
      have hC := row.cell k hlt
      rw [upTo_self] at hC
      have HROW := Lib.hid row
      have HM := Lib.hid hmr
      clear row hmr
      by_cases hia : k < na
      · have hia2 : (k : Int) < (na : Int) := by omega
        have hXA := (HA.out.kept HM.out) k hia
        have hab := HZA.out k hia
        obtain ⟨X, HX⟩ : ∃ X, Hid (za k = X) := ⟨_, rfl⟩
        rw [HX.out] at hXA hab
        by_cases hib : k < nb
        · have hib2 : (k : Int) < (nb : Int) := by omega
          have hXB := (HB.out.kept HM.out) k hib
          have hbb := HZB.out k hib
          obtain ⟨Y, HY⟩ : ∃ Y, Hid (zb k = Y) := ⟨_, rfl⟩
          rw [HY.out] at hXB hbb
          have HS : Hid (zsum na nb za zb k = X + Y) := by show zx na za k + zx nb zb k = _; rw [show zx na za k = za k from if_pos hia, show zx nb zb k = zb k from if_pos hib, HX.out, HY.out]
          have hbA : b ≠ w.heap.size := by
            intro e; subst e
            have := World.block_lt_of_cell? w _ (HB.out k hib)
            simp at this
          go_wp2_with fail
          go_region
          go_wp2_with fail
          go_region
          go_wp2_with fail
          go_roundw
          case rel => exact ⟨k + 1, by omega, by go_num, ((HROW.out.set' k X hlt _ (by omega)).set' k (X + Y) hlt _ (by omega)).eq (fun j _ => upTo_upd2 _ k _ _ HS.out.symm j), ((HM.out.setCell (fun hh => absurd hh (Nat.lt_irrefl _)) _).setCell (fun hh => absurd hh (Nat.lt_irrefl _)) _).drew.drew⟩
          case measure => simp [intOf]; omega
        · have hib2 : ¬ (k : Int) < (nb : Int) := by omega
          have HS : Hid (zsum na nb za zb k = X) := by show zx na za k + zx nb zb k = _; rw [show zx na za k = za k from if_pos hia, show zx nb zb k = 0 from if_neg hib, HX.out]; rfl
          go_wp2_with fail
          go_region
          go_wp2_with fail
          go_roundw
          case rel => exact ⟨k + 1, by omega, by go_num, (HROW.out.set' k X hlt _ (by omega)).eq (fun j _ => upTo_upd _ k _ HS.out.symm j), (HM.out.setCell (fun hh => absurd hh (Nat.lt_irrefl _)) _).drew⟩
          case measure => simp [intOf]; omega
      · have hia2 : ¬ (k : Int) < (na : Int) := by omega
        by_cases hib : k < nb
        · have hib2 : (k : Int) < (nb : Int) := by omega
          have hXB := (HB.out.kept HM.out) k hib
          have hbb := HZB.out k hib
          obtain ⟨Y, HY⟩ : ∃ Y, Hid (zb k = Y) := ⟨_, rfl⟩
          rw [HY.out] at hXB hbb
          have HS : Hid (zsum na nb za zb k = Y) := by show zx na za k + zx nb zb k = _; rw [show zx na za k = 0 from if_neg hia, show zx nb zb k = zb k from if_pos hib, HY.out, Nat.zero_add]
          go_wp2_with fail
          go_region
          go_wp2_with fail
          go_roundw
          case rel => exact ⟨k + 1, by omega, by go_num, (HROW.out.set' k Y hlt _ (by omega)).eq (fun j _ => upTo_upd _ k _ HS.out.symm j), (HM.out.setCell (fun hh => absurd hh (Nat.lt_irrefl _)) _).drew⟩
          case measure => simp [intOf]; omega
        · have hib2 : ¬ (k : Int) < (nb : Int) := by omega
          have HS : Hid (0 = zsum na nb za zb k) := by show _ = zx na za k + zx nb zb k; rw [show zx na za k = 0 from if_neg hia, show zx nb zb k = 0 from if_neg hib]
          go_wp2_with fail
          go_roundw
          case rel => exact ⟨k + 1, by omega, by go_num, HROW.out.eq (fun j _ => upTo_skip _ k HS.out j), HM.out⟩
          case measure => simp [intOf]; omega
    · obtain rfl : k = many := by omega
      have HROW := Lib.hid (row.eq (f' := zsum na nb za zb) (fun j hj => if_pos hj))
      have HM := Lib.hid hmr
      have HBD : Hid (∀ j, j < k → zsum na nb za zb j ≤ 255 * 1099511627776) := by
        show ∀ j, _
        intro j _
        have h1 : zx na za j ≤ 255 := by unfold zx; by_cases e : j < na; rw [if_pos e]; exact HZA.out j e; rw [if_neg e]; omega
        have h2 : zx nb zb j ≤ 255 := by unfold zx; by_cases e : j < nb; rw [if_pos e]; exact HZB.out j e; rw [if_neg e]; omega
        show zx na za j + zx nb zb j ≤ _
        omega
      clear row hmr
      go_wp2_with fail
      refine (rcarried_any w.heap.size k k k (zsum na nb za zb) hm hm HBD.out _ HROW.out.dg).mono ?_
      rintro e w2 ⟨⟨g, rfl, hrow, hge⟩, m2⟩
      rw [le_zx_le _ _ _ (Nat.le_refl _), show le (zsum na nb za zb) k = le (zx na za) k + le (zx nb zb) k from le_add _ _ _] at hrow
      have HRF := Lib.hid hrow
      have HGE : Hid (w.heap.size ≤ g) := Nat.le_trans HM.out.size hge
      clear hrow hge
      go_wp2_with fail
      go_ret
      exact ⟨⟨g, rfl, HRF.out, HGE.out⟩, HM.out.tr m2⟩
end Go.Proofs.Ytfmfopbcgohdgaa
