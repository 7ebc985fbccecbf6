/- Lists of digits in memory; digits carried: the walk. -/
import Derived.Test.YtpnpmploaaenlaaMP8
import Derived.Test.YtpnpmploaaenlaaMN2
import Derived.Laws.MakeOwn
namespace Go.Proofs.Ytpnpmploaaenlaa
open Go.RowKit
set_option linter.unusedSimpArgs false
set_option linter.unusedVariables false

/-- The cells of n numbers, from the head of block b on. -/
def Dg (w : World) (b n : Nat) (z : Nat → Nat) : Prop := ∀ k, k < n → w.cell? ⟨b, k, none⟩ = some (.int .i64 ((z k : Nat) : Int))
theorem Dg.kept {w w' : World} {b n : Nat} {z : Nat → Nat} (h : Dg w b n z) (m : Mod (fun _ => False) w w') : Dg w' b n z := fun k hk => m.at (h k hk)
theorem Dg.drew {w : World} {b n : Nat} {z : Nat → Nat} (h : Dg w b n z) : Dg w.drew b n z := h
theorem Dg.eq {w : World} {b n : Nat} {z z' : Nat → Nat} (h : Dg w b n z) (e : ∀ k, k < n → z k = z' k) : Dg w b n z' := fun k hk => by rw [h k hk, e k hk]
theorem Dg.set {w : World} {b n : Nat} {z : Nat → Nat} (h : Dg w b n z) {p : Addr} (hp : p.block ≠ b) (u : Value) : Dg (w.setCell p u) b n z := fun k hk => by
  rw [World.cell?_of_block (w := w) (Below.heap_setCell _ _ _ _ (fun e => hp e.symm))]; exact h k hk
/-- Block g holds n numbers. -/
def IRow (w : World) (g n : Nat) (f : Nat → Nat) : Prop := ∃ cs T, w.heap[g]? = some (.cells cs T (0, 0)) ∧ n ≤ cs.size ∧ ∀ j, j < n → cs[j]? = some (.int .i64 ((f j : Nat) : Int))
section
variable {w : World} {g n : Nat} {f : Nat → Nat}
theorem IRow.cell (h : IRow w g n f) (j : Nat) (hj : j < n) : w.cell? ⟨g, j, none⟩ = some (.int .i64 ((f j : Nat) : Int)) := by
  obtain ⟨cs, T, hb, _, hc⟩ := h
  exact blk_cell hb (hc j hj)
theorem IRow.dg (h : IRow w g n f) : Dg w g n f := fun k hk => h.cell k hk
theorem IRow.free (h : IRow w g n f) (j : Nat) : w.frozen? ⟨g, j, none⟩ = false := by
  obtain ⟨cs, T, hb, _⟩ := h
  exact blk_free hb
theorem IRow.lt (h : IRow w g n f) : g < w.heap.size := by
  obtain ⟨cs, T, hb, _⟩ := h
  exact lt_of_block hb
theorem IRow.set' (h : IRow w g n f) (k x : Nat) (hk : k < n) (y : Int) (hy : y = (x : Int)) : IRow (w.setCell ⟨g, k, none⟩ (.int .i64 y)) g n (upd f k x) := by
  subst hy
  obtain ⟨cs, T, hb, hs, hc⟩ := h
  refine ⟨cs.setIfInBounds k (.int .i64 (x : Int)), T, set_block hb _, by simpa using hs, fun j hj => ?_⟩
  unfold upd
  by_cases e : j = k
  · subst e; rw [if_pos rfl]; simp [show j < cs.size by omega]
  · rw [if_neg e, Array.getElem?_setIfInBounds_ne (fun e' => e e'.symm), hc j hj]
theorem IRow.drew (h : IRow w g n f) : IRow w.drew g n f := h
theorem IRow.kept {S : Nat → Prop} {w' : World} (h : IRow w g n f) (m : Mod S w w') (hs : ¬ S g) : IRow w' g n f := by
  obtain ⟨cs, T, hb, r⟩ := h
  exact ⟨cs, T, m.blk hb hs, r⟩
theorem IRow.eq {f' : Nat → Nat} (h : IRow w g n f) (e : ∀ j, j < n → f j = f' j) : IRow w g n f' := by
  obtain ⟨cs, T, hb, hs, hc⟩ := h
  exact ⟨cs, T, hb, hs, fun j hj => by rw [hc j hj, e j hj]⟩
theorem IRow.alloc (h : IRow w g n f) (o : Obj) : IRow (w.alloc o) g n f := h.kept ((Mod.refl (fun _ => False) w).alloc o) (fun e => e)
end
theorem info3 : (Try.prog.info? 3).map (fun i => (i.zero, i.size, i.bytes)) = some (some (.int .i64 0), 1, 8) := by kernel_rfl
theorem made_ints (n j : Nat) (hj : j < n) : (madeCells (Value.int .i64 0).cells n)[j]? = some (.int .i64 0) := by
  have hc : (Value.int .i64 0).cells = #[.int .i64 0] := rfl
  unfold madeCells
  rw [hc]
  simp [hj, Nat.mod_one]
/-- 'make': n noughts. -/
theorem make_ints (n : Nat) (hn : n ≤ 1000000) (w : World) : ∃ Z, (Instr.makeSlice 47 (.int .i64 (n : Int)) (.int .i64 (n : Int))).run Try.prog w = .ok (.slice (some ⟨w.heap.size, 0, none⟩) n n) (w.alloc (.cells Z 3)) ∧
    IRow (w.alloc (.cells Z 3)) w.heap.size n (fun _ => 0) := by
  obtain ⟨i, hi, hz, hs, hb⟩ := info_parts info3
  have h := run_make (P := Try.prog) w 47 3 i (.int .i64 0) Try.underlying47 hi hz .i64 .i64 (n : Int) (n : Int) (by omega) (by omega) (by rw [hb]; omega) (by omega)
  rw [hs] at h
  simp only [Int.toNat_natCast, Nat.mul_one] at h
  refine ⟨_, h, _, 3, new_block _ _ _ _ rfl, ?_, fun j hj => made_ints n j hj⟩
  have : ∀ m, (madeCells (Value.int .i64 0).cells m).size = m := fun m => by unfold madeCells; simp
  rw [this]; exact Nat.le_refl _
theorem i64_mask255 (n : Nat) (h : n < 9223372036854775808) : bits BinOp.and IntKind.i64 (n : Int) 255 = ((n % 256 : Nat) : Int) := by
  rw [i64_and255]; omega
def upTo (f : Nat → Nat) (k j : Nat) : Nat := if j < k then f j else 0
theorem upTo_upd (f : Nat → Nat) (k x : Nat) (hx : x = f k) (j : Nat) : upd (upTo f k) k x j = upTo f (k + 1) j := by
  unfold upd upTo
  by_cases e : j = k
  · subst e; rw [if_pos rfl, if_pos (by omega), hx]
  · rw [if_neg e]
    by_cases e2 : j < k
    · rw [if_pos e2, if_pos (by omega)]
    · rw [if_neg e2, if_neg (by omega)]
set_option maxRecDepth 100000 in
set_option maxHeartbeats 2000000 in
theorem rcarried_any (b n c many : Nat) (z : Nat → Nat) (hn : n ≤ 1000000) (hm : many ≤ 1000000) (hz : ∀ k, k < n → z k ≤ 255 * 1099511627776) (w : World) (hd : Dg w b n z) :
    Calls Try.prog 76 #[.slice (some ⟨b, 0, none⟩) n c, .int .i64 (many : Int)] w fun e w' => (∃ g, e = .returned (.slice (some ⟨g, 0, none⟩) many many) ∧ IRow w' g many (dgt (le (zx n z) many)) ∧ w.heap.size ≤ g) ∧ Mod (fun _ => False) w w' := by
  obtain ⟨Z, hmk, hrow⟩ := make_ints many hm w
  have HR := Lib.hid hrow
  have HD := Lib.hid hd
  have HZ := Lib.hid hz
  clear hrow hd hz
  go_enter Try.func76, Try.ntmps76
  go_wp2_with fail
  clear hmk
  go_loopw [6, 7] (fun cr i wr => ∃ k : Nat, k ≤ many ∧ i = .int .i64 (k : Int) ∧ cr = .int .i64 ((car (zx n z) k : Nat) : Int) ∧ IRow wr w.heap.size many (upTo (dgt (le (zx n z) many)) k) ∧ Mod (fun _ => False) w wr) (fun _ i _ => many - (intOf i).toNat)
  case atStart => exact ⟨0, by omega, rfl, rfl, HR.out.eq (fun j _ => (if_neg (by omega)).symm), (Mod.refl _ _).alloc _⟩
  case round =>
    obtain ⟨k, hk, rfl, rfl, row, hmr⟩ := hrel
    by_cases hlt : k < many
    · have hk0 : (0 : Int) ≤ (k : Int) := by omega
      have hk2 : (k : Int) < (many : Int) := by omega
      have hcl : car (zx n z) k ≤ 1099511627776 := car_lt (zx n z) 1099511627776 (fun i => by unfold zx; by_cases e : i < n; rw [if_pos e]; exact HZ.out i e; rw [if_neg e]; omega) k
      have hF := row.free k
      have hC := row.cell k hlt
      have HROW := Lib.hid row
      have HM := Lib.hid hmr
      clear row hmr
      have HD1 : Hid ((car (zx n z) k + zx n z k) % 256 = dgt (le (zx n z) many) k) := car_dgt (zx n z) many k hlt
      have HC1 : Hid ((car (zx n z) k + zx n z k) / 256 = car (zx n z) (k + 1)) := rfl
      have HUP : Hid (∀ x, x = dgt (le (zx n z) many) k → ∀ j, upd (upTo (dgt (le (zx n z) many)) k) k x j = upTo (dgt (le (zx n z) many)) (k + 1) j) := by
        exact fun x hx j => upTo_upd _ k x hx j
      generalize car (zx n z) k = C at *
      by_cases hin : k < n
      · have hin2 : (k : Int) < (n : Int) := by omega
        have hX := (HD.out.kept HM.out) k hin
        have hxb := HZ.out k hin
        rw [show zx n z k = z k from if_pos hin] at HD1 HC1
        generalize z k = X at *
        have hand : bits BinOp.and IntKind.i64 ((C : Int) + (X : Int)) 255 = (((C + X) % 256 : Nat) : Int) := by
          rw [show (C : Int) + (X : Int) = ((C + X : Nat) : Int) by omega]; exact i64_mask255 _ (by omega)
        rw [HD1.out] at hand
        have HDv : Hid (∃ x, dgt (le (zx n z) many) k = x) := ⟨_, rfl⟩
        obtain ⟨D, hD⟩ := HDv.out
        have HD2 := Lib.hid hD
        rw [hD] at hand
        clear hD HDv
        have HW : Hid (IRow (wr.setCell ⟨w.heap.size, k, none⟩ (.int .i64 (D : Int))) w.heap.size many (upTo (dgt (le (zx n z) many)) (k + 1)) ∧ Mod (fun _ => False) w (wr.setCell ⟨w.heap.size, k, none⟩ (.int .i64 (D : Int)))) :=
          ⟨(HROW.out.set' k D hlt _ rfl).eq (fun j _ => HUP.out D HD2.out.symm j), HM.out.setCell (fun hh => absurd hh (Nat.lt_irrefl _)) _⟩
        have HCC : Hid ((.int .i64 (((C : Int) + (X : Int)) / 256) : Value) = .int .i64 ((car (zx n z) (k + 1) : Nat) : Int)) := by
          show _ = _
          rw [← HC1.out, show (((C + X) / 256 : Nat) : Int) = ((C : Int) + (X : Int)) / 256 by omega]
        go_wp2_with fail
        go_roundw
        case rel => exact ⟨k + 1, by omega, by go_num, HCC.out, HW.out⟩
        case measure => simp [intOf]; omega
      · have hin2 : ¬ (k : Int) < (n : Int) := by omega
        rw [show zx n z k = 0 from if_neg hin, Nat.add_zero] at HD1 HC1
        have hand : bits BinOp.and IntKind.i64 (C : Int) 255 = ((C % 256 : Nat) : Int) := i64_mask255 _ (by omega)
        rw [HD1.out] at hand
        have HDv : Hid (∃ x, dgt (le (zx n z) many) k = x) := ⟨_, rfl⟩
        obtain ⟨D, hD⟩ := HDv.out
        have HD2 := Lib.hid hD
        rw [hD] at hand
        clear hD HDv
        have HW : Hid (IRow (wr.setCell ⟨w.heap.size, k, none⟩ (.int .i64 (D : Int))) w.heap.size many (upTo (dgt (le (zx n z) many)) (k + 1)) ∧ Mod (fun _ => False) w (wr.setCell ⟨w.heap.size, k, none⟩ (.int .i64 (D : Int)))) :=
          ⟨(HROW.out.set' k D hlt _ rfl).eq (fun j _ => HUP.out D HD2.out.symm j), HM.out.setCell (fun hh => absurd hh (Nat.lt_irrefl _)) _⟩
        have HCC : Hid ((.int .i64 ((C : Int) / 256) : Value) = .int .i64 ((car (zx n z) (k + 1) : Nat) : Int)) := by
          show _ = _
          rw [← HC1.out, show ((C / 256 : Nat) : Int) = (C : Int) / 256 by omega]
        go_wp2_with fail
        go_roundw
        case rel => exact ⟨k + 1, by omega, by go_num, HCC.out, HW.out⟩
        case measure => simp [intOf]; omega
    · obtain rfl : k = many := by omega
      have HROW := Lib.hid (row.eq (f' := dgt (le (zx n z) k)) (fun j hj => if_pos hj))
      have HM := Lib.hid hmr
      clear row hmr
      go_wp2_with fail
      go_ret
      exact ⟨⟨_, rfl, HROW.out, Nat.le_refl _⟩, HM.out⟩
end Go.Proofs.Ytpnpmploaaenlaa
