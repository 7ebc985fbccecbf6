/- Numbers of five limbs in memory. -/
import Derived.Test.YtpnpmploaaenlaaRows
import Derived.Test.YtpnpmploaaenlaaMBase
import Derived.Laws.BitsLemmas
import Derived.Laws.BitsAllLaws
import Derived.Laws.Rows
import Derived.IntWalk
namespace Go.Proofs.Ytpnpmploaaenlaa
open Go.RowKit
set_option linter.unusedSimpArgs false
set_option linter.unusedVariables false

/-- Five limbs. -/
abbrev fiveV (f : Nat → Nat) : Array Value := #[.int .u64 ((f 0 : Nat) : Int), .int .u64 ((f 1 : Nat) : Int), .int .u64 ((f 2 : Nat) : Int), .int .u64 ((f 3 : Nat) : Int), .int .u64 ((f 4 : Nat) : Int)]
def Num (w : World) (g : Nat) (f : Nat → Nat) : Prop := w.heap[g]? = some (.cells (fiveV f) 61 (0, 0))
def upd (f : Nat → Nat) (k x : Nat) : Nat → Nat := fun j => if j = k then x else f j
section
variable {w : World} {g : Nat} {f : Nat → Nat}
theorem Num.lt (h : Num w g f) : g < w.heap.size := lt_of_block h
theorem five_get (f : Nat → Nat) (k : Nat) (hk : k < 5) : (fiveV f)[k]? = some (.int .u64 ((f k : Nat) : Int)) := by
  have h : k = 0 ∨ k = 1 ∨ k = 2 ∨ k = 3 ∨ k = 4 := by omega
  rcases h with rfl | rfl | rfl | rfl | rfl <;> rfl
theorem Num.cell (h : Num w g f) (k : Nat) (hk : k < 5) : w.cell? ⟨g, k, none⟩ = some (.int .u64 ((f k : Nat) : Int)) := blk_cell h (five_get f k hk)
theorem Num.free (h : Num w g f) (k : Nat) : w.frozen? ⟨g, k, none⟩ = false := blk_free h
theorem Num.kept {S : Nat → Prop} {w' : World} (h : Num w g f) (m : Mod S w w') (hs : ¬ S g) : Num w' g f := m.blk h hs
theorem Num.drew (h : Num w g f) : Num w.drew g f := h
theorem Num.set (h : Num w g f) (k x : Nat) (hk : k < 5) : Num (w.setCell ⟨g, k, none⟩ (.int .u64 (x : Int))) g (upd f k x) := by
  have := set_block h (o := k) (.int .u64 (x : Int))
  unfold Num
  rw [this]
  have h : k = 0 ∨ k = 1 ∨ k = 2 ∨ k = 3 ∨ k = 4 := by omega
  rcases h with rfl | rfl | rfl | rfl | rfl <;> rfl
theorem Num.set' (h : Num w g f) (k x : Nat) (hk : k < 5) (y : Int) (hy : y = (x : Int)) : Num (w.setCell ⟨g, k, none⟩ (.int .u64 y)) g (upd f k x) := by subst hy; exact h.set k x hk
theorem Num.other (h : Num w g f) {p : Addr} (hp : p.block ≠ g) (u : Value) : Num (w.setCell p u) g f := (Below.heap_setCell _ _ _ _ (fun e => hp e.symm)).trans h
theorem Num.alloc (h : Num w g f) (o : Obj) : Num (w.alloc o) g f := (Below.heap_alloc _ _ _ h.lt).trans h
theorem Num.eq {f' : Nat → Nat} (h : Num w g f) (e : ∀ k, k < 5 → f k = f' k) : Num w g f' := by
  unfold Num fiveV at h ⊢
  rw [h, e 0 (by omega), e 1 (by omega), e 2 (by omega), e 3 (by omega), e 4 (by omega)]
theorem Num.new (w : World) (f : Nat → Nat) (g : Nat) (hg : g = w.heap.size) : Num (w.alloc (.cells (fiveV f) 61)) g f := new_block w _ _ g hg
end
theorem Num.row {w : World} {g : Nat} {f : Nat → Nat} (h : Num w g f) (f' : Nat → Nat) : Num (w.setRow g (fiveV f')) g f' := setRow_heap w g _ _ _ _ h
theorem Mod.row {S : Nat → Prop} {a w : World} (h : Mod S a w) {g : Nat} (hg : g < a.heap.size → S g) (cs : Array Value) : Mod S a (w.setRow g cs) :=
  ⟨h.os, h.tape, h.output, Nat.le_trans h.size (by simp [World.setRow]), fun k hk hs => by
    rw [setRow_other w g k _ (fun e => hs (by subst e; exact hg hk))]; exact h.block k hk hs⟩
theorem five_one (f : Nat → Nat) : (fiveV f).all (·.oneCell') = true := by simp [fiveV, Value.oneCell']
theorem ret_i64 {a b : Int} (h : a = b) : Ending.returned (.int .i64 a) = .returned (.int .i64 b) := by rw [h]
theorem Mod.drewN {S : Nat → Prop} (w : World) (n : Nat) : Mod S w (w.drewN n) := ⟨rfl, rfl, rfl, Nat.le_refl _, fun _ _ _ => rfl⟩
theorem u64_in' (n : Nat) (h : n < 18446744073709551616) : IntKind.u64.wrap (n : Int) = (n : Int) := by rw [IntKind.wrap_u64]; omega
def mix (f h : Nat → Nat) (k : Nat) : Nat → Nat := fun j => if j < k then f j + h j else f j
theorem mix_upd (f h : Nat → Nat) (k : Nat) (j : Nat) : upd (mix f h k) k (f k + h k) j = mix f h (k + 1) j := by
  unfold upd mix
  by_cases e : j = k
  · subst e; rw [if_pos rfl, if_pos (by omega)]
  · rw [if_neg e]
    by_cases e2 : j < k
    · rw [if_pos e2, if_pos (by omega)]
    · rw [if_neg e2, if_neg (by omega)]
set_option maxRecDepth 100000 in
set_option maxHeartbeats 1000000 in
theorem add_any (f p : Nat → Nat) (hb : ∀ j, j < 5 → f j + p j < 18446744073709551616) (w : World) :
    Calls Try.prog 41 #[.agg (fiveV f), .agg (fiveV p)] w fun e w' => e = .returned (.agg (fiveV fun j => f j + p j)) ∧ Mod (fun _ => False) w w' := by
  have HB := Lib.hid hb
  clear hb
  go_enter Try.func41, Try.ntmps41
  go_wp2_with fail
  go_loopw [6] (fun i wr => ∃ k : Nat, k ≤ 5 ∧ i = .int .i64 (k : Int) ∧ Num wr w.heap.size (mix f p k) ∧ Num wr (w.heap.size + 1) p ∧ Num wr (w.heap.size + 1 + 1) (fun _ => 0) ∧ Mod (fun _ => False) w wr) (fun i _ => 5 - (intOf i).toNat)
  case atStart =>
    refine ⟨0, by omega, rfl, ?_, ?_, ?_, ((Mod.refl _ _).alloc _).alloc _ |>.alloc _⟩
    · exact ((Num.new w (mix f p 0) _ rfl).alloc _).alloc _
    · exact (Num.new _ p _ (by simp)).alloc _
    · exact Num.new _ (fun _ => 0) _ (by simp)
  case round =>
    obtain ⟨k, hk, rfl, n0, n1, n2, hm⟩ := hrel
    by_cases hlt : k < 5
    · have hi0 : (0 : Int) ≤ (k : Int) := by omega
      have hlt2 : (k : Int) < 5 := by omega
      have hX := n0.cell k hlt
      rw [show mix f p k k = f k by unfold mix; rw [if_neg (by omega)]] at hX
      have hY := n1.cell k hlt
      have hF := n0.free k
      have hz := HB.out k hlt
      have HN := Lib.hid n0
      have HM := Lib.hid hm
      clear n0 hm
      generalize hfk : f k = X at *
      generalize hhk : p k = Y at *
      have Hfk := Lib.hid hfk
      have Hhk := Lib.hid hhk
      clear hfk hhk
      go_wp2_with fail
      go_region
      have HN2 : Hid (Num ((wr.setCell ⟨w.heap.size, k, none⟩ (.int .u64 ((X : Int) + (Y : Int)))).drew) w.heap.size (mix f p (k + 1))) := by
        refine Num.eq (f := upd (mix f p k) k (X + Y)) ?_ (fun j _ => ?_)
        · exact (HN.out.set' k (X + Y) hlt _ (by omega)).drew
        · have := mix_upd f p k j
          rw [Hfk.out, Hhk.out] at this
          exact this
      have M2 := (HM.out.setCell (p := ⟨w.heap.size, k, none⟩) (fun hh => absurd hh (Nat.lt_irrefl _)) (.int .u64 ((X : Int) + (Y : Int)))).drew
      have N1 := (n1.other (p := ⟨w.heap.size, k, none⟩) (by simp) (.int .u64 ((X : Int) + (Y : Int)))).drew
      have N2 := (n2.other (p := ⟨w.heap.size, k, none⟩) (by simp; omega) (.int .u64 ((X : Int) + (Y : Int)))).drew
      have HZ := Lib.hid (And.intro M2 (And.intro N1 N2))
      clear M2 N1 N2 n1 n2 hX hY hF hz
      go_wp2_with fail
      go_roundw
      case rel => exact ⟨k + 1, by omega, by go_num, HN2.out, HZ.out.2.1, HZ.out.2.2, HZ.out.1⟩
      case measure => simp [intOf]; omega
    · obtain rfl : k = 5 := by omega
      have hm5 : Num wr w.heap.size (fun j => f j + p j) := n0.eq (fun j hj => by unfold mix; rw [if_pos hj])
      clear n0 n1
      have HN := Lib.hid hm5
      have HZ := Lib.hid n2
      clear hm5 n2
      go_wp2_with (first | (refine wpList_load_row rfl 61 (.tmp 2) rfl _ rfl _ _ _ _ HN.out Try.underlying61 rfl (by kernel_rfl) ?_) | (refine wpList_store_row rfl 61 (.tmp 4) (.tmp 18) rfl _ _ rfl rfl _ _ HZ.out (by kernel_rfl) rfl (five_one _) ?_))
      exact bodyPost_ret (v := .agg (fiveV fun j => f j + p j)) (results_cell_row (P := Try.prog) (fn := Try.f41) (p := 4) (ty := 61) rfl _ _ _ _ _ _ _ rfl (HZ.out.row _) Try.underlying61 rfl (by kernel_rfl)) rfl ⟨rfl, hm.row (fun hh => by omega) _⟩
end Go.Proofs.Ytpnpmploaaenlaa
