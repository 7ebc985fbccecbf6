/- ClockRises: stamps rise. -/
import Derived.Test.YtlphfkigjkebfaaHeld
import Derived.Test.YtlphfkigjkebfaaBm
import Derived.Test.YtlphfkigjkebfaaOrd
import Derived.LoopTactic
import Derived.Lib.Hide
namespace Go.Proofs.Ytlphfkigjkebfaa
open Go.RowKit
set_option linter.unusedSimpArgs false
set_option linter.unusedVariables false

/-- The cells of n stamps. -/
def Stamps (w : World) (a : Option Addr) (n : Nat) (z : Nat → Int × Int) : Prop :=
  ∀ k, k < n → ∃ b off, a = some ⟨b, off, none⟩ ∧ w.cell? ⟨b, off + k * 2, none⟩ = some (.int .i64 (z k).1) ∧ w.cell? ⟨b, off + k * 2 + 1, none⟩ = some (.int .i64 (z k).2)

theorem cell_old {w : World} {b : Nat} (hb : b < w.heap.size) (off : Nat) {o : Obj} : (w.alloc o).cell? ⟨b, off, none⟩ = w.cell? ⟨b, off, none⟩ :=
  World.cell?_of_block (Below.heap_alloc w o b hb)

theorem set_block {w : World} {b o : Nat} {cs : Array Value} {T : TypeId} (h : w.heap[b]? = some (.cells cs T (0, 0))) (u : Value) : (w.setCell ⟨b, o, none⟩ u).heap[b]? = some (.cells (cs.setIfInBounds o u) T (0, 0)) := by
  have hlt := lt_of_block h
  have h' : w.heap[b] = .cells cs T (0, 0) := by simpa [Array.getElem?_eq_getElem hlt] using h
  show (w.heap.modify b _)[b]? = _
  rw [Array.getElem?_eq_getElem (by simpa using hlt), Array.getElem_modify_self, h']
  simp
theorem new_block (w : World) (cs : Array Value) (T : TypeId) (b : Nat) (hb : b = w.heap.size) : (w.alloc (.cells cs T)).heap[b]? = some (.cells cs T (0, 0)) := by
  subst hb; show (w.heap.push _)[w.heap.size]? = _; simp
theorem Mod.blk {S : Nat → Prop} {w w' : World} {b : Nat} {o : Obj} (m : Mod S w w') (h : w.heap[b]? = some o) (hs : ¬ S b) : w'.heap[b]? = some o := (m.block b (lt_of_block h) hs).trans h
theorem blk_cell {w : World} {b o : Nat} {cs : Array Value} {T : TypeId} {v : Value} (h : w.heap[b]? = some (.cells cs T (0, 0))) (hv : cs[o]? = some v) : w.cell? ⟨b, o, none⟩ = some v := by
  unfold World.cell?; simp only [h]; simpa using hv
theorem blk_free {w : World} {b o : Nat} {cs : Array Value} {T : TypeId} (h : w.heap[b]? = some (.cells cs T (0, 0))) : w.frozen? ⟨b, o, none⟩ = false := by
  unfold World.frozen?; simp only [h]; simp
theorem mxI_le {a b : Int} : a ≤ mxI a b ∧ b ≤ mxI a b ∧ (mxI a b = a ∨ mxI a b = b) := by unfold mxI; split <;> omega

set_option maxHeartbeats 2000000 in
theorem rises_any (a : Option Addr) (n cap : Nat) (z : Nat → Int × Int) (w : World) (hn : n ≤ 9223372036854775807) (hz : Stamps w a n z) :
    Calls Try.prog 5 #[.slice a n cap] w fun e w' => e = .returned (.bool true) ∧ Mod (fun _ => False) w w' := by
  go_enter Try.func5, Try.ntmps5
  go_wp2_with fail
  refine (new_yes _ _ (by omega) (by omega)).mono ?_
  rintro e w1 ⟨rfl, rfl⟩
  have c1 := (Clk.new w 3 0).alloc (.cells #[.int .i64 0, .int .i64 0] 23)
  have l0 := cell_new' (w.alloc (.cells #[.int .i64 3, .int .i64 0] 45)) #[.int .i64 0, .int .i64 0] 23 0 _ (w.heap.size + 1) (by simp) rfl
  have l1 := cell_new' (w.alloc (.cells #[.int .i64 3, .int .i64 0] 45)) #[.int .i64 0, .int .i64 0] 23 1 _ (w.heap.size + 1) (by simp) rfl
  have m1 : Mod (fun _ => False) w ((w.alloc (.cells #[.int .i64 3, .int .i64 0] 45)).alloc (.cells #[.int .i64 0, .int .i64 0] 23)) := ((Mod.refl _ _).alloc _).alloc _
  go_wp2_with fail
  go_loopw [6] (fun i wr => ∃ (k : Nat) (t lt lw : Int), k ≤ n ∧ k ≤ 40 ∧ i = .int .i64 k ∧ Clk wr w.heap.size 3 t ∧ 0 ≤ t ∧ t ≤ 1073741824 + k ∧ lt ≤ t ∧ 
      wr.heap[w.heap.size + 1]? = some (.cells #[.int .i64 lt, .int .i64 lw] 23 (0, 0)) ∧ Mod (fun _ => False) w wr) (fun i _ => 40 - (intOf i).toNat)
  case atStart => exact ⟨0, 0, 0, 0, by omega, by omega, rfl, c1, by omega, by omega, by omega, new_block _ _ _ _ (by simp), m1⟩
  case round =>
    obtain ⟨k, t, lt, lw, hk1, hk2, rfl, c, ht0, ht1, hlt, hl, hm⟩ := hrel
    by_cases hlt1 : k < n
    · by_cases hlt2 : k < 40
      · obtain ⟨b, off, rfl, z0, z1⟩ := hz k hlt1
        have hb := World.block_lt_of_cell? w _ z0
        have hl0 : wr.cell? ⟨w.heap.size + 1, 0, none⟩ = some (.int .i64 lt) := by simp [World.cell?, hl]
        have hl1 : wr.cell? ⟨w.heap.size + 1, 1, none⟩ = some (.int .i64 lw) := by simp [World.cell?, hl]
        replace z0 := hm.at z0; replace z1 := hm.at z1
        clear l0 l1 c1 m1 hz
        have hbW := World.block_lt_of_cell? wr _ z0
        obtain ⟨A, hA, hA0, hA1⟩ : ∃ A, bits BinOp.and IntKind.i64 (z k).1 1073741823 = A ∧ 0 ≤ A ∧ A < 1073741824 := ⟨_, i64_and1073741823 _, by omega, by omega⟩
        obtain ⟨B, hB, hB0, hB1⟩ : ∃ B, bits BinOp.and IntKind.i64 (z k).2 1 = B ∧ 0 ≤ B ∧ B < 2 := ⟨_, i64_and1 _, by omega, by omega⟩
        have hA2 : IntKind.i64.wrap (1 + A) = 1 + A := IntWalk.i64_in _ (by omega)
        have hB2 : IntKind.i64.wrap (1 + B) = 1 + B := IntWalk.i64_in _ (by omega)
        have hi0 : (0 : Int) ≤ (k : Int) := by omega
        have hi1 : (k : Int) < (n : Int) := by omega
        go_wp2_with fail
        refine wp_region_held_drew (S := (fun w' => w'.cell? ⟨b, off + k * 2, none⟩ = some (.int .i64 (z k).1) ∧ w'.cell? ⟨b, off + k * 2 + 1, none⟩ = some (.int .i64 (z k).2))) (by kernel_rfl) ⟨z0, z1⟩ (fun hHeld => ?_)
        refine held_take 0 31 (v := ?_) rfl rfl (by kernel_rfl) (by kernel_rfl) (by kernel_rfl) (fun _ _ _ _ h => h) (by rfl) ?_ hHeld ?_
        rotate_left; · (intro w hSw; clear hSw; go_simp; first | done | with_reducible rfl)
        simp only [List.setIfInBounds_toArray, List.set_cons_zero, List.set_cons_succ]
        refine held_take 1 32 (v := ?_) rfl rfl (by kernel_rfl) (by kernel_rfl) (by kernel_rfl) (fun _ _ _ _ h => h) (by rfl) ?_ hHeld ?_
        rotate_left; · (intro w hSw; clear hSw; go_simp; first | done | with_reducible rfl)
        simp only [List.setIfInBounds_toArray, List.set_cons_zero, List.set_cons_succ]
        refine held_take 2 33 (v := ?_) rfl rfl (by kernel_rfl) (by kernel_rfl) (by kernel_rfl) (fun _ _ _ _ h => h) (by rfl) ?_ hHeld ?_
        rotate_left; · (intro w hSw; clear hSw; go_simp; first | done | with_reducible rfl)
        simp only [List.setIfInBounds_toArray, List.set_cons_zero, List.set_cons_succ]
        refine held_take 3 34 (v := ?_) rfl rfl (by kernel_rfl) (by kernel_rfl) (by kernel_rfl) (fun _ _ _ _ h => h) (by rfl) ?_ hHeld ?_
        rotate_left; · (intro w hSw; clear hSw; go_simp; first | done | with_reducible rfl)
        simp only [List.setIfInBounds_toArray, List.set_cons_zero, List.set_cons_succ]
        refine held_take 4 35 (v := ?_) rfl rfl (by kernel_rfl) (by kernel_rfl) (by kernel_rfl) (fun _ _ _ _ h => h) (by rfl) ?_ hHeld ?_
        rotate_left; · (intro w hSw; obtain ⟨hS0, hS1⟩ := hSw; go_simp; first | done | with_reducible rfl)
        simp only [List.setIfInBounds_toArray, List.set_cons_zero, List.set_cons_succ]
        refine held_take 5 36 (v := ?_) rfl rfl (by kernel_rfl) (by kernel_rfl) (by kernel_rfl) (fun _ _ _ _ h => h) (by rfl) ?_ hHeld ?_
        rotate_left; · (intro w hSw; clear hSw; go_simp; first | done | with_reducible rfl)
        simp only [List.setIfInBounds_toArray, List.set_cons_zero, List.set_cons_succ]
        refine held_take 6 37 (v := ?_) rfl rfl (by kernel_rfl) (by kernel_rfl) (by kernel_rfl) (fun _ _ _ _ h => h) (by rfl) ?_ hHeld ?_
        rotate_left; · (intro w hSw; clear hSw; go_simp; first | done | with_reducible rfl)
        simp only [List.setIfInBounds_toArray, List.set_cons_zero, List.set_cons_succ]
        refine held_take 7 38 (v := ?_) rfl rfl (by kernel_rfl) (by kernel_rfl) (by kernel_rfl) (fun _ _ _ _ h => h) (by rfl) ?_ hHeld ?_
        rotate_left; · (intro w hSw; clear hSw; go_simp; first | done | with_reducible rfl)
        simp only [List.setIfInBounds_toArray, List.set_cons_zero, List.set_cons_succ]
        refine held_take 8 39 (v := ?_) rfl rfl (by kernel_rfl) (by kernel_rfl) (by kernel_rfl) (fun _ _ _ _ h => h) (by rfl) ?_ hHeld ?_
        rotate_left; · (intro w hSw; clear hSw; go_simp; first | done | with_reducible rfl)
        simp only [List.setIfInBounds_toArray, List.set_cons_zero, List.set_cons_succ]
        refine held_take 9 40 (v := ?_) rfl rfl (by kernel_rfl) (by kernel_rfl) (by kernel_rfl) (fun _ _ _ _ h => h) (by rfl) ?_ hHeld ?_
        rotate_left; · (intro w hSw; clear hSw; go_simp; first | done | with_reducible rfl)
        simp only [List.setIfInBounds_toArray, List.set_cons_zero, List.set_cons_succ]
        refine held_take 10 41 (v := ?_) rfl rfl (by kernel_rfl) (by kernel_rfl) (by kernel_rfl) (fun _ _ _ _ h => h) (by rfl) ?_ hHeld ?_
        rotate_left; · (intro w hSw; clear hSw; go_simp; first | done | with_reducible rfl)
        simp only [List.setIfInBounds_toArray, List.set_cons_zero, List.set_cons_succ]
        refine held_take 11 42 (v := ?_) rfl rfl (by kernel_rfl) (by kernel_rfl) (by kernel_rfl) (fun _ _ _ _ h => h) (by rfl) ?_ hHeld ?_
        rotate_left; · (intro w hSw; obtain ⟨hS0, hS1⟩ := hSw; go_simp; first | done | with_reducible rfl)
        simp only [List.setIfInBounds_toArray, List.set_cons_zero, List.set_cons_succ]
        refine held_take 12 43 (v := ?_) rfl rfl (by kernel_rfl) (by kernel_rfl) (by kernel_rfl) (fun _ _ _ _ h => h) (by rfl) ?_ hHeld ?_
        rotate_left; · (intro w hSw; clear hSw; go_simp; first | done | with_reducible rfl)
        simp only [List.setIfInBounds_toArray, List.set_cons_zero, List.set_cons_succ]
        refine held_take 13 44 (v := ?_) rfl rfl (by kernel_rfl) (by kernel_rfl) (by kernel_rfl) (fun _ _ _ _ h => h) (by rfl) ?_ hHeld ?_
        rotate_left; · (intro w hSw; clear hSw; go_simp; first | done | with_reducible rfl)
        simp only [List.setIfInBounds_toArray, List.set_cons_zero, List.set_cons_succ]
        refine held_take 14 45 (v := ?_) rfl rfl (by kernel_rfl) (by kernel_rfl) (by kernel_rfl) (fun _ _ _ _ h => h) (by rfl) ?_ hHeld ?_
        rotate_left; · (intro w hSw; clear hSw; go_simp; first | done | with_reducible rfl)
        simp only [List.setIfInBounds_toArray, List.set_cons_zero, List.set_cons_succ]
        refine held_make 15 7 rfl rfl (by kernel_rfl) (by rfl) (v := ?_) (w' := ?_) ?_ ?_ (fun hNew => ?_)
        rotate_left 2; · (go_simp; first | done | with_reducible rfl | (constructor <;> with_reducible rfl))
        · exact ⟨(cell_old hbW _).trans hHeld.1, (cell_old hbW _).trans hHeld.2⟩
        clear hHeld; have hHeld := hNew; clear hNew
        simp only [List.setIfInBounds_toArray, List.set_cons_zero, List.set_cons_succ]
        refine held_store 16 rfl rfl (by kernel_rfl) (by rfl) (w' := ?_) ?_ ?_ (fun hNew => ?_)
        rotate_left 1; · (go_simp; first | done | with_reducible rfl | (constructor <;> with_reducible rfl))
        · exact ⟨(cell_old hbW _).trans z0, (cell_old hbW _).trans z1⟩
        clear hHeld; have hHeld := hNew; clear hNew
        refine wpAnyH_done (by kernel_rfl) ?_ _
        clear hHeld hA hB hA2 hB2 z0 z1 hbW
        have c1 := ((c.alloc (.cells #[.int .i64 (1 + A), .int .i64 (1 + B)] 23))).drew
        have s1 := new_block wr #[.int .i64 (1 + A), .int .i64 (1 + B)] 23 _ rfl
        have m1 := (hm.alloc (.cells #[.int .i64 (1 + A), .int .i64 (1 + B)] 23)).drew
        have hl1 : (wr.alloc (.cells #[.int .i64 (1 + A), .int .i64 (1 + B)] 23)).drew.heap[w.heap.size + 1]? = some (.cells #[.int .i64 lt, .int .i64 lw] 23 (0, 0)) := ((Mod.refl (fun _ => False) wr).alloc _).drew.blk hl (fun e => e)
        have hz1 : w.heap.size + 1 < wr.heap.size := lt_of_block hl
        clear hl hm c hl0
        go_wp2_with fail
        refine (see_yes _ _ _ _ _ _ c1 (by omega) (mayB_yes (by omega) (by omega) (by omega) (by omega))).mono ?_
        rintro e w2 ⟨rfl, c2, m2⟩
        obtain ⟨q1, q2, q3⟩ := @mxI_le t (1 + A)
        have s2 := m2.blk s1 (fun e => by omega)
        have l2 := m2.blk hl1 (fun e => by omega)
        replace m2 := m1.trans m2 (U := fun _ => False) (fun _ e => e) (fun _ h e => by omega)
        generalize mxI t (1 + A) = t2 at *
        have q4 : t2 ≤ 1073741824 + (k : Int) := by omega
        clear m1 s1 hl1 c1 q3
        have s20 := blk_cell s2 (o := 0) rfl
        have s21 := blk_cell s2 (o := 1) rfl
        go_wp2_with fail
        refine (next_yes _ _ _ _ c2 (by omega) (by omega) (by omega)).mono ?_
        rintro e w3 ⟨rfl, c3, m3⟩
        have s3 := m3.blk s2 (fun e => by omega)
        have l3 := m3.blk l2 (fun e => by omega)
        replace m3 := m2.trans m3 (U := fun _ => False) (fun _ e => e) (fun _ h e => by omega)
        clear s2 l2 m2 c2 s20 s21
        have t3 := new_block w3 #[.int .i64 (t2 + 1), .int .i64 3] 23 _ rfl
        have hz3 : wr.heap.size < w3.heap.size := lt_of_block s3
        have s4 := ((Mod.refl (fun _ => False) w3).alloc (.cells #[.int .i64 (t2 + 1), .int .i64 3] 23)).blk s3 (fun e => e)
        have l4 := ((Mod.refl (fun _ => False) w3).alloc (.cells #[.int .i64 (t2 + 1), .int .i64 3] 23)).blk l3 (fun e => e)
        have c4 := c3.alloc (.cells #[.int .i64 (t2 + 1), .int .i64 3] 23)
        have m4 := m3.alloc (.cells #[.int .i64 (t2 + 1), .int .i64 3] 23)
        have s40 := blk_cell s3 (o := 0) rfl
        have s41 := blk_cell s3 (o := 1) rfl
        clear s3 l3 c3 m3
        go_wp2_with fail
        refine (less_any _ _ _ _ _).mono ?_
        rintro e w5 ⟨rfl, m5⟩
        rw [lessB_yes (by omega)]
        replace t3 := m5.blk t3 (fun e => e); replace s4 := m5.blk s4 (fun e => e); replace l4 := m5.blk l4 (fun e => e); replace c4 := c4.kept m5 (fun e => e)
        replace m4 := m4.trans m5 (U := fun _ => False) (fun _ e => e) (fun _ _ e => e)
        clear m5 s40 s41
        have t30 := blk_cell t3 (o := 0) rfl
        have t31 := blk_cell t3 (o := 1) rfl
        have l40 := blk_cell l4 (o := 0) rfl
        have l41 := blk_cell l4 (o := 1) rfl
        go_wp2_with fail
        refine (less_any _ _ _ _ _).mono ?_
        rintro e w6 ⟨rfl, m6⟩
        rw [lessB_yes (by omega)]
        replace t3 := m6.blk t3 (fun e => e); replace l4 := m6.blk l4 (fun e => e); replace c4 := c4.kept m6 (fun e => e)
        replace m4 := m4.trans m6 (U := fun _ => False) (fun _ e => e) (fun _ _ e => e)
        clear m6 t30 t31 l40 l41 s4
        have t30 := blk_cell t3 (o := 0) rfl
        have t31 := blk_cell t3 (o := 1) rfl
        go_wp2_with fail
        refine (check_any _ _ _).mono ?_
        rintro e w7 ⟨rfl, m7⟩
        rw [mayB_yes (by omega) (by omega) (by omega) (by omega), show errOf true = 0 from rfl]
        replace t3 := m7.blk t3 (fun e => e); replace l4 := m7.blk l4 (fun e => e); replace c4 := c4.kept m7 (fun e => e)
        replace m4 := m4.trans m7 (U := fun _ => False) (fun _ e => e) (fun _ _ e => e)
        clear m7 t30 t31
        have t30 := blk_cell t3 (o := 0) rfl
        have t31 := blk_cell t3 (o := 1) rfl
        have l40 := blk_cell l4 (o := 0) rfl
        have l41 := blk_cell l4 (o := 1) rfl
        have f40 := blk_free l4 (o := 0)
        have f41 := blk_free l4 (o := 1)
        go_wp2_with fail
        go_roundw
        case rel =>
          refine ⟨k + 1, t2 + 1, t2 + 1, 3, by omega, by omega, by go_num, ?_, by omega, by omega, by omega, set_block (set_block l4 _) _, ?_⟩
          · exact (c4.kept (S := (· = w.heap.size + 1)) (((Mod.refl _ _).setCell (by intro _; rfl) _).setCell (by intro _; rfl) _) (fun (e : _ = _) => by omega))
          · exact (m4.setCell (fun (h : _ < _) => by simp at h; omega) _).setCell (fun (h : _ < _) => by simp at h; omega) _
        case measure => simp [intOf]; omega
      · have hm' := hm
        clear c hm hl l0 l1 c1 m1 hz ht0 ht1 hlt
        go_wp2_with fail
        refine (awake_any _).mono ?_
        rintro e w6 ⟨rfl, m6⟩
        go_wp2_with fail
        go_ret
        exact ⟨rfl, hm'.trans m6 (fun _ e => e) (fun _ _ e => e)⟩
    · have hm' := hm
      clear c hm hl l0 l1 c1 m1 hz ht0 ht1 hlt
      go_wp2_with fail
      refine (awake_any _).mono ?_
      rintro e w6 ⟨rfl, m6⟩
      go_wp2_with fail
      go_ret
      exact ⟨rfl, hm'.trans m6 (fun _ e => e) (fun _ _ e => e)⟩
end Go.Proofs.Ytlphfkigjkebfaa
