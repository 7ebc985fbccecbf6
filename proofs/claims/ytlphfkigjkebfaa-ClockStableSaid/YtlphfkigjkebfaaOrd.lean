/- ClockOrders: which of any two stamps stands ahead. -/
import Derived.Test.YtlphfkigjkebfaaHeld
namespace Go.Proofs.Ytlphfkigjkebfaa
open Go.RowKit
set_option linter.unusedSimpArgs false
set_option linter.unusedVariables false

/-- Cells that are there stay. -/
theorem Mod.at {w w' : World} (m : Mod (fun _ => False) w w') {p : Addr} {v : Value} (h : w.cell? p = some v) : w'.cell? p = some v :=
  (m.cell (World.block_lt_of_cell? w _ h) (fun e => e)).trans h
theorem cell_new (w : World) (c : Array Value) (t : TypeId) (i : Nat) (v : Value) (h : c[i]? = some v) : (w.alloc (.cells c t)).cell? ⟨w.heap.size, i, none⟩ = some v := by
  have hb : (w.alloc (.cells c t)).heap[w.heap.size]? = some (.cells c t (0, 0)) := by show (w.heap.push _)[w.heap.size]? = _; simp
  unfold World.cell?
  simp only [hb]
  simpa using h
theorem cell_new' (w : World) (c : Array Value) (t : TypeId) (i : Nat) (v : Value) (b : Nat) (hb : b = w.heap.size) (h : c[i]? = some v) : (w.alloc (.cells c t)).cell? ⟨b, i, none⟩ = some v := by
  subst hb; exact cell_new w c t i v h
theorem keep7 {w0 w w' : World} (m : Mod (fun _ => False) w w') {p0 p1 p2 p3 p4 p5 : Addr} {v0 v1 v2 v3 v4 v5 : Value}
    (h : w.cell? p0 = some v0 ∧ w.cell? p1 = some v1 ∧ w.cell? p2 = some v2 ∧ w.cell? p3 = some v3 ∧ w.cell? p4 = some v4 ∧ w.cell? p5 = some v5 ∧ Mod (fun _ => False) w0 w) :
    w'.cell? p0 = some v0 ∧ w'.cell? p1 = some v1 ∧ w'.cell? p2 = some v2 ∧ w'.cell? p3 = some v3 ∧ w'.cell? p4 = some v4 ∧ w'.cell? p5 = some v5 ∧ Mod (fun _ => False) w0 w' :=
  ⟨m.at h.1, m.at h.2.1, m.at h.2.2.1, m.at h.2.2.2.1, m.at h.2.2.2.2.1, m.at h.2.2.2.2.2.1, h.2.2.2.2.2.2.trans m (fun _ e => e) (fun _ _ e => e)⟩
theorem keepD {w0 w : World} {p0 p1 p2 p3 p4 p5 : Addr} {v0 v1 v2 v3 v4 v5 : Value}
    (h : w.cell? p0 = some v0 ∧ w.cell? p1 = some v1 ∧ w.cell? p2 = some v2 ∧ w.cell? p3 = some v3 ∧ w.cell? p4 = some v4 ∧ w.cell? p5 = some v5 ∧ Mod (fun _ => False) w0 w) :
    w.drew.cell? p0 = some v0 ∧ w.drew.cell? p1 = some v1 ∧ w.drew.cell? p2 = some v2 ∧ w.drew.cell? p3 = some v3 ∧ w.drew.cell? p4 = some v4 ∧ w.drew.cell? p5 = some v5 ∧ Mod (fun _ => False) w0 w.drew :=
  ⟨h.1, h.2.1, h.2.2.1, h.2.2.2.1, h.2.2.2.2.1, h.2.2.2.2.2.1, h.2.2.2.2.2.2.drew⟩
theorem kept6 (w W : World) {a0 a1 b0 b1 c0 c1 : Int} (hW : ((w.alloc (.cells #[.int .i64 a0, .int .i64 a1] 23)).alloc (.cells #[.int .i64 b0, .int .i64 b1] 23)).alloc (.cells #[.int .i64 c0, .int .i64 c1] 23) = W) :
    W.cell? ⟨w.heap.size, 0, none⟩ = some (.int .i64 a0) ∧ W.cell? ⟨w.heap.size, 1, none⟩ = some (.int .i64 a1) ∧ W.cell? ⟨w.heap.size + 1, 0, none⟩ = some (.int .i64 b0) ∧ W.cell? ⟨w.heap.size + 1, 1, none⟩ = some (.int .i64 b1) ∧ W.cell? ⟨w.heap.size + 1 + 1, 0, none⟩ = some (.int .i64 c0) ∧ W.cell? ⟨w.heap.size + 1 + 1, 1, none⟩ = some (.int .i64 c1) := by
  subst hW
  have n0 := fun (u : World) => (Mod.refl (fun _ => False) u).alloc
  have sz : ∀ (u : World) (o : Obj), (u.alloc o).heap.size = u.heap.size + 1 := by intro u o; simp
  have e1 := sz w (.cells #[.int .i64 a0, .int .i64 a1] 23)
  have e2 := sz (w.alloc (.cells #[.int .i64 a0, .int .i64 a1] 23)) (.cells #[.int .i64 b0, .int .i64 b1] 23)
  rw [e1] at e2
  refine ⟨(n0 _ _).at ((n0 _ _).at (cell_new w _ _ 0 _ rfl)), (n0 _ _).at ((n0 _ _).at (cell_new w _ _ 1 _ rfl)), (n0 _ _).at (cell_new' _ _ _ 0 _ _ e1.symm rfl), (n0 _ _).at (cell_new' _ _ _ 1 _ _ e1.symm rfl), cell_new' _ _ _ 0 _ _ e2.symm rfl, cell_new' _ _ _ 1 _ _ e2.symm rfl⟩

set_option maxHeartbeats 2000000 in
theorem orders_lt (a0 a1 b0 b1 c0 c1 : Int) (w : World) (h1 : lessB a0 a1 b0 b1 = true) (h2 : lessB b0 b1 a0 a1 = false) (h3 : lessB a0 a1 a0 a1 = false)
    (he : Hid ((a0 == b0 && a1 == b1) = false)) (h4 : lessB b0 b1 c0 c1 = true → lessB a0 a1 c0 c1 = true) :
    Calls Try.prog 3 #[.agg #[.int .i64 a0, .int .i64 a1], .agg #[.int .i64 b0, .int .i64 b1], .agg #[.int .i64 c0, .int .i64 c1]] w fun e w' => e = .returned (.bool true) ∧ Mod (fun _ => False) w w' := by
    go_enter Try.func3, Try.ntmps3
    go_wp2_with fail
    generalize hW : ((w.alloc (.cells #[.int .i64 a0, .int .i64 a1] 23)).alloc (.cells #[.int .i64 b0, .int .i64 b1] 23)).alloc (.cells #[.int .i64 c0, .int .i64 c1] 23) = W
    have mW : Mod (fun _ => False) w W := by rw [← hW]; exact (((Mod.refl _ _).alloc _).alloc _).alloc _
    have kW := kept6 w W hW
    clear hW
    refine wp_region_held_drew (S := (fun w' => w'.cell? ⟨w.heap.size, 0, none⟩ = some (.int .i64 a0) ∧ w'.cell? ⟨w.heap.size, 1, none⟩ = some (.int .i64 a1) ∧ w'.cell? ⟨w.heap.size + 1, 0, none⟩ = some (.int .i64 b0) ∧ w'.cell? ⟨w.heap.size + 1, 1, none⟩ = some (.int .i64 b1) ∧ w'.cell? ⟨w.heap.size + 1 + 1, 0, none⟩ = some (.int .i64 c0) ∧ w'.cell? ⟨w.heap.size + 1 + 1, 1, none⟩ = some (.int .i64 c1) ∧ Mod (fun _ => False) w w')) (by kernel_rfl) ⟨kW.1, kW.2.1, kW.2.2.1, kW.2.2.2.1, kW.2.2.2.2.1, kW.2.2.2.2.2, mW.drew⟩ (fun hHeld => ?_)
    refine held_take 0 7 (v := ?_) rfl rfl (by kernel_rfl) (by kernel_rfl) (by kernel_rfl) (fun _ _ _ _ h => h) (by rfl) ?_ hHeld ?_
    rotate_left; · (intro w hSw; obtain ⟨hS0, hS1, hS2, hS3, hS4, hS5, hS6⟩ := hSw; go_simp; first | done | with_reducible rfl)
    simp only [List.setIfInBounds_toArray, List.set_cons_zero, List.set_cons_succ]
    refine held_take 1 8 (v := ?_) rfl rfl (by kernel_rfl) (by kernel_rfl) (by kernel_rfl) (fun _ _ _ _ h => h) (by rfl) ?_ hHeld ?_
    rotate_left; · (intro w hSw; obtain ⟨hS0, hS1, hS2, hS3, hS4, hS5, hS6⟩ := hSw; go_simp; first | done | with_reducible rfl)
    simp only [List.setIfInBounds_toArray, List.set_cons_zero, List.set_cons_succ]
    refine held_take 3 10 (v := ?_) rfl rfl (by kernel_rfl) (by kernel_rfl) (by kernel_rfl) (fun _ _ _ _ h => h) (by rfl) ?_ hHeld ?_
    rotate_left; · (intro w hSw; obtain ⟨hS0, hS1, hS2, hS3, hS4, hS5, hS6⟩ := hSw; go_simp; first | done | with_reducible rfl)
    simp only [List.setIfInBounds_toArray, List.set_cons_zero, List.set_cons_succ]
    refine held_take 4 11 (v := ?_) rfl rfl (by kernel_rfl) (by kernel_rfl) (by kernel_rfl) (fun _ _ _ _ h => h) (by rfl) ?_ hHeld ?_
    rotate_left; · (intro w hSw; obtain ⟨hS0, hS1, hS2, hS3, hS4, hS5, hS6⟩ := hSw; go_simp; first | done | with_reducible rfl)
    simp only [List.setIfInBounds_toArray, List.set_cons_zero, List.set_cons_succ]
    refine held_call 2 9 rfl rfl (by kernel_rfl) (by rfl) (f := 9) (args := ?_) ?_ ?_
    rotate_left; · (go_simp; first | done | with_reducible rfl)
    refine (less_any _ _ _ _ _).mono ?_; rintro e w' ⟨rfl, m⟩
    refine ⟨_, rfl, (keep7 m hHeld), fun hNew => ?_⟩; clear hHeld; have hHeld := hNew; clear hNew
    simp only [List.setIfInBounds_toArray, List.set_cons_zero, List.set_cons_succ, h1, h2, h3]
    refine held_call 5 12 rfl rfl (by kernel_rfl) (by rfl) (f := 10) (args := ?_) ?_ ?_
    rotate_left; · (go_simp; first | done | with_reducible rfl)
    refine (rless_any _ _ _ _ _).mono ?_; rintro e w' ⟨rfl, m⟩
    refine ⟨_, rfl, (keep7 m hHeld), fun hNew => ?_⟩; clear hHeld; have hHeld := hNew; clear hNew
    simp only [List.setIfInBounds_toArray, List.set_cons_zero, List.set_cons_succ, h1, h2, h3]
    refine held_take 6 13 (v := ?_) rfl rfl (by kernel_rfl) (by kernel_rfl) (by kernel_rfl) (fun _ _ _ _ h => h) (by rfl) ?_ hHeld ?_
    rotate_left; · (intro w hSw; clear hSw; go_simp; first | done | with_reducible rfl)
    simp only [List.setIfInBounds_toArray, List.set_cons_zero, List.set_cons_succ]
    refine held_take 7 14 (v := ?_) rfl rfl (by kernel_rfl) (by kernel_rfl) (by kernel_rfl) (fun _ _ _ _ h => h) (by rfl) ?_ hHeld ?_
    rotate_left; · (intro w hSw; clear hSw; go_simp; first | done | with_reducible rfl)
    simp only [List.setIfInBounds_toArray, List.set_cons_zero, List.set_cons_succ]
    refine held_take 8 15 (v := ?_) rfl rfl (by kernel_rfl) (by kernel_rfl) (by kernel_rfl) (fun _ _ _ _ h => h) (by rfl) ?_ hHeld ?_
    rotate_left; · (intro w hSw; obtain ⟨hS0, hS1, hS2, hS3, hS4, hS5, hS6⟩ := hSw; go_simp; first | done | with_reducible rfl)
    simp only [List.setIfInBounds_toArray, List.set_cons_zero, List.set_cons_succ]
    refine held_take 10 17 (v := ?_) rfl rfl (by kernel_rfl) (by kernel_rfl) (by kernel_rfl) (fun _ _ _ _ h => h) (by rfl) ?_ hHeld ?_
    rotate_left; · (intro w hSw; obtain ⟨hS0, hS1, hS2, hS3, hS4, hS5, hS6⟩ := hSw; go_simp; first | done | with_reducible rfl)
    simp only [List.setIfInBounds_toArray, List.set_cons_zero, List.set_cons_succ]
    refine held_call 9 16 rfl rfl (by kernel_rfl) (by rfl) (f := 11) (args := ?_) ?_ ?_
    rotate_left; · (go_simp; first | done | with_reducible rfl)
    refine (check_any _ _ _).mono ?_; rintro e w' ⟨rfl, m⟩
    refine ⟨_, rfl, (keep7 m hHeld), fun hNew => ?_⟩; clear hHeld; have hHeld := hNew; clear hNew
    simp only [List.setIfInBounds_toArray, List.set_cons_zero, List.set_cons_succ, h1, h2, h3]
    refine held_call 11 18 rfl rfl (by kernel_rfl) (by rfl) (f := 12) (args := ?_) ?_ ?_
    rotate_left; · (go_simp; first | done | with_reducible rfl)
    refine (rcheck_any _ _ _).mono ?_; rintro e w' ⟨rfl, m⟩
    refine ⟨_, rfl, (keep7 m hHeld), fun hNew => ?_⟩; clear hHeld; have hHeld := hNew; clear hNew
    simp only [List.setIfInBounds_toArray, List.set_cons_zero, List.set_cons_succ, h1, h2, h3]
    refine held_take 12 19 (v := ?_) rfl rfl (by kernel_rfl) (by kernel_rfl) (by kernel_rfl) (fun _ _ _ _ h => h) (by rfl) ?_ hHeld ?_
    rotate_left; · (intro w hSw; clear hSw; go_simp; first | done | with_reducible rfl)
    simp only [List.setIfInBounds_toArray, List.set_cons_zero, List.set_cons_succ]
    refine held_take 13 20 (v := ?_) rfl rfl (by kernel_rfl) (by kernel_rfl) (by kernel_rfl) (fun _ _ _ _ h => h) (by rfl) ?_ hHeld ?_
    rotate_left; · (intro w hSw; clear hSw; go_simp; first | done | with_reducible rfl)
    simp only [List.setIfInBounds_toArray, List.set_cons_zero, List.set_cons_succ]
    refine held_take 14 21 (v := ?_) rfl rfl (by kernel_rfl) (by kernel_rfl) (by kernel_rfl) (fun _ _ _ _ h => h) (by rfl) ?_ hHeld ?_
    rotate_left; · (intro w hSw; clear hSw; go_simp; first | done | with_reducible rfl)
    simp only [List.setIfInBounds_toArray, List.set_cons_zero, List.set_cons_succ]
    refine held_take 15 22 (v := ?_) rfl rfl (by kernel_rfl) (by kernel_rfl) (by kernel_rfl) (fun _ _ _ _ h => h) (by rfl) ?_ hHeld ?_
    rotate_left; · (intro w hSw; obtain ⟨hS0, hS1, hS2, hS3, hS4, hS5, hS6⟩ := hSw; go_simp; first | done | with_reducible rfl)
    simp only [List.setIfInBounds_toArray, List.set_cons_zero, List.set_cons_succ]
    refine held_take 16 23 (v := ?_) rfl rfl (by kernel_rfl) (by kernel_rfl) (by kernel_rfl) (fun _ _ _ _ h => h) (by rfl) ?_ hHeld ?_
    rotate_left; · (intro w hSw; obtain ⟨hS0, hS1, hS2, hS3, hS4, hS5, hS6⟩ := hSw; go_simp; first | done | with_reducible rfl)
    simp only [List.setIfInBounds_toArray, List.set_cons_zero, List.set_cons_succ]
    refine held_call 17 24 rfl rfl (by kernel_rfl) (by rfl) (f := 9) (args := ?_) ?_ ?_
    rotate_left; · (go_simp; first | done | with_reducible rfl)
    refine (less_any _ _ _ _ _).mono ?_; rintro e w' ⟨rfl, m⟩
    refine ⟨_, rfl, (keep7 m hHeld), fun hNew => ?_⟩; clear hHeld; have hHeld := hNew; clear hNew
    simp only [List.setIfInBounds_toArray, List.set_cons_zero, List.set_cons_succ, h1, h2, h3]
    refine held_take 18 25 (v := ?_) rfl rfl (by kernel_rfl) (by kernel_rfl) (by kernel_rfl) (fun _ _ _ _ h => h) (by rfl) ?_ hHeld ?_
    rotate_left; · (intro w hSw; clear hSw; go_simp; first | done | with_reducible rfl)
    simp only [List.setIfInBounds_toArray, List.set_cons_zero, List.set_cons_succ]
    refine wpAnyH_done (by kernel_rfl) ?_ _
    go_wp2_with fail
    refine wp_region_held_drew (S := (fun w' => w'.cell? ⟨w.heap.size, 0, none⟩ = some (.int .i64 a0) ∧ w'.cell? ⟨w.heap.size, 1, none⟩ = some (.int .i64 a1) ∧ w'.cell? ⟨w.heap.size + 1, 0, none⟩ = some (.int .i64 b0) ∧ w'.cell? ⟨w.heap.size + 1, 1, none⟩ = some (.int .i64 b1) ∧ w'.cell? ⟨w.heap.size + 1 + 1, 0, none⟩ = some (.int .i64 c0) ∧ w'.cell? ⟨w.heap.size + 1 + 1, 1, none⟩ = some (.int .i64 c1) ∧ Mod (fun _ => False) w w')) (by kernel_rfl) (keepD hHeld) (fun hHeld => ?_)
    refine held_take 0 26 (v := ?_) rfl rfl (by kernel_rfl) (by kernel_rfl) (by kernel_rfl) (fun _ _ _ _ h => h) (by rfl) ?_ hHeld ?_
    rotate_left; · (intro w hSw; obtain ⟨hS0, hS1, hS2, hS3, hS4, hS5, hS6⟩ := hSw; go_simp; first | done | with_reducible rfl)
    simp only [List.setIfInBounds_toArray, List.set_cons_zero, List.set_cons_succ]
    refine held_take 1 27 (v := ?_) rfl rfl (by kernel_rfl) (by kernel_rfl) (by kernel_rfl) (fun _ _ _ _ h => h) (by rfl) ?_ hHeld ?_
    rotate_left; · (intro w hSw; obtain ⟨hS0, hS1, hS2, hS3, hS4, hS5, hS6⟩ := hSw; go_simp; first | done | with_reducible rfl)
    simp only [List.setIfInBounds_toArray, List.set_cons_zero, List.set_cons_succ]
    refine held_take 8 34 (v := ?_) rfl rfl (by kernel_rfl) (by kernel_rfl) (by kernel_rfl) (fun _ _ _ _ h => h) (by rfl) ?_ hHeld ?_
    rotate_left; · (intro w hSw; obtain ⟨hS0, hS1, hS2, hS3, hS4, hS5, hS6⟩ := hSw; go_simp; first | done | with_reducible rfl)
    simp only [List.setIfInBounds_toArray, List.set_cons_zero, List.set_cons_succ]
    refine held_take 9 35 (v := ?_) rfl rfl (by kernel_rfl) (by kernel_rfl) (by kernel_rfl) (fun _ _ _ _ h => h) (by rfl) ?_ hHeld ?_
    rotate_left; · (intro w hSw; obtain ⟨hS0, hS1, hS2, hS3, hS4, hS5, hS6⟩ := hSw; go_simp; first | done | with_reducible rfl)
    simp only [List.setIfInBounds_toArray, List.set_cons_zero, List.set_cons_succ]
    refine held_take 10 36 (v := .bool false) rfl rfl (by kernel_rfl) (by kernel_rfl) (by kernel_rfl) (fun _ _ _ _ h => h) (by rfl) ?_ hHeld ?_
    · (intro w hSw; clear hSw; have hn := he.out; clear he; by_cases e0 : a0 = b0 <;> by_cases e1 : a1 = b1 <;> first | (exfalso; simp [e0, e1] at hn; done) | (go_simp; done))
    simp only [List.setIfInBounds_toArray, List.set_cons_zero, List.set_cons_succ]
    refine held_call 2 28 rfl rfl (by kernel_rfl) (by rfl) (f := 9) (args := ?_) ?_ ?_
    rotate_left; · (go_simp; first | done | with_reducible rfl)
    refine (less_any _ _ _ _ _).mono ?_; rintro e w' ⟨rfl, m⟩
    refine ⟨_, rfl, (keep7 m hHeld), fun hNew => ?_⟩; clear hHeld; have hHeld := hNew; clear hNew
    simp only [List.setIfInBounds_toArray, List.set_cons_zero, List.set_cons_succ, h1, h2, h3]
    refine held_take 3 29 (v := ?_) rfl rfl (by kernel_rfl) (by kernel_rfl) (by kernel_rfl) (fun _ _ _ _ h => h) (by rfl) ?_ hHeld ?_
    rotate_left; · (intro w hSw; clear hSw; go_simp; first | done | with_reducible rfl)
    simp only [List.setIfInBounds_toArray, List.set_cons_zero, List.set_cons_succ]
    refine held_skip 4 30 rfl rfl (by kernel_rfl) (by kernel_rfl) (by kernel_rfl) (fun _ _ _ _ h => h) (by rfl) hHeld ?_
    simp only [List.setIfInBounds_toArray, List.set_cons_zero, List.set_cons_succ]
    refine held_skip 5 31 rfl rfl (by kernel_rfl) (by kernel_rfl) (by kernel_rfl) (fun _ _ _ _ h => h) (by rfl) hHeld ?_
    simp only [List.setIfInBounds_toArray, List.set_cons_zero, List.set_cons_succ]
    refine held_skip 6 32 rfl rfl (by kernel_rfl) (by kernel_rfl) (by kernel_rfl) (fun _ _ _ _ h => h) (by rfl) hHeld ?_
    simp only [List.setIfInBounds_toArray, List.set_cons_zero, List.set_cons_succ]
    refine held_take 7 33 (v := ?_) rfl rfl (by kernel_rfl) (by kernel_rfl) (by kernel_rfl) (fun _ _ _ _ h => h) (by rfl) ?_ hHeld ?_
    rotate_left; · (intro w hSw; clear hSw; go_simp; first | done | with_reducible rfl)
    simp only [List.setIfInBounds_toArray, List.set_cons_zero, List.set_cons_succ]
    refine held_take 11 37 (v := ?_) rfl rfl (by kernel_rfl) (by kernel_rfl) (by kernel_rfl) (fun _ _ _ _ h => h) (by rfl) ?_ hHeld ?_
    rotate_left; · (intro w hSw; clear hSw; go_simp; first | done | with_reducible rfl)
    simp only [List.setIfInBounds_toArray, List.set_cons_zero, List.set_cons_succ]
    refine held_take 12 38 (v := ?_) rfl rfl (by kernel_rfl) (by kernel_rfl) (by kernel_rfl) (fun _ _ _ _ h => h) (by rfl) ?_ hHeld ?_
    rotate_left; · (intro w hSw; clear hSw; go_simp; first | done | with_reducible rfl)
    simp only [List.setIfInBounds_toArray, List.set_cons_zero, List.set_cons_succ]
    refine held_take 13 39 (v := ?_) rfl rfl (by kernel_rfl) (by kernel_rfl) (by kernel_rfl) (fun _ _ _ _ h => h) (by rfl) ?_ hHeld ?_
    rotate_left; · (intro w hSw; obtain ⟨hS0, hS1, hS2, hS3, hS4, hS5, hS6⟩ := hSw; go_simp; first | done | with_reducible rfl)
    simp only [List.setIfInBounds_toArray, List.set_cons_zero, List.set_cons_succ]
    refine held_take 14 40 (v := ?_) rfl rfl (by kernel_rfl) (by kernel_rfl) (by kernel_rfl) (fun _ _ _ _ h => h) (by rfl) ?_ hHeld ?_
    rotate_left; · (intro w hSw; obtain ⟨hS0, hS1, hS2, hS3, hS4, hS5, hS6⟩ := hSw; go_simp; first | done | with_reducible rfl)
    simp only [List.setIfInBounds_toArray, List.set_cons_zero, List.set_cons_succ]
    refine held_call 15 41 rfl rfl (by kernel_rfl) (by rfl) (f := 9) (args := ?_) ?_ ?_
    rotate_left; · (go_simp; first | done | with_reducible rfl)
    refine (less_any _ _ _ _ _).mono ?_; rintro e w' ⟨rfl, m⟩
    refine ⟨_, rfl, (keep7 m hHeld), fun hNew => ?_⟩; clear hHeld; have hHeld := hNew; clear hNew
    simp only [List.setIfInBounds_toArray, List.set_cons_zero, List.set_cons_succ, h1, h2, h3]
    refine held_take 16 42 (v := ?_) rfl rfl (by kernel_rfl) (by kernel_rfl) (by kernel_rfl) (fun _ _ _ _ h => h) (by rfl) ?_ hHeld ?_
    rotate_left; · (intro w hSw; clear hSw; go_simp; first | done | with_reducible rfl)
    simp only [List.setIfInBounds_toArray, List.set_cons_zero, List.set_cons_succ]
    refine held_take 17 43 (v := ?_) rfl rfl (by kernel_rfl) (by kernel_rfl) (by kernel_rfl) (fun _ _ _ _ h => h) (by rfl) ?_ hHeld ?_
    rotate_left; · (intro w hSw; obtain ⟨hS0, hS1, hS2, hS3, hS4, hS5, hS6⟩ := hSw; go_simp; first | done | with_reducible rfl)
    simp only [List.setIfInBounds_toArray, List.set_cons_zero, List.set_cons_succ]
    refine held_take 18 44 (v := ?_) rfl rfl (by kernel_rfl) (by kernel_rfl) (by kernel_rfl) (fun _ _ _ _ h => h) (by rfl) ?_ hHeld ?_
    rotate_left; · (intro w hSw; obtain ⟨hS0, hS1, hS2, hS3, hS4, hS5, hS6⟩ := hSw; go_simp; first | done | with_reducible rfl)
    simp only [List.setIfInBounds_toArray, List.set_cons_zero, List.set_cons_succ]
    refine held_call 19 45 rfl rfl (by kernel_rfl) (by rfl) (f := 9) (args := ?_) ?_ ?_
    rotate_left; · (go_simp; first | done | with_reducible rfl)
    refine (less_any _ _ _ _ _).mono ?_; rintro e w' ⟨rfl, m⟩
    refine ⟨_, rfl, (keep7 m hHeld), fun hNew => ?_⟩; clear hHeld; have hHeld := hNew; clear hNew
    simp only [List.setIfInBounds_toArray, List.set_cons_zero, List.set_cons_succ, h1, h2, h3]
    refine held_take 20 46 (v := ?_) rfl rfl (by kernel_rfl) (by kernel_rfl) (by kernel_rfl) (fun _ _ _ _ h => h) (by rfl) ?_ hHeld ?_
    rotate_left; · (intro w hSw; clear hSw; go_simp; first | done | with_reducible rfl)
    simp only [List.setIfInBounds_toArray, List.set_cons_zero, List.set_cons_succ]
    refine held_take 21 47 (v := ?_) rfl rfl (by kernel_rfl) (by kernel_rfl) (by kernel_rfl) (fun _ _ _ _ h => h) (by rfl) ?_ hHeld ?_
    rotate_left; · (intro w hSw; clear hSw; go_simp; first | done | with_reducible rfl)
    simp only [List.setIfInBounds_toArray, List.set_cons_zero, List.set_cons_succ]
    refine wpAnyH_done (by kernel_rfl) ?_ _
    go_wp2_with fail
    refine (less_any _ _ _ _ _).mono ?_; rintro e w1 ⟨rfl, m1⟩
    rw [h1]
    have k1 := keep7 m1 hHeld
    clear hHeld m1
    obtain ⟨c0', c1', c2', c3', c4', c5', mw⟩ := k1
    go_wp2_with fail
    refine (less_any _ _ _ _ _).mono ?_; rintro e w2 ⟨rfl, m2⟩
    have g0 := m2.at c0'; have g1 := m2.at c1'; have g4 := m2.at c4'; have g5 := m2.at c5'
    have mw2 := mw.trans m2 (U := fun _ => False) (fun _ e => e) (fun _ _ e => e)
    clear c0' c1' c2' c3' c4' c5' mw m2
    cases h5 : lessB b0 b1 c0 c1
    · go_wp2_with fail
      refine (awake_any _).mono ?_; rintro e w4 ⟨rfl, m4⟩
      go_wp2_with fail
      go_ret
      exact ⟨rfl, mw2.trans m4 (fun _ e => e) (fun _ _ e => e)⟩
    · have h6 := h4 h5
      go_wp2_with fail
      refine (less_any _ _ _ _ _).mono ?_; rintro e w3 ⟨rfl, m3⟩
      rw [h6]
      have mw3 := mw2.trans m3 (U := fun _ => False) (fun _ e => e) (fun _ _ e => e)
      go_wp2_with fail
      refine (awake_any _).mono ?_; rintro e w4 ⟨rfl, m4⟩
      go_wp2_with fail
      go_ret
      exact ⟨rfl, mw3.trans m4 (fun _ e => e) (fun _ _ e => e)⟩
set_option maxHeartbeats 2000000 in
theorem orders_gt (a0 a1 b0 b1 c0 c1 : Int) (w : World) (h1 : lessB a0 a1 b0 b1 = false) (h2 : lessB b0 b1 a0 a1 = true) (h3 : lessB a0 a1 a0 a1 = false)
    (he : Hid ((a0 == b0 && a1 == b1) = false)) :
    Calls Try.prog 3 #[.agg #[.int .i64 a0, .int .i64 a1], .agg #[.int .i64 b0, .int .i64 b1], .agg #[.int .i64 c0, .int .i64 c1]] w fun e w' => e = .returned (.bool true) ∧ Mod (fun _ => False) w w' := by
    go_enter Try.func3, Try.ntmps3
    go_wp2_with fail
    generalize hW : ((w.alloc (.cells #[.int .i64 a0, .int .i64 a1] 23)).alloc (.cells #[.int .i64 b0, .int .i64 b1] 23)).alloc (.cells #[.int .i64 c0, .int .i64 c1] 23) = W
    have mW : Mod (fun _ => False) w W := by rw [← hW]; exact (((Mod.refl _ _).alloc _).alloc _).alloc _
    have kW := kept6 w W hW
    clear hW
    refine wp_region_held_drew (S := (fun w' => w'.cell? ⟨w.heap.size, 0, none⟩ = some (.int .i64 a0) ∧ w'.cell? ⟨w.heap.size, 1, none⟩ = some (.int .i64 a1) ∧ w'.cell? ⟨w.heap.size + 1, 0, none⟩ = some (.int .i64 b0) ∧ w'.cell? ⟨w.heap.size + 1, 1, none⟩ = some (.int .i64 b1) ∧ w'.cell? ⟨w.heap.size + 1 + 1, 0, none⟩ = some (.int .i64 c0) ∧ w'.cell? ⟨w.heap.size + 1 + 1, 1, none⟩ = some (.int .i64 c1) ∧ Mod (fun _ => False) w w')) (by kernel_rfl) ⟨kW.1, kW.2.1, kW.2.2.1, kW.2.2.2.1, kW.2.2.2.2.1, kW.2.2.2.2.2, mW.drew⟩ (fun hHeld => ?_)
    refine held_take 0 7 (v := ?_) rfl rfl (by kernel_rfl) (by kernel_rfl) (by kernel_rfl) (fun _ _ _ _ h => h) (by rfl) ?_ hHeld ?_
    rotate_left; · (intro w hSw; obtain ⟨hS0, hS1, hS2, hS3, hS4, hS5, hS6⟩ := hSw; go_simp; first | done | with_reducible rfl)
    simp only [List.setIfInBounds_toArray, List.set_cons_zero, List.set_cons_succ]
    refine held_take 1 8 (v := ?_) rfl rfl (by kernel_rfl) (by kernel_rfl) (by kernel_rfl) (fun _ _ _ _ h => h) (by rfl) ?_ hHeld ?_
    rotate_left; · (intro w hSw; obtain ⟨hS0, hS1, hS2, hS3, hS4, hS5, hS6⟩ := hSw; go_simp; first | done | with_reducible rfl)
    simp only [List.setIfInBounds_toArray, List.set_cons_zero, List.set_cons_succ]
    refine held_take 3 10 (v := ?_) rfl rfl (by kernel_rfl) (by kernel_rfl) (by kernel_rfl) (fun _ _ _ _ h => h) (by rfl) ?_ hHeld ?_
    rotate_left; · (intro w hSw; obtain ⟨hS0, hS1, hS2, hS3, hS4, hS5, hS6⟩ := hSw; go_simp; first | done | with_reducible rfl)
    simp only [List.setIfInBounds_toArray, List.set_cons_zero, List.set_cons_succ]
    refine held_take 4 11 (v := ?_) rfl rfl (by kernel_rfl) (by kernel_rfl) (by kernel_rfl) (fun _ _ _ _ h => h) (by rfl) ?_ hHeld ?_
    rotate_left; · (intro w hSw; obtain ⟨hS0, hS1, hS2, hS3, hS4, hS5, hS6⟩ := hSw; go_simp; first | done | with_reducible rfl)
    simp only [List.setIfInBounds_toArray, List.set_cons_zero, List.set_cons_succ]
    refine held_call 2 9 rfl rfl (by kernel_rfl) (by rfl) (f := 9) (args := ?_) ?_ ?_
    rotate_left; · (go_simp; first | done | with_reducible rfl)
    refine (less_any _ _ _ _ _).mono ?_; rintro e w' ⟨rfl, m⟩
    refine ⟨_, rfl, (keep7 m hHeld), fun hNew => ?_⟩; clear hHeld; have hHeld := hNew; clear hNew
    simp only [List.setIfInBounds_toArray, List.set_cons_zero, List.set_cons_succ, h1, h2, h3]
    refine held_call 5 12 rfl rfl (by kernel_rfl) (by rfl) (f := 10) (args := ?_) ?_ ?_
    rotate_left; · (go_simp; first | done | with_reducible rfl)
    refine (rless_any _ _ _ _ _).mono ?_; rintro e w' ⟨rfl, m⟩
    refine ⟨_, rfl, (keep7 m hHeld), fun hNew => ?_⟩; clear hHeld; have hHeld := hNew; clear hNew
    simp only [List.setIfInBounds_toArray, List.set_cons_zero, List.set_cons_succ, h1, h2, h3]
    refine held_take 6 13 (v := ?_) rfl rfl (by kernel_rfl) (by kernel_rfl) (by kernel_rfl) (fun _ _ _ _ h => h) (by rfl) ?_ hHeld ?_
    rotate_left; · (intro w hSw; clear hSw; go_simp; first | done | with_reducible rfl)
    simp only [List.setIfInBounds_toArray, List.set_cons_zero, List.set_cons_succ]
    refine held_take 7 14 (v := ?_) rfl rfl (by kernel_rfl) (by kernel_rfl) (by kernel_rfl) (fun _ _ _ _ h => h) (by rfl) ?_ hHeld ?_
    rotate_left; · (intro w hSw; clear hSw; go_simp; first | done | with_reducible rfl)
    simp only [List.setIfInBounds_toArray, List.set_cons_zero, List.set_cons_succ]
    refine held_take 8 15 (v := ?_) rfl rfl (by kernel_rfl) (by kernel_rfl) (by kernel_rfl) (fun _ _ _ _ h => h) (by rfl) ?_ hHeld ?_
    rotate_left; · (intro w hSw; obtain ⟨hS0, hS1, hS2, hS3, hS4, hS5, hS6⟩ := hSw; go_simp; first | done | with_reducible rfl)
    simp only [List.setIfInBounds_toArray, List.set_cons_zero, List.set_cons_succ]
    refine held_take 10 17 (v := ?_) rfl rfl (by kernel_rfl) (by kernel_rfl) (by kernel_rfl) (fun _ _ _ _ h => h) (by rfl) ?_ hHeld ?_
    rotate_left; · (intro w hSw; obtain ⟨hS0, hS1, hS2, hS3, hS4, hS5, hS6⟩ := hSw; go_simp; first | done | with_reducible rfl)
    simp only [List.setIfInBounds_toArray, List.set_cons_zero, List.set_cons_succ]
    refine held_call 9 16 rfl rfl (by kernel_rfl) (by rfl) (f := 11) (args := ?_) ?_ ?_
    rotate_left; · (go_simp; first | done | with_reducible rfl)
    refine (check_any _ _ _).mono ?_; rintro e w' ⟨rfl, m⟩
    refine ⟨_, rfl, (keep7 m hHeld), fun hNew => ?_⟩; clear hHeld; have hHeld := hNew; clear hNew
    simp only [List.setIfInBounds_toArray, List.set_cons_zero, List.set_cons_succ, h1, h2, h3]
    refine held_call 11 18 rfl rfl (by kernel_rfl) (by rfl) (f := 12) (args := ?_) ?_ ?_
    rotate_left; · (go_simp; first | done | with_reducible rfl)
    refine (rcheck_any _ _ _).mono ?_; rintro e w' ⟨rfl, m⟩
    refine ⟨_, rfl, (keep7 m hHeld), fun hNew => ?_⟩; clear hHeld; have hHeld := hNew; clear hNew
    simp only [List.setIfInBounds_toArray, List.set_cons_zero, List.set_cons_succ, h1, h2, h3]
    refine held_take 12 19 (v := ?_) rfl rfl (by kernel_rfl) (by kernel_rfl) (by kernel_rfl) (fun _ _ _ _ h => h) (by rfl) ?_ hHeld ?_
    rotate_left; · (intro w hSw; clear hSw; go_simp; first | done | with_reducible rfl)
    simp only [List.setIfInBounds_toArray, List.set_cons_zero, List.set_cons_succ]
    refine held_take 13 20 (v := ?_) rfl rfl (by kernel_rfl) (by kernel_rfl) (by kernel_rfl) (fun _ _ _ _ h => h) (by rfl) ?_ hHeld ?_
    rotate_left; · (intro w hSw; clear hSw; go_simp; first | done | with_reducible rfl)
    simp only [List.setIfInBounds_toArray, List.set_cons_zero, List.set_cons_succ]
    refine held_take 14 21 (v := ?_) rfl rfl (by kernel_rfl) (by kernel_rfl) (by kernel_rfl) (fun _ _ _ _ h => h) (by rfl) ?_ hHeld ?_
    rotate_left; · (intro w hSw; clear hSw; go_simp; first | done | with_reducible rfl)
    simp only [List.setIfInBounds_toArray, List.set_cons_zero, List.set_cons_succ]
    refine held_take 15 22 (v := ?_) rfl rfl (by kernel_rfl) (by kernel_rfl) (by kernel_rfl) (fun _ _ _ _ h => h) (by rfl) ?_ hHeld ?_
    rotate_left; · (intro w hSw; obtain ⟨hS0, hS1, hS2, hS3, hS4, hS5, hS6⟩ := hSw; go_simp; first | done | with_reducible rfl)
    simp only [List.setIfInBounds_toArray, List.set_cons_zero, List.set_cons_succ]
    refine held_take 16 23 (v := ?_) rfl rfl (by kernel_rfl) (by kernel_rfl) (by kernel_rfl) (fun _ _ _ _ h => h) (by rfl) ?_ hHeld ?_
    rotate_left; · (intro w hSw; obtain ⟨hS0, hS1, hS2, hS3, hS4, hS5, hS6⟩ := hSw; go_simp; first | done | with_reducible rfl)
    simp only [List.setIfInBounds_toArray, List.set_cons_zero, List.set_cons_succ]
    refine held_call 17 24 rfl rfl (by kernel_rfl) (by rfl) (f := 9) (args := ?_) ?_ ?_
    rotate_left; · (go_simp; first | done | with_reducible rfl)
    refine (less_any _ _ _ _ _).mono ?_; rintro e w' ⟨rfl, m⟩
    refine ⟨_, rfl, (keep7 m hHeld), fun hNew => ?_⟩; clear hHeld; have hHeld := hNew; clear hNew
    simp only [List.setIfInBounds_toArray, List.set_cons_zero, List.set_cons_succ, h1, h2, h3]
    refine held_take 18 25 (v := ?_) rfl rfl (by kernel_rfl) (by kernel_rfl) (by kernel_rfl) (fun _ _ _ _ h => h) (by rfl) ?_ hHeld ?_
    rotate_left; · (intro w hSw; clear hSw; go_simp; first | done | with_reducible rfl)
    simp only [List.setIfInBounds_toArray, List.set_cons_zero, List.set_cons_succ]
    refine wpAnyH_done (by kernel_rfl) ?_ _
    go_wp2_with fail
    refine wp_region_held_drew (S := (fun w' => w'.cell? ⟨w.heap.size, 0, none⟩ = some (.int .i64 a0) ∧ w'.cell? ⟨w.heap.size, 1, none⟩ = some (.int .i64 a1) ∧ w'.cell? ⟨w.heap.size + 1, 0, none⟩ = some (.int .i64 b0) ∧ w'.cell? ⟨w.heap.size + 1, 1, none⟩ = some (.int .i64 b1) ∧ w'.cell? ⟨w.heap.size + 1 + 1, 0, none⟩ = some (.int .i64 c0) ∧ w'.cell? ⟨w.heap.size + 1 + 1, 1, none⟩ = some (.int .i64 c1) ∧ Mod (fun _ => False) w w')) (by kernel_rfl) (keepD hHeld) (fun hHeld => ?_)
    refine held_take 0 26 (v := ?_) rfl rfl (by kernel_rfl) (by kernel_rfl) (by kernel_rfl) (fun _ _ _ _ h => h) (by rfl) ?_ hHeld ?_
    rotate_left; · (intro w hSw; obtain ⟨hS0, hS1, hS2, hS3, hS4, hS5, hS6⟩ := hSw; go_simp; first | done | with_reducible rfl)
    simp only [List.setIfInBounds_toArray, List.set_cons_zero, List.set_cons_succ]
    refine held_take 1 27 (v := ?_) rfl rfl (by kernel_rfl) (by kernel_rfl) (by kernel_rfl) (fun _ _ _ _ h => h) (by rfl) ?_ hHeld ?_
    rotate_left; · (intro w hSw; obtain ⟨hS0, hS1, hS2, hS3, hS4, hS5, hS6⟩ := hSw; go_simp; first | done | with_reducible rfl)
    simp only [List.setIfInBounds_toArray, List.set_cons_zero, List.set_cons_succ]
    refine held_take 8 34 (v := ?_) rfl rfl (by kernel_rfl) (by kernel_rfl) (by kernel_rfl) (fun _ _ _ _ h => h) (by rfl) ?_ hHeld ?_
    rotate_left; · (intro w hSw; obtain ⟨hS0, hS1, hS2, hS3, hS4, hS5, hS6⟩ := hSw; go_simp; first | done | with_reducible rfl)
    simp only [List.setIfInBounds_toArray, List.set_cons_zero, List.set_cons_succ]
    refine held_take 9 35 (v := ?_) rfl rfl (by kernel_rfl) (by kernel_rfl) (by kernel_rfl) (fun _ _ _ _ h => h) (by rfl) ?_ hHeld ?_
    rotate_left; · (intro w hSw; obtain ⟨hS0, hS1, hS2, hS3, hS4, hS5, hS6⟩ := hSw; go_simp; first | done | with_reducible rfl)
    simp only [List.setIfInBounds_toArray, List.set_cons_zero, List.set_cons_succ]
    refine held_take 10 36 (v := .bool false) rfl rfl (by kernel_rfl) (by kernel_rfl) (by kernel_rfl) (fun _ _ _ _ h => h) (by rfl) ?_ hHeld ?_
    · (intro w hSw; clear hSw; have hn := he.out; clear he; by_cases e0 : a0 = b0 <;> by_cases e1 : a1 = b1 <;> first | (exfalso; simp [e0, e1] at hn; done) | (go_simp; done))
    simp only [List.setIfInBounds_toArray, List.set_cons_zero, List.set_cons_succ]
    refine held_call 2 28 rfl rfl (by kernel_rfl) (by rfl) (f := 9) (args := ?_) ?_ ?_
    rotate_left; · (go_simp; first | done | with_reducible rfl)
    refine (less_any _ _ _ _ _).mono ?_; rintro e w' ⟨rfl, m⟩
    refine ⟨_, rfl, (keep7 m hHeld), fun hNew => ?_⟩; clear hHeld; have hHeld := hNew; clear hNew
    simp only [List.setIfInBounds_toArray, List.set_cons_zero, List.set_cons_succ, h1, h2, h3]
    refine held_take 3 29 (v := ?_) rfl rfl (by kernel_rfl) (by kernel_rfl) (by kernel_rfl) (fun _ _ _ _ h => h) (by rfl) ?_ hHeld ?_
    rotate_left; · (intro w hSw; clear hSw; go_simp; first | done | with_reducible rfl)
    simp only [List.setIfInBounds_toArray, List.set_cons_zero, List.set_cons_succ]
    refine held_take 4 30 (v := ?_) rfl rfl (by kernel_rfl) (by kernel_rfl) (by kernel_rfl) (fun _ _ _ _ h => h) (by rfl) ?_ hHeld ?_
    rotate_left; · (intro w hSw; obtain ⟨hS0, hS1, hS2, hS3, hS4, hS5, hS6⟩ := hSw; go_simp; first | done | with_reducible rfl)
    simp only [List.setIfInBounds_toArray, List.set_cons_zero, List.set_cons_succ]
    refine held_take 5 31 (v := ?_) rfl rfl (by kernel_rfl) (by kernel_rfl) (by kernel_rfl) (fun _ _ _ _ h => h) (by rfl) ?_ hHeld ?_
    rotate_left; · (intro w hSw; obtain ⟨hS0, hS1, hS2, hS3, hS4, hS5, hS6⟩ := hSw; go_simp; first | done | with_reducible rfl)
    simp only [List.setIfInBounds_toArray, List.set_cons_zero, List.set_cons_succ]
    refine held_call 6 32 rfl rfl (by kernel_rfl) (by rfl) (f := 9) (args := ?_) ?_ ?_
    rotate_left; · (go_simp; first | done | with_reducible rfl)
    refine (less_any _ _ _ _ _).mono ?_; rintro e w' ⟨rfl, m⟩
    refine ⟨_, rfl, (keep7 m hHeld), fun hNew => ?_⟩; clear hHeld; have hHeld := hNew; clear hNew
    simp only [List.setIfInBounds_toArray, List.set_cons_zero, List.set_cons_succ, h1, h2, h3]
    refine held_take 7 33 (v := ?_) rfl rfl (by kernel_rfl) (by kernel_rfl) (by kernel_rfl) (fun _ _ _ _ h => h) (by rfl) ?_ hHeld ?_
    rotate_left; · (intro w hSw; clear hSw; go_simp; first | done | with_reducible rfl)
    simp only [List.setIfInBounds_toArray, List.set_cons_zero, List.set_cons_succ]
    refine held_take 11 37 (v := ?_) rfl rfl (by kernel_rfl) (by kernel_rfl) (by kernel_rfl) (fun _ _ _ _ h => h) (by rfl) ?_ hHeld ?_
    rotate_left; · (intro w hSw; clear hSw; go_simp; first | done | with_reducible rfl)
    simp only [List.setIfInBounds_toArray, List.set_cons_zero, List.set_cons_succ]
    refine held_take 12 38 (v := ?_) rfl rfl (by kernel_rfl) (by kernel_rfl) (by kernel_rfl) (fun _ _ _ _ h => h) (by rfl) ?_ hHeld ?_
    rotate_left; · (intro w hSw; clear hSw; go_simp; first | done | with_reducible rfl)
    simp only [List.setIfInBounds_toArray, List.set_cons_zero, List.set_cons_succ]
    refine held_take 13 39 (v := ?_) rfl rfl (by kernel_rfl) (by kernel_rfl) (by kernel_rfl) (fun _ _ _ _ h => h) (by rfl) ?_ hHeld ?_
    rotate_left; · (intro w hSw; obtain ⟨hS0, hS1, hS2, hS3, hS4, hS5, hS6⟩ := hSw; go_simp; first | done | with_reducible rfl)
    simp only [List.setIfInBounds_toArray, List.set_cons_zero, List.set_cons_succ]
    refine held_take 14 40 (v := ?_) rfl rfl (by kernel_rfl) (by kernel_rfl) (by kernel_rfl) (fun _ _ _ _ h => h) (by rfl) ?_ hHeld ?_
    rotate_left; · (intro w hSw; obtain ⟨hS0, hS1, hS2, hS3, hS4, hS5, hS6⟩ := hSw; go_simp; first | done | with_reducible rfl)
    simp only [List.setIfInBounds_toArray, List.set_cons_zero, List.set_cons_succ]
    refine held_call 15 41 rfl rfl (by kernel_rfl) (by rfl) (f := 9) (args := ?_) ?_ ?_
    rotate_left; · (go_simp; first | done | with_reducible rfl)
    refine (less_any _ _ _ _ _).mono ?_; rintro e w' ⟨rfl, m⟩
    refine ⟨_, rfl, (keep7 m hHeld), fun hNew => ?_⟩; clear hHeld; have hHeld := hNew; clear hNew
    simp only [List.setIfInBounds_toArray, List.set_cons_zero, List.set_cons_succ, h1, h2, h3]
    refine held_take 16 42 (v := ?_) rfl rfl (by kernel_rfl) (by kernel_rfl) (by kernel_rfl) (fun _ _ _ _ h => h) (by rfl) ?_ hHeld ?_
    rotate_left; · (intro w hSw; clear hSw; go_simp; first | done | with_reducible rfl)
    simp only [List.setIfInBounds_toArray, List.set_cons_zero, List.set_cons_succ]
    refine held_skip 17 43 rfl rfl (by kernel_rfl) (by kernel_rfl) (by kernel_rfl) (fun _ _ _ _ h => h) (by rfl) hHeld ?_
    simp only [List.setIfInBounds_toArray, List.set_cons_zero, List.set_cons_succ]
    refine held_skip 18 44 rfl rfl (by kernel_rfl) (by kernel_rfl) (by kernel_rfl) (fun _ _ _ _ h => h) (by rfl) hHeld ?_
    simp only [List.setIfInBounds_toArray, List.set_cons_zero, List.set_cons_succ]
    refine held_skip 19 45 rfl rfl (by kernel_rfl) (by kernel_rfl) (by kernel_rfl) (fun _ _ _ _ h => h) (by rfl) hHeld ?_
    simp only [List.setIfInBounds_toArray, List.set_cons_zero, List.set_cons_succ]
    refine held_take 20 46 (v := ?_) rfl rfl (by kernel_rfl) (by kernel_rfl) (by kernel_rfl) (fun _ _ _ _ h => h) (by rfl) ?_ hHeld ?_
    rotate_left; · (intro w hSw; clear hSw; go_simp; first | done | with_reducible rfl)
    simp only [List.setIfInBounds_toArray, List.set_cons_zero, List.set_cons_succ]
    refine held_take 21 47 (v := ?_) rfl rfl (by kernel_rfl) (by kernel_rfl) (by kernel_rfl) (fun _ _ _ _ h => h) (by rfl) ?_ hHeld ?_
    rotate_left; · (intro w hSw; clear hSw; go_simp; first | done | with_reducible rfl)
    simp only [List.setIfInBounds_toArray, List.set_cons_zero, List.set_cons_succ]
    refine wpAnyH_done (by kernel_rfl) ?_ _
    go_wp2_with fail
    refine (less_any _ _ _ _ _).mono ?_; rintro e w1 ⟨rfl, m1⟩
    rw [h1]
    have k1 := keep7 m1 hHeld
    clear hHeld m1
    obtain ⟨c0', c1', c2', c3', c4', c5', mw⟩ := k1
    go_wp2_with fail
    refine (awake_any _).mono ?_; rintro e w4 ⟨rfl, m4⟩
    go_wp2_with fail
    go_ret
    exact ⟨rfl, mw.trans m4 (fun _ e => e) (fun _ _ e => e)⟩
set_option maxHeartbeats 2000000 in
theorem orders_eq (a0 a1 b0 b1 c0 c1 : Int) (w : World) (h1 : lessB a0 a1 b0 b1 = false) (h2 : lessB b0 b1 a0 a1 = false) (h3 : lessB a0 a1 a0 a1 = false)
    (he : Hid ((a0 == b0 && a1 == b1) = true)) :
    Calls Try.prog 3 #[.agg #[.int .i64 a0, .int .i64 a1], .agg #[.int .i64 b0, .int .i64 b1], .agg #[.int .i64 c0, .int .i64 c1]] w fun e w' => e = .returned (.bool true) ∧ Mod (fun _ => False) w w' := by
    go_enter Try.func3, Try.ntmps3
    go_wp2_with fail
    generalize hW : ((w.alloc (.cells #[.int .i64 a0, .int .i64 a1] 23)).alloc (.cells #[.int .i64 b0, .int .i64 b1] 23)).alloc (.cells #[.int .i64 c0, .int .i64 c1] 23) = W
    have mW : Mod (fun _ => False) w W := by rw [← hW]; exact (((Mod.refl _ _).alloc _).alloc _).alloc _
    have kW := kept6 w W hW
    clear hW
    refine wp_region_held_drew (S := (fun w' => w'.cell? ⟨w.heap.size, 0, none⟩ = some (.int .i64 a0) ∧ w'.cell? ⟨w.heap.size, 1, none⟩ = some (.int .i64 a1) ∧ w'.cell? ⟨w.heap.size + 1, 0, none⟩ = some (.int .i64 b0) ∧ w'.cell? ⟨w.heap.size + 1, 1, none⟩ = some (.int .i64 b1) ∧ w'.cell? ⟨w.heap.size + 1 + 1, 0, none⟩ = some (.int .i64 c0) ∧ w'.cell? ⟨w.heap.size + 1 + 1, 1, none⟩ = some (.int .i64 c1) ∧ Mod (fun _ => False) w w')) (by kernel_rfl) ⟨kW.1, kW.2.1, kW.2.2.1, kW.2.2.2.1, kW.2.2.2.2.1, kW.2.2.2.2.2, mW.drew⟩ (fun hHeld => ?_)
    refine held_take 0 7 (v := ?_) rfl rfl (by kernel_rfl) (by kernel_rfl) (by kernel_rfl) (fun _ _ _ _ h => h) (by rfl) ?_ hHeld ?_
    rotate_left; · (intro w hSw; obtain ⟨hS0, hS1, hS2, hS3, hS4, hS5, hS6⟩ := hSw; go_simp; first | done | with_reducible rfl)
    simp only [List.setIfInBounds_toArray, List.set_cons_zero, List.set_cons_succ]
    refine held_take 1 8 (v := ?_) rfl rfl (by kernel_rfl) (by kernel_rfl) (by kernel_rfl) (fun _ _ _ _ h => h) (by rfl) ?_ hHeld ?_
    rotate_left; · (intro w hSw; obtain ⟨hS0, hS1, hS2, hS3, hS4, hS5, hS6⟩ := hSw; go_simp; first | done | with_reducible rfl)
    simp only [List.setIfInBounds_toArray, List.set_cons_zero, List.set_cons_succ]
    refine held_take 3 10 (v := ?_) rfl rfl (by kernel_rfl) (by kernel_rfl) (by kernel_rfl) (fun _ _ _ _ h => h) (by rfl) ?_ hHeld ?_
    rotate_left; · (intro w hSw; obtain ⟨hS0, hS1, hS2, hS3, hS4, hS5, hS6⟩ := hSw; go_simp; first | done | with_reducible rfl)
    simp only [List.setIfInBounds_toArray, List.set_cons_zero, List.set_cons_succ]
    refine held_take 4 11 (v := ?_) rfl rfl (by kernel_rfl) (by kernel_rfl) (by kernel_rfl) (fun _ _ _ _ h => h) (by rfl) ?_ hHeld ?_
    rotate_left; · (intro w hSw; obtain ⟨hS0, hS1, hS2, hS3, hS4, hS5, hS6⟩ := hSw; go_simp; first | done | with_reducible rfl)
    simp only [List.setIfInBounds_toArray, List.set_cons_zero, List.set_cons_succ]
    refine held_call 2 9 rfl rfl (by kernel_rfl) (by rfl) (f := 9) (args := ?_) ?_ ?_
    rotate_left; · (go_simp; first | done | with_reducible rfl)
    refine (less_any _ _ _ _ _).mono ?_; rintro e w' ⟨rfl, m⟩
    refine ⟨_, rfl, (keep7 m hHeld), fun hNew => ?_⟩; clear hHeld; have hHeld := hNew; clear hNew
    simp only [List.setIfInBounds_toArray, List.set_cons_zero, List.set_cons_succ, h1, h2, h3]
    refine held_call 5 12 rfl rfl (by kernel_rfl) (by rfl) (f := 10) (args := ?_) ?_ ?_
    rotate_left; · (go_simp; first | done | with_reducible rfl)
    refine (rless_any _ _ _ _ _).mono ?_; rintro e w' ⟨rfl, m⟩
    refine ⟨_, rfl, (keep7 m hHeld), fun hNew => ?_⟩; clear hHeld; have hHeld := hNew; clear hNew
    simp only [List.setIfInBounds_toArray, List.set_cons_zero, List.set_cons_succ, h1, h2, h3]
    refine held_take 6 13 (v := ?_) rfl rfl (by kernel_rfl) (by kernel_rfl) (by kernel_rfl) (fun _ _ _ _ h => h) (by rfl) ?_ hHeld ?_
    rotate_left; · (intro w hSw; clear hSw; go_simp; first | done | with_reducible rfl)
    simp only [List.setIfInBounds_toArray, List.set_cons_zero, List.set_cons_succ]
    refine held_take 7 14 (v := ?_) rfl rfl (by kernel_rfl) (by kernel_rfl) (by kernel_rfl) (fun _ _ _ _ h => h) (by rfl) ?_ hHeld ?_
    rotate_left; · (intro w hSw; clear hSw; go_simp; first | done | with_reducible rfl)
    simp only [List.setIfInBounds_toArray, List.set_cons_zero, List.set_cons_succ]
    refine held_take 8 15 (v := ?_) rfl rfl (by kernel_rfl) (by kernel_rfl) (by kernel_rfl) (fun _ _ _ _ h => h) (by rfl) ?_ hHeld ?_
    rotate_left; · (intro w hSw; obtain ⟨hS0, hS1, hS2, hS3, hS4, hS5, hS6⟩ := hSw; go_simp; first | done | with_reducible rfl)
    simp only [List.setIfInBounds_toArray, List.set_cons_zero, List.set_cons_succ]
    refine held_take 10 17 (v := ?_) rfl rfl (by kernel_rfl) (by kernel_rfl) (by kernel_rfl) (fun _ _ _ _ h => h) (by rfl) ?_ hHeld ?_
    rotate_left; · (intro w hSw; obtain ⟨hS0, hS1, hS2, hS3, hS4, hS5, hS6⟩ := hSw; go_simp; first | done | with_reducible rfl)
    simp only [List.setIfInBounds_toArray, List.set_cons_zero, List.set_cons_succ]
    refine held_call 9 16 rfl rfl (by kernel_rfl) (by rfl) (f := 11) (args := ?_) ?_ ?_
    rotate_left; · (go_simp; first | done | with_reducible rfl)
    refine (check_any _ _ _).mono ?_; rintro e w' ⟨rfl, m⟩
    refine ⟨_, rfl, (keep7 m hHeld), fun hNew => ?_⟩; clear hHeld; have hHeld := hNew; clear hNew
    simp only [List.setIfInBounds_toArray, List.set_cons_zero, List.set_cons_succ, h1, h2, h3]
    refine held_call 11 18 rfl rfl (by kernel_rfl) (by rfl) (f := 12) (args := ?_) ?_ ?_
    rotate_left; · (go_simp; first | done | with_reducible rfl)
    refine (rcheck_any _ _ _).mono ?_; rintro e w' ⟨rfl, m⟩
    refine ⟨_, rfl, (keep7 m hHeld), fun hNew => ?_⟩; clear hHeld; have hHeld := hNew; clear hNew
    simp only [List.setIfInBounds_toArray, List.set_cons_zero, List.set_cons_succ, h1, h2, h3]
    refine held_take 12 19 (v := ?_) rfl rfl (by kernel_rfl) (by kernel_rfl) (by kernel_rfl) (fun _ _ _ _ h => h) (by rfl) ?_ hHeld ?_
    rotate_left; · (intro w hSw; clear hSw; go_simp; first | done | with_reducible rfl)
    simp only [List.setIfInBounds_toArray, List.set_cons_zero, List.set_cons_succ]
    refine held_take 13 20 (v := ?_) rfl rfl (by kernel_rfl) (by kernel_rfl) (by kernel_rfl) (fun _ _ _ _ h => h) (by rfl) ?_ hHeld ?_
    rotate_left; · (intro w hSw; clear hSw; go_simp; first | done | with_reducible rfl)
    simp only [List.setIfInBounds_toArray, List.set_cons_zero, List.set_cons_succ]
    refine held_take 14 21 (v := ?_) rfl rfl (by kernel_rfl) (by kernel_rfl) (by kernel_rfl) (fun _ _ _ _ h => h) (by rfl) ?_ hHeld ?_
    rotate_left; · (intro w hSw; clear hSw; go_simp; first | done | with_reducible rfl)
    simp only [List.setIfInBounds_toArray, List.set_cons_zero, List.set_cons_succ]
    refine held_take 15 22 (v := ?_) rfl rfl (by kernel_rfl) (by kernel_rfl) (by kernel_rfl) (fun _ _ _ _ h => h) (by rfl) ?_ hHeld ?_
    rotate_left; · (intro w hSw; obtain ⟨hS0, hS1, hS2, hS3, hS4, hS5, hS6⟩ := hSw; go_simp; first | done | with_reducible rfl)
    simp only [List.setIfInBounds_toArray, List.set_cons_zero, List.set_cons_succ]
    refine held_take 16 23 (v := ?_) rfl rfl (by kernel_rfl) (by kernel_rfl) (by kernel_rfl) (fun _ _ _ _ h => h) (by rfl) ?_ hHeld ?_
    rotate_left; · (intro w hSw; obtain ⟨hS0, hS1, hS2, hS3, hS4, hS5, hS6⟩ := hSw; go_simp; first | done | with_reducible rfl)
    simp only [List.setIfInBounds_toArray, List.set_cons_zero, List.set_cons_succ]
    refine held_call 17 24 rfl rfl (by kernel_rfl) (by rfl) (f := 9) (args := ?_) ?_ ?_
    rotate_left; · (go_simp; first | done | with_reducible rfl)
    refine (less_any _ _ _ _ _).mono ?_; rintro e w' ⟨rfl, m⟩
    refine ⟨_, rfl, (keep7 m hHeld), fun hNew => ?_⟩; clear hHeld; have hHeld := hNew; clear hNew
    simp only [List.setIfInBounds_toArray, List.set_cons_zero, List.set_cons_succ, h1, h2, h3]
    refine held_take 18 25 (v := ?_) rfl rfl (by kernel_rfl) (by kernel_rfl) (by kernel_rfl) (fun _ _ _ _ h => h) (by rfl) ?_ hHeld ?_
    rotate_left; · (intro w hSw; clear hSw; go_simp; first | done | with_reducible rfl)
    simp only [List.setIfInBounds_toArray, List.set_cons_zero, List.set_cons_succ]
    refine wpAnyH_done (by kernel_rfl) ?_ _
    go_wp2_with fail
    refine wp_region_held_drew (S := (fun w' => w'.cell? ⟨w.heap.size, 0, none⟩ = some (.int .i64 a0) ∧ w'.cell? ⟨w.heap.size, 1, none⟩ = some (.int .i64 a1) ∧ w'.cell? ⟨w.heap.size + 1, 0, none⟩ = some (.int .i64 b0) ∧ w'.cell? ⟨w.heap.size + 1, 1, none⟩ = some (.int .i64 b1) ∧ w'.cell? ⟨w.heap.size + 1 + 1, 0, none⟩ = some (.int .i64 c0) ∧ w'.cell? ⟨w.heap.size + 1 + 1, 1, none⟩ = some (.int .i64 c1) ∧ Mod (fun _ => False) w w')) (by kernel_rfl) (keepD hHeld) (fun hHeld => ?_)
    refine held_take 0 26 (v := ?_) rfl rfl (by kernel_rfl) (by kernel_rfl) (by kernel_rfl) (fun _ _ _ _ h => h) (by rfl) ?_ hHeld ?_
    rotate_left; · (intro w hSw; obtain ⟨hS0, hS1, hS2, hS3, hS4, hS5, hS6⟩ := hSw; go_simp; first | done | with_reducible rfl)
    simp only [List.setIfInBounds_toArray, List.set_cons_zero, List.set_cons_succ]
    refine held_take 1 27 (v := ?_) rfl rfl (by kernel_rfl) (by kernel_rfl) (by kernel_rfl) (fun _ _ _ _ h => h) (by rfl) ?_ hHeld ?_
    rotate_left; · (intro w hSw; obtain ⟨hS0, hS1, hS2, hS3, hS4, hS5, hS6⟩ := hSw; go_simp; first | done | with_reducible rfl)
    simp only [List.setIfInBounds_toArray, List.set_cons_zero, List.set_cons_succ]
    refine held_take 8 34 (v := ?_) rfl rfl (by kernel_rfl) (by kernel_rfl) (by kernel_rfl) (fun _ _ _ _ h => h) (by rfl) ?_ hHeld ?_
    rotate_left; · (intro w hSw; obtain ⟨hS0, hS1, hS2, hS3, hS4, hS5, hS6⟩ := hSw; go_simp; first | done | with_reducible rfl)
    simp only [List.setIfInBounds_toArray, List.set_cons_zero, List.set_cons_succ]
    refine held_take 9 35 (v := ?_) rfl rfl (by kernel_rfl) (by kernel_rfl) (by kernel_rfl) (fun _ _ _ _ h => h) (by rfl) ?_ hHeld ?_
    rotate_left; · (intro w hSw; obtain ⟨hS0, hS1, hS2, hS3, hS4, hS5, hS6⟩ := hSw; go_simp; first | done | with_reducible rfl)
    simp only [List.setIfInBounds_toArray, List.set_cons_zero, List.set_cons_succ]
    refine held_take 10 36 (v := .bool true) rfl rfl (by kernel_rfl) (by kernel_rfl) (by kernel_rfl) (fun _ _ _ _ h => h) (by rfl) ?_ hHeld ?_
    · (intro w hSw; clear hSw; have hn := he.out; clear he; by_cases e0 : a0 = b0 <;> by_cases e1 : a1 = b1 <;> first | (exfalso; simp [e0, e1] at hn; done) | (go_simp; done))
    simp only [List.setIfInBounds_toArray, List.set_cons_zero, List.set_cons_succ]
    refine held_call 2 28 rfl rfl (by kernel_rfl) (by rfl) (f := 9) (args := ?_) ?_ ?_
    rotate_left; · (go_simp; first | done | with_reducible rfl)
    refine (less_any _ _ _ _ _).mono ?_; rintro e w' ⟨rfl, m⟩
    refine ⟨_, rfl, (keep7 m hHeld), fun hNew => ?_⟩; clear hHeld; have hHeld := hNew; clear hNew
    simp only [List.setIfInBounds_toArray, List.set_cons_zero, List.set_cons_succ, h1, h2, h3]
    refine held_take 3 29 (v := ?_) rfl rfl (by kernel_rfl) (by kernel_rfl) (by kernel_rfl) (fun _ _ _ _ h => h) (by rfl) ?_ hHeld ?_
    rotate_left; · (intro w hSw; clear hSw; go_simp; first | done | with_reducible rfl)
    simp only [List.setIfInBounds_toArray, List.set_cons_zero, List.set_cons_succ]
    refine held_take 4 30 (v := ?_) rfl rfl (by kernel_rfl) (by kernel_rfl) (by kernel_rfl) (fun _ _ _ _ h => h) (by rfl) ?_ hHeld ?_
    rotate_left; · (intro w hSw; obtain ⟨hS0, hS1, hS2, hS3, hS4, hS5, hS6⟩ := hSw; go_simp; first | done | with_reducible rfl)
    simp only [List.setIfInBounds_toArray, List.set_cons_zero, List.set_cons_succ]
    refine held_take 5 31 (v := ?_) rfl rfl (by kernel_rfl) (by kernel_rfl) (by kernel_rfl) (fun _ _ _ _ h => h) (by rfl) ?_ hHeld ?_
    rotate_left; · (intro w hSw; obtain ⟨hS0, hS1, hS2, hS3, hS4, hS5, hS6⟩ := hSw; go_simp; first | done | with_reducible rfl)
    simp only [List.setIfInBounds_toArray, List.set_cons_zero, List.set_cons_succ]
    refine held_call 6 32 rfl rfl (by kernel_rfl) (by rfl) (f := 9) (args := ?_) ?_ ?_
    rotate_left; · (go_simp; first | done | with_reducible rfl)
    refine (less_any _ _ _ _ _).mono ?_; rintro e w' ⟨rfl, m⟩
    refine ⟨_, rfl, (keep7 m hHeld), fun hNew => ?_⟩; clear hHeld; have hHeld := hNew; clear hNew
    simp only [List.setIfInBounds_toArray, List.set_cons_zero, List.set_cons_succ, h1, h2, h3]
    refine held_take 7 33 (v := ?_) rfl rfl (by kernel_rfl) (by kernel_rfl) (by kernel_rfl) (fun _ _ _ _ h => h) (by rfl) ?_ hHeld ?_
    rotate_left; · (intro w hSw; clear hSw; go_simp; first | done | with_reducible rfl)
    simp only [List.setIfInBounds_toArray, List.set_cons_zero, List.set_cons_succ]
    refine held_take 11 37 (v := ?_) rfl rfl (by kernel_rfl) (by kernel_rfl) (by kernel_rfl) (fun _ _ _ _ h => h) (by rfl) ?_ hHeld ?_
    rotate_left; · (intro w hSw; clear hSw; go_simp; first | done | with_reducible rfl)
    simp only [List.setIfInBounds_toArray, List.set_cons_zero, List.set_cons_succ]
    refine held_take 12 38 (v := ?_) rfl rfl (by kernel_rfl) (by kernel_rfl) (by kernel_rfl) (fun _ _ _ _ h => h) (by rfl) ?_ hHeld ?_
    rotate_left; · (intro w hSw; clear hSw; go_simp; first | done | with_reducible rfl)
    simp only [List.setIfInBounds_toArray, List.set_cons_zero, List.set_cons_succ]
    refine held_take 13 39 (v := ?_) rfl rfl (by kernel_rfl) (by kernel_rfl) (by kernel_rfl) (fun _ _ _ _ h => h) (by rfl) ?_ hHeld ?_
    rotate_left; · (intro w hSw; obtain ⟨hS0, hS1, hS2, hS3, hS4, hS5, hS6⟩ := hSw; go_simp; first | done | with_reducible rfl)
    simp only [List.setIfInBounds_toArray, List.set_cons_zero, List.set_cons_succ]
    refine held_take 14 40 (v := ?_) rfl rfl (by kernel_rfl) (by kernel_rfl) (by kernel_rfl) (fun _ _ _ _ h => h) (by rfl) ?_ hHeld ?_
    rotate_left; · (intro w hSw; obtain ⟨hS0, hS1, hS2, hS3, hS4, hS5, hS6⟩ := hSw; go_simp; first | done | with_reducible rfl)
    simp only [List.setIfInBounds_toArray, List.set_cons_zero, List.set_cons_succ]
    refine held_call 15 41 rfl rfl (by kernel_rfl) (by rfl) (f := 9) (args := ?_) ?_ ?_
    rotate_left; · (go_simp; first | done | with_reducible rfl)
    refine (less_any _ _ _ _ _).mono ?_; rintro e w' ⟨rfl, m⟩
    refine ⟨_, rfl, (keep7 m hHeld), fun hNew => ?_⟩; clear hHeld; have hHeld := hNew; clear hNew
    simp only [List.setIfInBounds_toArray, List.set_cons_zero, List.set_cons_succ, h1, h2, h3]
    refine held_take 16 42 (v := ?_) rfl rfl (by kernel_rfl) (by kernel_rfl) (by kernel_rfl) (fun _ _ _ _ h => h) (by rfl) ?_ hHeld ?_
    rotate_left; · (intro w hSw; clear hSw; go_simp; first | done | with_reducible rfl)
    simp only [List.setIfInBounds_toArray, List.set_cons_zero, List.set_cons_succ]
    refine held_skip 17 43 rfl rfl (by kernel_rfl) (by kernel_rfl) (by kernel_rfl) (fun _ _ _ _ h => h) (by rfl) hHeld ?_
    simp only [List.setIfInBounds_toArray, List.set_cons_zero, List.set_cons_succ]
    refine held_skip 18 44 rfl rfl (by kernel_rfl) (by kernel_rfl) (by kernel_rfl) (fun _ _ _ _ h => h) (by rfl) hHeld ?_
    simp only [List.setIfInBounds_toArray, List.set_cons_zero, List.set_cons_succ]
    refine held_skip 19 45 rfl rfl (by kernel_rfl) (by kernel_rfl) (by kernel_rfl) (fun _ _ _ _ h => h) (by rfl) hHeld ?_
    simp only [List.setIfInBounds_toArray, List.set_cons_zero, List.set_cons_succ]
    refine held_take 20 46 (v := ?_) rfl rfl (by kernel_rfl) (by kernel_rfl) (by kernel_rfl) (fun _ _ _ _ h => h) (by rfl) ?_ hHeld ?_
    rotate_left; · (intro w hSw; clear hSw; go_simp; first | done | with_reducible rfl)
    simp only [List.setIfInBounds_toArray, List.set_cons_zero, List.set_cons_succ]
    refine held_take 21 47 (v := ?_) rfl rfl (by kernel_rfl) (by kernel_rfl) (by kernel_rfl) (fun _ _ _ _ h => h) (by rfl) ?_ hHeld ?_
    rotate_left; · (intro w hSw; clear hSw; go_simp; first | done | with_reducible rfl)
    simp only [List.setIfInBounds_toArray, List.set_cons_zero, List.set_cons_succ]
    refine wpAnyH_done (by kernel_rfl) ?_ _
    go_wp2_with fail
    refine (less_any _ _ _ _ _).mono ?_; rintro e w1 ⟨rfl, m1⟩
    rw [h1]
    have k1 := keep7 m1 hHeld
    clear hHeld m1
    obtain ⟨c0', c1', c2', c3', c4', c5', mw⟩ := k1
    go_wp2_with fail
    refine (awake_any _).mono ?_; rintro e w4 ⟨rfl, m4⟩
    go_wp2_with fail
    go_ret
    exact ⟨rfl, mw.trans m4 (fun _ e => e) (fun _ _ e => e)⟩

theorem eqn_no {a0 a1 b0 b1 : Int} (h : ¬ (a0 = b0 ∧ a1 = b1)) : Hid ((a0 == b0 && a1 == b1) = false) := by show _ = false; simpa using h
theorem eqn_yes {a0 a1 b0 b1 : Int} (h : a0 = b0 ∧ a1 = b1) : Hid ((a0 == b0 && a1 == b1) = true) := by show _ = true; simpa using h
theorem orders_any (a0 a1 b0 b1 c0 c1 : Int) (w : World) :
    Calls Try.prog 3 #[.agg #[.int .i64 a0, .int .i64 a1], .agg #[.int .i64 b0, .int .i64 b1], .agg #[.int .i64 c0, .int .i64 c1]] w fun e w' => e = .returned (.bool true) ∧ Mod (fun _ => False) w w' := by
  have h3 : lessB a0 a1 a0 a1 = false := lessB_no (by omega)
  by_cases hlt : a0 < b0 ∨ a0 = b0 ∧ a1 < b1
  · exact orders_lt a0 a1 b0 b1 c0 c1 w (lessB_yes hlt) (lessB_no (by omega)) h3 (eqn_no (by omega)) (fun h => by
      unfold lessB at h
      exact lessB_yes (by have := of_decide_eq_true h; omega))
  · by_cases hgt : b0 < a0 ∨ b0 = a0 ∧ b1 < a1
    · exact orders_gt a0 a1 b0 b1 c0 c1 w (lessB_no hlt) (lessB_yes hgt) h3 (eqn_no (by omega))
    · exact orders_eq a0 a1 b0 b1 c0 c1 w (lessB_no hlt) (lessB_no hgt) h3 (eqn_yes (by omega))
end Go.Proofs.Ytlphfkigjkebfaa
