/- ClockSpent: at the last time there is no next one; nothing of a clock that nobody made. -/
import Derived.Test.YtlphfkigjkebfaaOrd
import Derived.LoopTactic
import Derived.Test.YtlphfkigjkebfaaBm
import Derived.Lib.Hide
namespace Go.Proofs.Ytlphfkigjkebfaa
open Go.RowKit
set_option linter.unusedSimpArgs false
set_option linter.unusedVariables false

/-- A clock that nobody made. -/
def NG (w : World) (p : Value) : Prop := p = .pointer none ∨ ∃ b t, p = .pointer (some ⟨b, 0, none⟩) ∧ Clk w b 0 t
theorem NG.kept {w w' : World} {p : Value} (h : NG w p) (m : Mod (fun _ => False) w w') : NG w' p := by
  rcases h with h | ⟨b, t, h, c⟩
  · exact .inl h
  · exact .inr ⟨b, t, h, c.kept m (fun e => e)⟩
theorem next_ng {w : World} {p : Value} (h : NG w p) :
    Calls Try.prog 15 #[p] w fun e w' => e = .returned (.tuple #[.agg #[.int .i64 0, .int .i64 0], .int .i64 1]) ∧ Mod (fun _ => False) w w' := by
  rcases h with h | ⟨b, t, h, c⟩
  · subst h; exact next_nil w
  · subst h; exact next_zero b t w c
theorem see_ng {w : World} {p : Value} (st sw : Int) (h : NG w p) :
    Calls Try.prog 18 #[p, .agg #[.int .i64 st, .int .i64 sw]] w fun e w' => e = .returned (.int .i64 1) ∧ Mod (fun _ => False) w w' := by
  rcases h with h | ⟨b, t, h, c⟩
  · subst h; exact see_nil st sw w
  · subst h; exact see_zero b t st sw w c
theorem now_ng {w : World} {p : Value} (h : NG w p) :
    Calls Try.prog 19 #[p] w fun e w' => e = .returned (.int .i64 0) ∧ w = w' := by
  rcases h with h | ⟨b, t, h, c⟩
  · subst h; exact now_nil w
  · subst h; exact now_zero b t w c

theorem keep6s {W w w' : World} (m : Mod (fun _ => False) w w') {p0 p1 p2 p3 p4 : Addr} {v0 v1 v2 v3 v4 p : Value}
    (h : w.cell? p0 = some v0 ∧ w.cell? p1 = some v1 ∧ w.cell? p2 = some v2 ∧ w.cell? p3 = some v3 ∧ w.cell? p4 = some v4 ∧ NG w p ∧ Mod (fun _ => False) W w) :
    w'.cell? p0 = some v0 ∧ w'.cell? p1 = some v1 ∧ w'.cell? p2 = some v2 ∧ w'.cell? p3 = some v3 ∧ w'.cell? p4 = some v4 ∧ NG w' p ∧ Mod (fun _ => False) W w' :=
  ⟨m.at h.1, m.at h.2.1, m.at h.2.2.1, m.at h.2.2.2.1, m.at h.2.2.2.2.1, h.2.2.2.2.2.1.kept m, h.2.2.2.2.2.2.trans m (fun _ e => e) (fun _ _ e => e)⟩
theorem start6s (w W : World) {st sw : Int} (hW : ((w.alloc (.cells #[.int .i64 st, .int .i64 sw] 23)).alloc (.cells #[.int .i64 0, .int .i64 0] 45)).alloc (.cells #[.pointer none, .pointer (some ⟨w.heap.size + 1, 0, none⟩)] 30) = W) :
    W.cell? ⟨w.heap.size, 0, none⟩ = some (.int .i64 st) ∧ W.cell? ⟨w.heap.size, 1, none⟩ = some (.int .i64 sw) ∧ W.cell? ⟨w.heap.size + 1 + 1, 0, none⟩ = some (.pointer none) ∧ W.cell? ⟨w.heap.size + 1 + 1, 1, none⟩ = some (.pointer (some ⟨w.heap.size + 1, 0, none⟩)) ∧ Clk W (w.heap.size + 1) 0 0 := by
  subst hW
  have n0 := fun (u : World) => (Mod.refl (fun _ => False) u).alloc
  have sz : ∀ (u : World) (o : Obj), (u.alloc o).heap.size = u.heap.size + 1 := by intro u o; simp
  have e1 := sz w (.cells #[.int .i64 st, .int .i64 sw] 23)
  have e2 := sz (w.alloc (.cells #[.int .i64 st, .int .i64 sw] 23)) (.cells #[.int .i64 0, .int .i64 0] 45)
  rw [e1] at e2
  have c := (Clk.new (w.alloc (.cells #[.int .i64 st, .int .i64 sw] 23)) 0 0).alloc (.cells #[.pointer none, .pointer (some ⟨w.heap.size + 1, 0, none⟩)] 30)
  rw [e1] at c
  exact ⟨(n0 _ _).at ((n0 _ _).at (cell_new w _ _ 0 _ rfl)), (n0 _ _).at ((n0 _ _).at (cell_new w _ _ 1 _ rfl)), cell_new' _ _ _ 0 _ _ e2.symm rfl, cell_new' _ _ _ 1 _ _ e2.symm rfl, c⟩

set_option maxHeartbeats 2000000 in
theorem spent_any (st sw who : Int) (w : World) :
    Calls Try.prog 6 #[.agg #[.int .i64 st, .int .i64 sw], .int .i64 who] w fun e w' => e = .returned (.bool true) ∧ Mod (fun _ => False) w w' := by
  go_enter Try.func6, Try.ntmps6
  go_wp2_with fail
  generalize hW : ((w.alloc (.cells #[.int .i64 st, .int .i64 sw] 23)).alloc (.cells #[.int .i64 0, .int .i64 0] 45)).alloc (.cells #[.pointer none, .pointer (some ⟨w.heap.size + 1, 0, none⟩)] 30) = W
  have mW0 : Mod (fun _ => False) w W := by rw [← hW]; exact (((Mod.refl _ _).alloc _).alloc _).alloc _
  have kW := start6s w W hW
  clear hW
  go_loopw [6] (fun i wr => ∃ k : Nat, k ≤ 2 ∧ i = .int .i64 k ∧ Mod (fun _ => False) W wr) (fun i _ => 2 - (intOf i).toNat)
  case atStart => exact ⟨0, by omega, rfl, Mod.refl _ _⟩
  case round =>
    obtain ⟨k, hk, rfl, hm⟩ := hrel
    by_cases hlt : k < 2
    · have g0 := hm.at kW.1
      have g1 := hm.at kW.2.1
      obtain ⟨p, gk, ngk⟩ : ∃ p, wr.cell? ⟨w.heap.size + 1 + 1, k, none⟩ = some p ∧ NG wr p := by
        have h2 : k = 0 ∨ k = 1 := by omega
        rcases h2 with rfl | rfl
        · exact ⟨_, hm.at kW.2.2.1, .inl rfl⟩
        · exact ⟨_, hm.at kW.2.2.2.1, .inr ⟨_, _, rfl, kW.2.2.2.2.kept hm (fun e => e)⟩⟩
      clear kW mW0
      go_wp2_with fail
      refine (next_ng ngk).mono ?_
      rintro e w1 ⟨rfl, m1⟩
      replace g0 := m1.at g0; replace g1 := m1.at g1; replace gk := m1.at gk; replace ngk := ngk.kept m1; replace hm := hm.trans m1 (U := fun _ => False) (fun _ e => e) (fun _ _ e => e)
      clear m1
      go_wp2_with fail
      have n1 : Mod (fun _ => False) w1 (w1.alloc (.cells #[.int .i64 0, .int .i64 0] 23)) := (Mod.refl _ _).alloc _
      have g70 := cell_new w1 #[.int .i64 0, .int .i64 0] 23 0 _ rfl
      have g71 := cell_new w1 #[.int .i64 0, .int .i64 0] 23 1 _ rfl
      replace g0 := n1.at g0; replace g1 := n1.at g1; replace gk := n1.at gk; replace ngk := (ngk.kept n1); have mW := hm.trans n1 (U := fun _ => False) (fun _ e => e) (fun _ _ e => e)
      clear n1 hm
      refine wp_region_held_drew (S := (fun w' => w'.cell? ⟨w.heap.size, 0, none⟩ = some (.int .i64 st) ∧ w'.cell? ⟨w.heap.size, 1, none⟩ = some (.int .i64 sw) ∧ w'.cell? ⟨w.heap.size + 1 + 1, k, none⟩ = some p ∧ w'.cell? ⟨w1.heap.size, 0, none⟩ = some (.int .i64 0) ∧ w'.cell? ⟨w1.heap.size, 1, none⟩ = some (.int .i64 0) ∧ NG w' p ∧ Mod (fun _ => False) W w')) (by kernel_rfl) ⟨g0, g1, gk, g70, g71, ngk.kept ((Mod.refl _ _).drew), mW.drew⟩ (fun hHeld => ?_)
      refine held_take 0 32 (v := ?_) rfl rfl (by kernel_rfl) (by kernel_rfl) (by kernel_rfl) (fun _ _ _ _ h => h) (by rfl) ?_ hHeld ?_
      rotate_left; · (intro w hSw; clear hSw; go_simp; first | done | with_reducible rfl)
      simp only [List.setIfInBounds_toArray, List.set_cons_zero, List.set_cons_succ]
      refine held_take 1 33 (v := ?_) rfl rfl (by kernel_rfl) (by kernel_rfl) (by kernel_rfl) (fun _ _ _ _ h => h) (by rfl) ?_ hHeld ?_
      rotate_left; · (intro w hSw; clear hSw; go_simp; first | done | with_reducible rfl)
      simp only [List.setIfInBounds_toArray, List.set_cons_zero, List.set_cons_succ]
      refine held_take 2 34 (v := ?_) rfl rfl (by kernel_rfl) (by kernel_rfl) (by kernel_rfl) (fun _ _ _ _ h => h) (by rfl) ?_ hHeld ?_
      rotate_left; · (intro w hSw; clear hSw; go_simp; first | done | with_reducible rfl)
      simp only [List.setIfInBounds_toArray, List.set_cons_zero, List.set_cons_succ]
      refine held_take 3 35 (v := ?_) rfl rfl (by kernel_rfl) (by kernel_rfl) (by kernel_rfl) (fun _ _ _ _ h => h) (by rfl) ?_ hHeld ?_
      rotate_left; · (intro w hSw; obtain ⟨hS0, hS1, hS2, hS3, hS4, hS5, hS6⟩ := hSw; go_simp; first | done | with_reducible rfl)
      simp only [List.setIfInBounds_toArray, List.set_cons_zero, List.set_cons_succ]
      refine held_take 4 36 (v := ?_) rfl rfl (by kernel_rfl) (by kernel_rfl) (by kernel_rfl) (fun _ _ _ _ h => h) (by rfl) ?_ hHeld ?_
      rotate_left; · (intro w hSw; obtain ⟨hS0, hS1, hS2, hS3, hS4, hS5, hS6⟩ := hSw; go_simp; first | done | with_reducible rfl)
      simp only [List.setIfInBounds_toArray, List.set_cons_zero, List.set_cons_succ]
      refine held_call 5 37 rfl rfl (by kernel_rfl) (by rfl) (f := 18) (args := ?_) ?_ ?_
      rotate_left; · (go_simp; first | done | with_reducible rfl)
      refine (see_ng _ _ hHeld.2.2.2.2.2.1).mono ?_; rintro e w' ⟨rfl, m⟩
      refine ⟨_, rfl, (keep6s m hHeld), fun hNew => ?_⟩; clear hHeld; have hHeld := hNew; clear hNew
      simp only [List.setIfInBounds_toArray, List.set_cons_zero, List.set_cons_succ]
      refine held_take 6 38 (v := ?_) rfl rfl (by kernel_rfl) (by kernel_rfl) (by kernel_rfl) (fun _ _ _ _ h => h) (by rfl) ?_ hHeld ?_
      rotate_left; · (intro w hSw; clear hSw; go_simp; first | done | with_reducible rfl)
      simp only [List.setIfInBounds_toArray, List.set_cons_zero, List.set_cons_succ]
      refine held_take 7 39 (v := ?_) rfl rfl (by kernel_rfl) (by kernel_rfl) (by kernel_rfl) (fun _ _ _ _ h => h) (by rfl) ?_ hHeld ?_
      rotate_left; · (intro w hSw; clear hSw; go_simp; first | done | with_reducible rfl)
      simp only [List.setIfInBounds_toArray, List.set_cons_zero, List.set_cons_succ]
      refine held_take 8 40 (v := ?_) rfl rfl (by kernel_rfl) (by kernel_rfl) (by kernel_rfl) (fun _ _ _ _ h => h) (by rfl) ?_ hHeld ?_
      rotate_left; · (intro w hSw; obtain ⟨hS0, hS1, hS2, hS3, hS4, hS5, hS6⟩ := hSw; go_simp; first | done | with_reducible rfl)
      simp only [List.setIfInBounds_toArray, List.set_cons_zero, List.set_cons_succ]
      refine held_take 9 41 (v := ?_) rfl rfl (by kernel_rfl) (by kernel_rfl) (by kernel_rfl) (fun _ _ _ _ h => h) (by rfl) ?_ hHeld ?_
      rotate_left; · (intro w hSw; clear hSw; go_simp; first | done | with_reducible rfl)
      simp only [List.setIfInBounds_toArray, List.set_cons_zero, List.set_cons_succ]
      refine held_take 10 42 (v := ?_) rfl rfl (by kernel_rfl) (by kernel_rfl) (by kernel_rfl) (fun _ _ _ _ h => h) (by rfl) ?_ hHeld ?_
      rotate_left; · (intro w hSw; clear hSw; go_simp; first | done | with_reducible rfl)
      simp only [List.setIfInBounds_toArray, List.set_cons_zero, List.set_cons_succ]
      refine held_take 11 43 (v := ?_) rfl rfl (by kernel_rfl) (by kernel_rfl) (by kernel_rfl) (fun _ _ _ _ h => h) (by rfl) ?_ hHeld ?_
      rotate_left; · (intro w hSw; clear hSw; go_simp; first | done | with_reducible rfl)
      simp only [List.setIfInBounds_toArray, List.set_cons_zero, List.set_cons_succ]
      refine held_take 12 44 (v := ?_) rfl rfl (by kernel_rfl) (by kernel_rfl) (by kernel_rfl) (fun _ _ _ _ h => h) (by rfl) ?_ hHeld ?_
      rotate_left; · (intro w hSw; clear hSw; go_simp; first | done | with_reducible rfl)
      simp only [List.setIfInBounds_toArray, List.set_cons_zero, List.set_cons_succ]
      refine held_take 13 45 (v := ?_) rfl rfl (by kernel_rfl) (by kernel_rfl) (by kernel_rfl) (fun _ _ _ _ h => h) (by rfl) ?_ hHeld ?_
      rotate_left; · (intro w hSw; clear hSw; go_simp; first | done | with_reducible rfl)
      simp only [List.setIfInBounds_toArray, List.set_cons_zero, List.set_cons_succ]
      refine held_take 14 46 (v := ?_) rfl rfl (by kernel_rfl) (by kernel_rfl) (by kernel_rfl) (fun _ _ _ _ h => h) (by rfl) ?_ hHeld ?_
      rotate_left; · (intro w hSw; clear hSw; go_simp; first | done | with_reducible rfl)
      simp only [List.setIfInBounds_toArray, List.set_cons_zero, List.set_cons_succ]
      refine held_take 15 47 (v := ?_) rfl rfl (by kernel_rfl) (by kernel_rfl) (by kernel_rfl) (fun _ _ _ _ h => h) (by rfl) ?_ hHeld ?_
      rotate_left; · (intro w hSw; clear hSw; go_simp; first | done | with_reducible rfl)
      simp only [List.setIfInBounds_toArray, List.set_cons_zero, List.set_cons_succ]
      refine held_take 16 48 (v := ?_) rfl rfl (by kernel_rfl) (by kernel_rfl) (by kernel_rfl) (fun _ _ _ _ h => h) (by rfl) ?_ hHeld ?_
      rotate_left; · (intro w hSw; clear hSw; go_simp; first | done | with_reducible rfl)
      simp only [List.setIfInBounds_toArray, List.set_cons_zero, List.set_cons_succ]
      refine held_take 17 49 (v := ?_) rfl rfl (by kernel_rfl) (by kernel_rfl) (by kernel_rfl) (fun _ _ _ _ h => h) (by rfl) ?_ hHeld ?_
      rotate_left; · (intro w hSw; clear hSw; go_simp; first | done | with_reducible rfl)
      simp only [List.setIfInBounds_toArray, List.set_cons_zero, List.set_cons_succ]
      refine held_take 18 50 (v := ?_) rfl rfl (by kernel_rfl) (by kernel_rfl) (by kernel_rfl) (fun _ _ _ _ h => h) (by rfl) ?_ hHeld ?_
      rotate_left; · (intro w hSw; clear hSw; go_simp; first | done | with_reducible rfl)
      simp only [List.setIfInBounds_toArray, List.set_cons_zero, List.set_cons_succ]
      refine held_take 19 51 (v := ?_) rfl rfl (by kernel_rfl) (by kernel_rfl) (by kernel_rfl) (fun _ _ _ _ h => h) (by rfl) ?_ hHeld ?_
      rotate_left; · (intro w hSw; clear hSw; go_simp; first | done | with_reducible rfl)
      simp only [List.setIfInBounds_toArray, List.set_cons_zero, List.set_cons_succ]
      refine held_take 20 52 (v := ?_) rfl rfl (by kernel_rfl) (by kernel_rfl) (by kernel_rfl) (fun _ _ _ _ h => h) (by rfl) ?_ hHeld ?_
      rotate_left; · (intro w hSw; obtain ⟨hS0, hS1, hS2, hS3, hS4, hS5, hS6⟩ := hSw; go_simp; first | done | with_reducible rfl)
      simp only [List.setIfInBounds_toArray, List.set_cons_zero, List.set_cons_succ]
      refine held_call 21 53 rfl rfl (by kernel_rfl) (by rfl) (f := 19) (args := ?_) ?_ ?_
      rotate_left; · (go_simp; first | done | with_reducible rfl)
      refine (now_ng hHeld.2.2.2.2.2.1).mono ?_; rintro e w' ⟨rfl, rfl⟩
      refine ⟨_, rfl, hHeld, fun hNew => ?_⟩; clear hHeld; have hHeld := hNew; clear hNew
      simp only [List.setIfInBounds_toArray, List.set_cons_zero, List.set_cons_succ]
      refine held_take 22 54 (v := ?_) rfl rfl (by kernel_rfl) (by kernel_rfl) (by kernel_rfl) (fun _ _ _ _ h => h) (by rfl) ?_ hHeld ?_
      rotate_left; · (intro w hSw; clear hSw; go_simp; first | done | with_reducible rfl)
      simp only [List.setIfInBounds_toArray, List.set_cons_zero, List.set_cons_succ]
      refine held_take 23 55 (v := ?_) rfl rfl (by kernel_rfl) (by kernel_rfl) (by kernel_rfl) (fun _ _ _ _ h => h) (by rfl) ?_ hHeld ?_
      rotate_left; · (intro w hSw; clear hSw; go_simp; first | done | with_reducible rfl)
      simp only [List.setIfInBounds_toArray, List.set_cons_zero, List.set_cons_succ]
      refine wpAnyH_done (by kernel_rfl) ?_ _
      obtain ⟨_, _, _, _, _, _, hm⟩ := hHeld
      go_wp2_with fail
      go_roundw
      case rel => exact ⟨k + 1, by omega, by go_num, hm⟩
      case measure => simp [intOf]; omega
    · obtain rfl : k = 2 := by omega
      go_wp2_with fail
      have hq : wrap64 (1 + bits BinOp.and IntKind.i64 who 3) = 1 + who % 4 := by rw [i64_and3]; unfold wrap64; omega
      have Hq := Lib.hid hq
      rw [hq]
      clear hq
      refine (new_yes _ _ (by omega) (by omega)).mono ?_
      rintro e w1 ⟨rfl, rfl⟩
      have c1 := Clk.new wr (1 + who % 4) 0
      have m1 : Mod (fun _ => False) w (wr.alloc (.cells #[.int .i64 (1 + who % 4), .int .i64 0] 45)) := (mW0.trans hm (fun _ e => e) (fun _ _ e => e)).alloc _
      have hwr : w.heap.size ≤ wr.heap.size := (mW0.trans hm (U := fun _ => False) (fun _ e => e) (fun _ _ e => e)).size
      clear kW hm mW0
      go_wp2_with fail
      refine (see_yes _ _ _ _ _ _ c1 (by omega) rfl).mono ?_
      rintro e w2 ⟨rfl, c2, m2⟩
      replace m2 := m1.trans m2 (U := (· = wr.heap.size)) (fun _ e => e.elim) (fun _ _ e => e)
      clear c1 m1
      have hx : mxI 0 1099511627774 = 1099511627774 := rfl
      rw [hx] at c2
      clear hx
      go_wp2_with fail
      refine (next_yes _ _ _ _ c2 (by omega) (by omega) (by omega)).mono ?_
      rintro e w3 ⟨rfl, c3, m3⟩
      replace m3 := m2.trans m3 (U := (· = wr.heap.size)) (fun _ e => e) (fun _ _ e => e)
      clear c2 m2
      go_wp2_with fail
      have hx : (1099511627774 : Int) + 1 = 1099511627775 := rfl
      rw [hx] at c3
      clear hx
      have b0 := cell_new w3 #[.int .i64 1099511627775, .int .i64 (1 + who % 4)] 23 0 _ rfl
      refine (next_spent _ _ _ _ (c3.alloc _) (by omega) (by omega)).mono ?_
      rintro e w4 ⟨rfl, m4⟩
      have c4 := (c3.alloc (.cells #[.int .i64 1099511627775, .int .i64 (1 + who % 4)] 23)).kept m4 (fun e => e)
      replace b0 := m4.at b0
      replace m4 := (m3.alloc (.cells #[.int .i64 1099511627775, .int .i64 (1 + who % 4)] 23)).trans m4 (U := (· = wr.heap.size)) (fun _ e => e) (fun _ _ e => e.elim)
      clear m3 c3
      have hb4 := World.block_lt_of_cell? w4 _ b0
      go_wp2_with fail
      refine (now_yes _ _ _ _ (c4.alloc _) (by omega)).mono ?_
      rintro e w5 ⟨rfl, rfl⟩
      go_wp2_with fail
      refine (awake_any _).mono ?_
      rintro e w6 ⟨rfl, m6⟩
      go_wp2_with fail
      go_ret
      have n5 := (m4.alloc (.cells #[.int .i64 0, .int .i64 0] 23)).trans m6 (U := (· = wr.heap.size)) (fun _ e => e) (fun _ _ e => e.elim)
      exact ⟨rfl, n5.os, n5.tape, n5.output, n5.size, fun k hk _ => n5.block k hk (fun (e : k = _) => by omega)⟩
end Go.Proofs.Ytlphfkigjkebfaa
