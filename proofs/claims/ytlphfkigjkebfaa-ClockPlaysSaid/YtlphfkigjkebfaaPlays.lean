/- ClockPlays: whatever is seen, and asked for, a clock tells what the document's does. -/
import Derived.Test.YtlphfkigjkebfaaTwoP
import Derived.Test.YtlphfkigjkebfaaHelb
import Derived.Deep.DeepCutAuto
import Derived.Deep.CutBlock
namespace Go.Proofs.Ytlphfkigjkebfaa
open Go.RowKit
set_option linter.unusedSimpArgs false
set_option linter.unusedVariables false

/-- A clock, and the document's. -/
structure Pl (N : Nat) (w wr : World) (who t tq : Int) : Prop where
  clk : Clk wr N who t
  q : wr.heap[N + 1]? = some (.cells #[.int .i64 who, .int .i64 tq] 34 (0, 0))
  mod : Mod (fun _ => False) w wr
  base : N = w.heap.size
theorem Pl.kept {N : Nat} {w wr wr' : World} {who t tq : Int} (h : Pl N w wr who t tq) (m : Mod (fun _ => False) wr wr') : Pl N w wr' who t tq :=
  ⟨h.clk.kept m (fun e => e), m.blk h.q (fun e => e), h.mod.tr m, h.base⟩
theorem Pl.tick {N : Nat} {w wr wr' : World} {who t tq x : Int} (h : Pl N w wr who t tq) (c : Clk wr' N who x) (m : Mod (· = N) wr wr') : Pl N w wr' who x tq :=
  ⟨c, m.blk h.q (fun e => by omega), h.mod.new m (fun i e => by have := h.base; omega), h.base⟩
theorem Pl.set {N : Nat} {w wr : World} {who t tq : Int} (h : Pl N w wr who t tq) (x : Int) : Pl N w ((wr.setCell ⟨N + 1, 0, none⟩ (.int .i64 who)).setCell ⟨N + 1, 1, none⟩ (.int .i64 x)) who t x := by
  have m : Mod (· = N + 1) wr ((wr.setCell ⟨N + 1, 0, none⟩ (.int .i64 who)).setCell ⟨N + 1, 1, none⟩ (.int .i64 x)) := ((Mod.refl _ _).setCell (by intro _; rfl) _).setCell (by intro _; rfl) _
  exact ⟨h.clk.kept m (fun e => by omega), set_block (set_block h.q _) _, h.mod.new m (fun i e => by have := h.base; omega), h.base⟩
theorem pl_start (w : World) (who : Int) : Pl w.heap.size w ((w.alloc (.cells #[.int .i64 who, .int .i64 0] 45)).alloc (.cells #[.int .i64 who, .int .i64 0] 34)) who 0 0 :=
  ⟨(Clk.new w who 0).alloc _, new_block _ _ _ _ (by simp), ((Mod.refl _ _).alloc _).alloc _, rfl⟩
theorem mxI_bd {t st sw : Int} (h0 : 0 ≤ t) (h1 : t ≤ 1099511627775) (hm : mayB st sw = true) : 0 ≤ mxI t st ∧ mxI t st ≤ 1099511627775 := by
  have := of_decide_eq_true hm
  unfold mxI; split <;> omega

theorem keep_c {w0 w w' : World} {N : Nat} {who t tq : Int} (m : Mod (fun _ => False) w w') {p0 p1 p2 p3 : Addr} {v0 v1 v2 v3 : Value}
    (h : w.cell? p0 = some v0 ∧ w.cell? p1 = some v1 ∧ w.cell? p2 = some v2 ∧ w.cell? p3 = some v3 ∧ Pl N w0 w who t tq) :
    w'.cell? p0 = some v0 ∧ w'.cell? p1 = some v1 ∧ w'.cell? p2 = some v2 ∧ w'.cell? p3 = some v3 ∧ Pl N w0 w' who t tq :=
  ⟨m.at h.1, m.at h.2.1, m.at h.2.2.1, m.at h.2.2.2.1, h.2.2.2.2.kept m⟩

theorem keep_d {w0 w : World} {N B : Nat} {who t tq : Int} {p0 p1 p2 p3 : Addr} {v0 v1 v2 v3 : Value} {u v : Value}
    (h : w.cell? p0 = some v0 ∧ w.cell? p1 = some v1 ∧ w.cell? p2 = some v2 ∧ w.cell? p3 = some v3 ∧ Pl N w0 w who t tq) (h0 : p0.block ≠ B) (h1 : p1.block ≠ B) (h2 : p2.block ≠ B) (h3 : p3.block ≠ B) (hN : N + 1 < B) :
    ((w.setCell ⟨B, 0, none⟩ u).setCell ⟨B, 1, none⟩ v).cell? p0 = some v0 ∧ ((w.setCell ⟨B, 0, none⟩ u).setCell ⟨B, 1, none⟩ v).cell? p1 = some v1 ∧ ((w.setCell ⟨B, 0, none⟩ u).setCell ⟨B, 1, none⟩ v).cell? p2 = some v2 ∧ ((w.setCell ⟨B, 0, none⟩ u).setCell ⟨B, 1, none⟩ v).cell? p3 = some v3 ∧ Pl N w0 ((w.setCell ⟨B, 0, none⟩ u).setCell ⟨B, 1, none⟩ v) who t tq := by
  have m : Mod (· = B) w ((w.setCell ⟨B, 0, none⟩ u).setCell ⟨B, 1, none⟩ v) := ((Mod.refl _ _).setCell (by intro _; rfl) _).setCell (by intro _; rfl) _
  have c : ∀ p x, w.cell? p = some x → p.block ≠ B → ((w.setCell ⟨B, 0, none⟩ u).setCell ⟨B, 1, none⟩ v).cell? p = some x := fun p x hp hb => (m.cell (World.block_lt_of_cell? w _ hp) hb).trans hp
  have pl := h.2.2.2.2
  exact ⟨c _ _ h.1 h0, c _ _ h.2.1 h1, c _ _ h.2.2.1 h2, c _ _ h.2.2.2.1 h3, pl.clk.kept m (fun e => by omega), m.blk pl.q (fun e => by omega), pl.mod.new m (fun i e => by have := pl.base; omega), pl.base⟩

set_option maxRecDepth 100000 in
set_option maxHeartbeats 8000000 in
theorem plays_any (who : Int) (a : Option Addr) (n cap : Nat) (z : Nat → Int × Int) (w : World) (hn : n ≤ 9223372036854775807) (hz : Stamps w a n z) :
    Calls Try.prog 4 #[.int .i64 who, .slice a n cap] w fun e w' => e = .returned (.bool true) ∧ Mod (fun _ => False) w w' := by
  by_cases hw : 1 ≤ who ∧ who ≤ 6
  · obtain ⟨hw1, hw2⟩ := hw
    go_enter Try.func4, Try.ntmps4
    go_wp2_with fail
    refine (new_yes _ _ hw1 hw2).mono ?_
    rintro e w1 ⟨rfl, rfl⟩
    go_wp2_with fail
    have hst := pl_start w who
    go_loopw [8] (fun i wr => ∃ (k : Nat) (t : Int), k ≤ n ∧ k ≤ 60 ∧ i = .int .i64 k ∧ 0 ≤ t ∧ t ≤ 1099511627775 ∧ Pl w.heap.size w wr who t t) (fun i _ => 60 - (intOf i).toNat)
    case atStart => exact ⟨0, 0, by omega, by omega, rfl, by omega, by omega, hst⟩
    case round =>
      clear hst
      obtain ⟨k, t, hk1, hk2, rfl, ht0, ht1, pl⟩ := hrel
      by_cases hlt1 : k < n
      · by_cases hlt2 : k < 60
        · obtain ⟨b, off, rfl, z0, z1⟩ := hz k hlt1
          replace z0 := pl.mod.at z0; replace z1 := pl.mod.at z1
          clear hz
          generalize (z k).1 = st at *
          generalize (z k).2 = sw at *
          have hi0 : (0 : Int) ≤ (k : Int) := by omega
          have hi1 : (k : Int) < (n : Int) := by omega
          by_cases hsw : sw = 0
          · have hb : (sw == 0) = true := by rw [beq_iff_eq]; exact hsw
            clear hsw
            by_cases htm : t < 1099511627775
            · skip
              go_wp2_with fail
              refine (next_yes _ _ _ _ pl.clk hw1 ht0 htm).mono ?_
              rintro e w2 ⟨rfl, c2, m2⟩
              have pl2 := pl.tick c2 m2
              clear pl c2 m2 z0 z1
              have s2 := new_block w2 #[.int .i64 (t + 1), .int .i64 who] 23 _ rfl
              have pl3 := pl2.kept ((Mod.refl (fun _ => False) w2).alloc (.cells #[.int .i64 (t + 1), .int .i64 who] 23))
              have q0 := blk_cell pl3.q (o := 0) rfl
              have q1 := blk_cell pl3.q (o := 1) rfl
              go_wp2_with fail
              refine (rnext_yes _ _ _ ht0 htm).mono ?_
              rintro e w4 ⟨rfl, m4⟩
              have pl4 := pl3.kept m4
              have s4 := m4.blk s2 (fun e => e)
              clear pl2 pl3 m4 q0 q1
              generalize w2.heap.size = B2 at *
              have pl5 := (pl4.kept (((Mod.refl (fun _ => False) w4).alloc (.cells #[.int .i64 who, .int .i64 (t + 1)] 34)).alloc (.cells #[.int .i64 (t + 1), .int .i64 who] 23)))
              have s40 := blk_cell s4 (o := 0) rfl
              have s41 := blk_cell s4 (o := 1) rfl
              have hB := lt_of_block s4
              have q0 := blk_cell pl5.q (o := 0) rfl
              have q1 := blk_cell pl5.q (o := 1) rfl
              have f0 := blk_free pl5.q (o := 0)
              have f1 := blk_free pl5.q (o := 1)
              have hN := lt_of_block pl4.q
              go_wp2_with fail
              have pl8 := pl5.set (t + 1)
              clear pl4 pl5 s4 s40 s41 q0 q1 f0 f1 s2
              refine wp_region_held_drew (S := (fun w' => w'.cell? ⟨w.heap.size + 1, 1, none⟩ = some (.int .i64 (t + 1)) ∧ Pl w.heap.size w w' who (t + 1) (t + 1))) (by kernel_rfl) ⟨blk_cell pl8.q rfl, pl8.kept (Mod.refl _ _).drew⟩ (fun hHeld => ?_)
              refine held_take 0 98 (v := ?_) rfl rfl (by kernel_rfl) (by kernel_rfl) (by kernel_rfl) (fun _ _ _ _ h => h) (by rfl) ?_ hHeld ?_
              rotate_left; · (intro w hSw; clear hSw; go_simp; first | done | with_reducible rfl)
              simp only [List.setIfInBounds_toArray, List.set_cons_zero, List.set_cons_succ]
              refine held_take 2 100 (v := ?_) rfl rfl (by kernel_rfl) (by kernel_rfl) (by kernel_rfl) (fun _ _ _ _ h => h) (by rfl) ?_ hHeld ?_
              rotate_left; · (intro w hSw; clear hSw; go_simp; first | done | with_reducible rfl)
              simp only [List.setIfInBounds_toArray, List.set_cons_zero, List.set_cons_succ]
              refine held_take 3 101 (v := ?_) rfl rfl (by kernel_rfl) (by kernel_rfl) (by kernel_rfl) (fun _ _ _ _ h => h) (by rfl) ?_ hHeld ?_
              rotate_left; · (intro w hSw; obtain ⟨hS0, hS1⟩ := hSw; go_simp; first | done | with_reducible rfl)
              simp only [List.setIfInBounds_toArray, List.set_cons_zero, List.set_cons_succ]
              refine held_call 1 99 rfl rfl (by kernel_rfl) (by rfl) (f := 19) (args := ?_) ?_ ?_
              rotate_left; · (go_simp; first | done | with_reducible rfl)
              refine (now_yes _ _ _ _ hHeld.2.clk hw1).mono ?_; rintro e w' ⟨rfl, rfl⟩
              refine ⟨_, rfl, ⟨hHeld.1, hHeld.2⟩, fun hNew => ?_⟩; clear hHeld; have hHeld := hNew; clear hNew
              simp only [List.setIfInBounds_toArray, List.set_cons_zero, List.set_cons_succ]
              refine held_take 4 102 (v := ?_) rfl rfl (by kernel_rfl) (by kernel_rfl) (by kernel_rfl) (fun _ _ _ _ h => h) (by rfl) ?_ hHeld ?_
              rotate_left; · (intro w hSw; clear hSw; go_simp; first | done | with_reducible rfl)
              simp only [List.setIfInBounds_toArray, List.set_cons_zero, List.set_cons_succ]
              refine wpAnyH_done (by kernel_rfl) ?_ _
              obtain ⟨_, pl9⟩ := hHeld
              clear pl8
              go_wp2_with fail
              go_roundw
              case rel => exact ⟨k + 1, _, by omega, by omega, by go_num, by omega, by omega, pl9⟩
              case measure => simp [intOf]; omega
            · skip
              go_wp2_with fail
              refine (next_spent _ _ _ _ pl.clk hw1 (by omega)).mono ?_
              rintro e w2 ⟨rfl, m2⟩
              have pl2 := pl.kept m2
              clear pl m2 z0 z1
              have s2 := new_block w2 #[.int .i64 (0), .int .i64 0] 23 _ rfl
              have pl3 := pl2.kept ((Mod.refl (fun _ => False) w2).alloc (.cells #[.int .i64 (0), .int .i64 0] 23))
              have q0 := blk_cell pl3.q (o := 0) rfl
              have q1 := blk_cell pl3.q (o := 1) rfl
              go_wp2_with fail
              refine (rnext_no _ _ _ (by omega)).mono ?_
              rintro e w4 ⟨rfl, m4⟩
              have pl4 := pl3.kept m4
              have s4 := m4.blk s2 (fun e => e)
              clear pl2 pl3 m4 q0 q1
              generalize w2.heap.size = B2 at *
              have pl5 := (pl4.kept (((Mod.refl (fun _ => False) w4).alloc (.cells #[.int .i64 who, .int .i64 (t)] 34)).alloc (.cells #[.int .i64 (0), .int .i64 0] 23)))
              have s40 := blk_cell s4 (o := 0) rfl
              have s41 := blk_cell s4 (o := 1) rfl
              have hB := lt_of_block s4
              have q0 := blk_cell pl5.q (o := 0) rfl
              have q1 := blk_cell pl5.q (o := 1) rfl
              have f0 := blk_free pl5.q (o := 0)
              have f1 := blk_free pl5.q (o := 1)
              have hN := lt_of_block pl4.q
              go_wp2_with fail
              have pl8 := pl5.set (t)
              clear pl4 pl5 s4 s40 s41 q0 q1 f0 f1 s2
              refine wp_region_held_drew (S := (fun w' => w'.cell? ⟨w.heap.size + 1, 1, none⟩ = some (.int .i64 (t)) ∧ Pl w.heap.size w w' who (t) (t))) (by kernel_rfl) ⟨blk_cell pl8.q rfl, pl8.kept (Mod.refl _ _).drew⟩ (fun hHeld => ?_)
              refine held_take 0 98 (v := ?_) rfl rfl (by kernel_rfl) (by kernel_rfl) (by kernel_rfl) (fun _ _ _ _ h => h) (by rfl) ?_ hHeld ?_
              rotate_left; · (intro w hSw; clear hSw; go_simp; first | done | with_reducible rfl)
              simp only [List.setIfInBounds_toArray, List.set_cons_zero, List.set_cons_succ]
              refine held_take 2 100 (v := ?_) rfl rfl (by kernel_rfl) (by kernel_rfl) (by kernel_rfl) (fun _ _ _ _ h => h) (by rfl) ?_ hHeld ?_
              rotate_left; · (intro w hSw; clear hSw; go_simp; first | done | with_reducible rfl)
              simp only [List.setIfInBounds_toArray, List.set_cons_zero, List.set_cons_succ]
              refine held_take 3 101 (v := ?_) rfl rfl (by kernel_rfl) (by kernel_rfl) (by kernel_rfl) (fun _ _ _ _ h => h) (by rfl) ?_ hHeld ?_
              rotate_left; · (intro w hSw; obtain ⟨hS0, hS1⟩ := hSw; go_simp; first | done | with_reducible rfl)
              simp only [List.setIfInBounds_toArray, List.set_cons_zero, List.set_cons_succ]
              refine held_call 1 99 rfl rfl (by kernel_rfl) (by rfl) (f := 19) (args := ?_) ?_ ?_
              rotate_left; · (go_simp; first | done | with_reducible rfl)
              refine (now_yes _ _ _ _ hHeld.2.clk hw1).mono ?_; rintro e w' ⟨rfl, rfl⟩
              refine ⟨_, rfl, ⟨hHeld.1, hHeld.2⟩, fun hNew => ?_⟩; clear hHeld; have hHeld := hNew; clear hNew
              simp only [List.setIfInBounds_toArray, List.set_cons_zero, List.set_cons_succ]
              refine held_take 4 102 (v := ?_) rfl rfl (by kernel_rfl) (by kernel_rfl) (by kernel_rfl) (fun _ _ _ _ h => h) (by rfl) ?_ hHeld ?_
              rotate_left; · (intro w hSw; clear hSw; go_simp; first | done | with_reducible rfl)
              simp only [List.setIfInBounds_toArray, List.set_cons_zero, List.set_cons_succ]
              refine wpAnyH_done (by kernel_rfl) ?_ _
              obtain ⟨_, pl9⟩ := hHeld
              clear pl8
              go_wp2_with fail
              go_roundw
              case rel => exact ⟨k + 1, _, by omega, by omega, by go_num, by omega, by omega, pl9⟩
              case measure => simp [intOf]; omega
          · have hb : (sw == 0) = false := by rw [beq_eq_false_iff_ne]; exact hsw
            clear hsw
            cases hm : mayB st sw
            · skip
              have q0 := blk_cell pl.q (o := 0) rfl
              have q1 := blk_cell pl.q (o := 1) rfl
              have hNq := lt_of_block pl.q
              have hbq : b < wr.heap.size := World.block_lt_of_cell? wr _ z0
              go_upto_region 16 with fail
              go_cut [14, 15] (fun s14 s15 wx => ∃ B, s14 = .pointer (some ⟨B, 0, none⟩) ∧ wx.heap[B]? = some (.cells #[.int .i64 who, .int .i64 (t)] 34 (0, 0)) ∧ s15 = .int .i64 1 ∧ wx.cell? ⟨b, off + k * 2, none⟩ = some (.int .i64 st) ∧ wx.cell? ⟨b, off + k * 2 + 1, none⟩ = some (.int .i64 sw) ∧ Pl w.heap.size w wx who t t)
              case first =>
                refine wp_region_held_drew (S := (fun w' => w'.cell? ⟨w.heap.size + 1, 0, none⟩ = some (.int .i64 who) ∧ w'.cell? ⟨w.heap.size + 1, 1, none⟩ = some (.int .i64 t) ∧ w'.cell? ⟨b, off + k * 2, none⟩ = some (.int .i64 st) ∧ w'.cell? ⟨b, off + k * 2 + 1, none⟩ = some (.int .i64 sw) ∧ Pl w.heap.size w w' who t t)) (by kernel_rfl) ⟨q0, q1, z0, z1, pl.kept (Mod.refl _ _).drew⟩ (fun hHeld => ?_)
                refine held_take 0 81 (v := ?_) rfl rfl (by kernel_rfl) (by kernel_rfl) (by kernel_rfl) (fun _ _ _ _ h => h) (by rfl) ?_ hHeld ?_
                rotate_left; · (intro w hSw; obtain ⟨hS0, hS1, hS2, hS3, hS4⟩ := hSw; go_simp; first | done | with_reducible rfl)
                simp only [List.setIfInBounds_toArray, List.set_cons_zero, List.set_cons_succ]
                refine held_take 1 82 (v := ?_) rfl rfl (by kernel_rfl) (by kernel_rfl) (by kernel_rfl) (fun _ _ _ _ h => h) (by rfl) ?_ hHeld ?_
                rotate_left; · (intro w hSw; clear hSw; go_simp; first | done | with_reducible rfl)
                simp only [List.setIfInBounds_toArray, List.set_cons_zero, List.set_cons_succ]
                refine held_take 2 83 (v := ?_) rfl rfl (by kernel_rfl) (by kernel_rfl) (by kernel_rfl) (fun _ _ _ _ h => h) (by rfl) ?_ hHeld ?_
                rotate_left; · (intro w hSw; clear hSw; go_simp; first | done | with_reducible rfl)
                simp only [List.setIfInBounds_toArray, List.set_cons_zero, List.set_cons_succ]
                refine held_take 3 84 (v := ?_) rfl rfl (by kernel_rfl) (by kernel_rfl) (by kernel_rfl) (fun _ _ _ _ h => h) (by rfl) ?_ hHeld ?_
                rotate_left; · (intro w hSw; clear hSw; go_simp; first | done | with_reducible rfl)
                simp only [List.setIfInBounds_toArray, List.set_cons_zero, List.set_cons_succ]
                refine held_take 4 85 (v := ?_) rfl rfl (by kernel_rfl) (by kernel_rfl) (by kernel_rfl) (fun _ _ _ _ h => h) (by rfl) ?_ hHeld ?_
                rotate_left; · (intro w hSw; obtain ⟨hS0, hS1, hS2, hS3, hS4⟩ := hSw; go_simp; first | done | with_reducible rfl)
                simp only [List.setIfInBounds_toArray, List.set_cons_zero, List.set_cons_succ]
                refine wpAnyH_ready (rs := [5, 9]) (by kernel_rfl) (by simp) ?_
                refine all_call 5 86 rfl rfl (by rfl) (f := 17) (args := ?_) ?_ ?_ ?_
                rotate_left; · (go_simp; first | done | with_reducible rfl)
                ·
                  refine (rsee_no _ _ _ _ _ hm).mono ?_; rintro e w' ⟨rfl, m⟩
                  have hCall := keep_c m hHeld
                  try have hz := m.blk (show (wr.alloc (.cells #[.int .i64 0, .int .i64 0] 34)).drew.heap[wr.heap.size]? = _ from new_block wr #[.int .i64 0, .int .i64 0] 34 _ rfl) (fun e => e)
                  try have hz0 := blk_cell hz (o := 0) rfl
                  try have hz1 := blk_cell hz (o := 1) rfl
                  try have hf0 := blk_free hz (o := 0)
                  try have hf1 := blk_free hz (o := 1)
                  refine ⟨_, rfl, (keep_c m hHeld), fun hNew => ?_⟩; clear hHeld; have hHeld := hNew; clear hNew
                  simp only [List.setIfInBounds_toArray, List.set_cons_zero, List.set_cons_succ]
                  refine held_take 6 80 (v := ?_) rfl rfl (by kernel_rfl) (by kernel_rfl) (by kernel_rfl) (fun _ _ _ _ h => h) (by rfl) ?_ hHeld ?_
                  rotate_left; · (intro w hSw; clear hSw; go_simp; first | done | with_reducible rfl)
                  simp only [List.setIfInBounds_toArray, List.set_cons_zero, List.set_cons_succ]
                  refine held_take 7 87 (v := ?_) rfl rfl (by kernel_rfl) (by kernel_rfl) (by kernel_rfl) (fun _ _ _ _ h => h) (by rfl) ?_ hHeld ?_
                  rotate_left; · (intro w hSw; clear hSw; go_simp; first | done | with_reducible rfl)
                  simp only [List.setIfInBounds_toArray, List.set_cons_zero, List.set_cons_succ]
                  refine held_take 8 88 (v := ?_) rfl rfl (by kernel_rfl) (by kernel_rfl) (by kernel_rfl) (fun _ _ _ _ h => h) (by rfl) ?_ hHeld ?_
                  rotate_left; · (intro w hSw; clear hSw; go_simp; first | done | with_reducible rfl)
                  simp only [List.setIfInBounds_toArray, List.set_cons_zero, List.set_cons_succ]
                  refine held_make 9 14 rfl rfl (by kernel_rfl) (by rfl) (v := ?_) (w' := ?_) ?_ ?_ (fun hNew => ?_)
                  rotate_left 2; · (go_simp; first | done | with_reducible rfl | (constructor <;> with_reducible rfl))
                  · exact keep_c ((Mod.refl _ _).alloc _) hHeld
                  clear hHeld; have hHeld := hNew; clear hNew
                  simp only [List.setIfInBounds_toArray, List.set_cons_zero, List.set_cons_succ]
                  refine held_store 10 rfl rfl (by kernel_rfl) (by rfl) (w' := ?_) ?_ ?_ (fun hNew => ?_)
                  rotate_left 1; · (go_simp; first | done | with_reducible rfl | (constructor <;> with_reducible rfl))
                  · first | exact keep_c ((Mod.refl _ _).alloc _) hCall | exact keep_d hCall (by simp; omega) (by simp; omega) (by simp; omega) (by simp; omega) (by omega)
                  clear hHeld; have hHeld := hNew; clear hNew
                  refine held_take 11 15 (v := ?_) rfl rfl (by kernel_rfl) (by kernel_rfl) (by kernel_rfl) (fun _ _ _ _ h => h) (by rfl) ?_ hHeld ?_
                  rotate_left; · (intro w hSw; clear hSw; go_simp; first | done | with_reducible rfl)
                  simp only [List.setIfInBounds_toArray, List.set_cons_zero, List.set_cons_succ]
                  refine wpAnyH_done (by kernel_rfl) ?_ _
                  go_wp2_with fail
                  go_meet
                  obtain ⟨_, _, zz0, zz1, pl9⟩ := hHeld
                  first | exact ⟨_, rfl, new_block w' _ 34 _ rfl, rfl, zz0, zz1, pl9⟩ | exact ⟨_, rfl, set_block (set_block hz _) _, rfl, zz0, zz1, pl9⟩
                refine all_make 9 14 rfl rfl (by rfl) (v := ?_) (w' := ?_) ?_ ?_ (fun hNew => ?_) AllReadyH.nil
                rotate_left 2; · (go_simp; first | done | with_reducible rfl | (constructor <;> with_reducible rfl))
                · exact keep_c ((Mod.refl _ _).alloc _) hHeld
                clear hHeld; have hHeld := hNew; clear hNew
                simp only [List.setIfInBounds_toArray, List.set_cons_zero, List.set_cons_succ]
                refine held_call 5 86 rfl rfl (by kernel_rfl) (by rfl) (f := 17) (args := ?_) ?_ ?_
                rotate_left; · (go_simp; first | done | with_reducible rfl)
                refine (rsee_no _ _ _ _ _ hm).mono ?_; rintro e w' ⟨rfl, m⟩
                have hCall := keep_c m hHeld
                try have hz := m.blk (show (wr.alloc (.cells #[.int .i64 0, .int .i64 0] 34)).drew.heap[wr.heap.size]? = _ from new_block wr #[.int .i64 0, .int .i64 0] 34 _ rfl) (fun e => e)
                try have hz0 := blk_cell hz (o := 0) rfl
                try have hz1 := blk_cell hz (o := 1) rfl
                try have hf0 := blk_free hz (o := 0)
                try have hf1 := blk_free hz (o := 1)
                refine ⟨_, rfl, (keep_c m hHeld), fun hNew => ?_⟩; clear hHeld; have hHeld := hNew; clear hNew
                simp only [List.setIfInBounds_toArray, List.set_cons_zero, List.set_cons_succ]
                refine held_take 6 80 (v := ?_) rfl rfl (by kernel_rfl) (by kernel_rfl) (by kernel_rfl) (fun _ _ _ _ h => h) (by rfl) ?_ hHeld ?_
                rotate_left; · (intro w hSw; clear hSw; go_simp; first | done | with_reducible rfl)
                simp only [List.setIfInBounds_toArray, List.set_cons_zero, List.set_cons_succ]
                refine held_take 7 87 (v := ?_) rfl rfl (by kernel_rfl) (by kernel_rfl) (by kernel_rfl) (fun _ _ _ _ h => h) (by rfl) ?_ hHeld ?_
                rotate_left; · (intro w hSw; clear hSw; go_simp; first | done | with_reducible rfl)
                simp only [List.setIfInBounds_toArray, List.set_cons_zero, List.set_cons_succ]
                refine held_take 8 88 (v := ?_) rfl rfl (by kernel_rfl) (by kernel_rfl) (by kernel_rfl) (fun _ _ _ _ h => h) (by rfl) ?_ hHeld ?_
                rotate_left; · (intro w hSw; clear hSw; go_simp; first | done | with_reducible rfl)
                simp only [List.setIfInBounds_toArray, List.set_cons_zero, List.set_cons_succ]
                refine held_store 10 rfl rfl (by kernel_rfl) (by rfl) (w' := ?_) ?_ ?_ (fun hNew => ?_)
                rotate_left 1; · (go_simp; first | done | with_reducible rfl | (constructor <;> with_reducible rfl))
                · first | exact keep_c ((Mod.refl _ _).alloc _) hCall | exact keep_d hCall (by simp; omega) (by simp; omega) (by simp; omega) (by simp; omega) (by omega)
                clear hHeld; have hHeld := hNew; clear hNew
                refine held_take 11 15 (v := ?_) rfl rfl (by kernel_rfl) (by kernel_rfl) (by kernel_rfl) (fun _ _ _ _ h => h) (by rfl) ?_ hHeld ?_
                rotate_left; · (intro w hSw; clear hSw; go_simp; first | done | with_reducible rfl)
                simp only [List.setIfInBounds_toArray, List.set_cons_zero, List.set_cons_succ]
                refine wpAnyH_done (by kernel_rfl) ?_ _
                go_wp2_with fail
                go_meet
                obtain ⟨_, _, zz0, zz1, pl9⟩ := hHeld
                first | exact ⟨_, rfl, new_block w' _ 34 _ rfl, rfl, zz0, zz1, pl9⟩ | exact ⟨_, rfl, set_block (set_block hz _) _, rfl, zz0, zz1, pl9⟩
              case rest =>
                clear pl z0 z1 q0 q1 hNq hbq
                obtain ⟨B, rfl, hB, rfl, z0, z1, pl⟩ := hcut
                go_wp2_with fail
                refine (see_no _ _ _ _ _ _ pl.clk hw1 hm).mono ?_
                rintro e w5 ⟨rfl, m5⟩
                have pl5 := pl.kept m5
                have hBn : B ≠ w.heap.size := by
                  intro e
                  have hh := pl.clk
                  unfold Clk at hh
                  rw [← e, hB] at hh
                  simp at hh
                have b5 := m5.blk hB (fun e => e)
                have x0 := blk_cell b5 (o := 0) rfl
                have x1 := blk_cell b5 (o := 1) rfl
                have q0 := blk_cell pl5.q (o := 0) rfl
                have q1 := blk_cell pl5.q (o := 1) rfl
                have f0 := blk_free pl5.q (o := 0)
                have f1 := blk_free pl5.q (o := 1)
                have HM := Lib.hid hm
                clear z0 z1 pl hm
                go_wp2_with fail
                have pl8 := pl5.set (t)
                have hbd := ht0
                clear pl5 q0 q1 f0 f1 x0 x1 b5 hB hBn m5
                refine wp_region_held_drew (S := (fun w' => w'.cell? ⟨w.heap.size + 1, 1, none⟩ = some (.int .i64 (t)) ∧ Pl w.heap.size w w' who (t) (t))) (by kernel_rfl) ⟨blk_cell pl8.q rfl, pl8.kept (Mod.refl _ _).drew⟩ (fun hHeld => ?_)
                refine held_take 0 98 (v := ?_) rfl rfl (by kernel_rfl) (by kernel_rfl) (by kernel_rfl) (fun _ _ _ _ h => h) (by rfl) ?_ hHeld ?_
                rotate_left; · (intro w hSw; clear hSw; go_simp; first | done | with_reducible rfl)
                simp only [List.setIfInBounds_toArray, List.set_cons_zero, List.set_cons_succ]
                refine held_take 2 100 (v := ?_) rfl rfl (by kernel_rfl) (by kernel_rfl) (by kernel_rfl) (fun _ _ _ _ h => h) (by rfl) ?_ hHeld ?_
                rotate_left; · (intro w hSw; clear hSw; go_simp; first | done | with_reducible rfl)
                simp only [List.setIfInBounds_toArray, List.set_cons_zero, List.set_cons_succ]
                refine held_take 3 101 (v := ?_) rfl rfl (by kernel_rfl) (by kernel_rfl) (by kernel_rfl) (fun _ _ _ _ h => h) (by rfl) ?_ hHeld ?_
                rotate_left; · (intro w hSw; obtain ⟨hS0, hS1⟩ := hSw; go_simp; first | done | with_reducible rfl)
                simp only [List.setIfInBounds_toArray, List.set_cons_zero, List.set_cons_succ]
                refine held_call 1 99 rfl rfl (by kernel_rfl) (by rfl) (f := 19) (args := ?_) ?_ ?_
                rotate_left; · (go_simp; first | done | with_reducible rfl)
                refine (now_yes _ _ _ _ hHeld.2.clk hw1).mono ?_; rintro e w' ⟨rfl, rfl⟩
                refine ⟨_, rfl, ⟨hHeld.1, hHeld.2⟩, fun hNew => ?_⟩; clear hHeld; have hHeld := hNew; clear hNew
                simp only [List.setIfInBounds_toArray, List.set_cons_zero, List.set_cons_succ]
                refine held_take 4 102 (v := ?_) rfl rfl (by kernel_rfl) (by kernel_rfl) (by kernel_rfl) (fun _ _ _ _ h => h) (by rfl) ?_ hHeld ?_
                rotate_left; · (intro w hSw; clear hSw; go_simp; first | done | with_reducible rfl)
                simp only [List.setIfInBounds_toArray, List.set_cons_zero, List.set_cons_succ]
                refine wpAnyH_done (by kernel_rfl) ?_ _
                obtain ⟨_, pl9⟩ := hHeld
                clear pl8
                go_wp2_with fail
                go_roundw
                case rel => exact ⟨k + 1, _, by omega, by omega, by go_num, by omega, by omega, pl9⟩
                case measure => simp [intOf]; omega
            · skip
              have q0 := blk_cell pl.q (o := 0) rfl
              have q1 := blk_cell pl.q (o := 1) rfl
              have hNq := lt_of_block pl.q
              have hbq : b < wr.heap.size := World.block_lt_of_cell? wr _ z0
              go_upto_region 16 with fail
              go_cut [14, 15] (fun s14 s15 wx => ∃ B, s14 = .pointer (some ⟨B, 0, none⟩) ∧ wx.heap[B]? = some (.cells #[.int .i64 who, .int .i64 (mxI t st)] 34 (0, 0)) ∧ s15 = .int .i64 0 ∧ wx.cell? ⟨b, off + k * 2, none⟩ = some (.int .i64 st) ∧ wx.cell? ⟨b, off + k * 2 + 1, none⟩ = some (.int .i64 sw) ∧ Pl w.heap.size w wx who t t)
              case first =>
                refine wp_region_held_drew (S := (fun w' => w'.cell? ⟨w.heap.size + 1, 0, none⟩ = some (.int .i64 who) ∧ w'.cell? ⟨w.heap.size + 1, 1, none⟩ = some (.int .i64 t) ∧ w'.cell? ⟨b, off + k * 2, none⟩ = some (.int .i64 st) ∧ w'.cell? ⟨b, off + k * 2 + 1, none⟩ = some (.int .i64 sw) ∧ Pl w.heap.size w w' who t t)) (by kernel_rfl) ⟨q0, q1, z0, z1, pl.kept (Mod.refl _ _).drew⟩ (fun hHeld => ?_)
                refine held_take 0 81 (v := ?_) rfl rfl (by kernel_rfl) (by kernel_rfl) (by kernel_rfl) (fun _ _ _ _ h => h) (by rfl) ?_ hHeld ?_
                rotate_left; · (intro w hSw; obtain ⟨hS0, hS1, hS2, hS3, hS4⟩ := hSw; go_simp; first | done | with_reducible rfl)
                simp only [List.setIfInBounds_toArray, List.set_cons_zero, List.set_cons_succ]
                refine held_take 1 82 (v := ?_) rfl rfl (by kernel_rfl) (by kernel_rfl) (by kernel_rfl) (fun _ _ _ _ h => h) (by rfl) ?_ hHeld ?_
                rotate_left; · (intro w hSw; clear hSw; go_simp; first | done | with_reducible rfl)
                simp only [List.setIfInBounds_toArray, List.set_cons_zero, List.set_cons_succ]
                refine held_take 2 83 (v := ?_) rfl rfl (by kernel_rfl) (by kernel_rfl) (by kernel_rfl) (fun _ _ _ _ h => h) (by rfl) ?_ hHeld ?_
                rotate_left; · (intro w hSw; clear hSw; go_simp; first | done | with_reducible rfl)
                simp only [List.setIfInBounds_toArray, List.set_cons_zero, List.set_cons_succ]
                refine held_take 3 84 (v := ?_) rfl rfl (by kernel_rfl) (by kernel_rfl) (by kernel_rfl) (fun _ _ _ _ h => h) (by rfl) ?_ hHeld ?_
                rotate_left; · (intro w hSw; clear hSw; go_simp; first | done | with_reducible rfl)
                simp only [List.setIfInBounds_toArray, List.set_cons_zero, List.set_cons_succ]
                refine held_take 4 85 (v := ?_) rfl rfl (by kernel_rfl) (by kernel_rfl) (by kernel_rfl) (fun _ _ _ _ h => h) (by rfl) ?_ hHeld ?_
                rotate_left; · (intro w hSw; obtain ⟨hS0, hS1, hS2, hS3, hS4⟩ := hSw; go_simp; first | done | with_reducible rfl)
                simp only [List.setIfInBounds_toArray, List.set_cons_zero, List.set_cons_succ]
                refine wpAnyH_ready (rs := [5, 9]) (by kernel_rfl) (by simp) ?_
                refine all_call 5 86 rfl rfl (by rfl) (f := 17) (args := ?_) ?_ ?_ ?_
                rotate_left; · (go_simp; first | done | with_reducible rfl)
                ·
                  refine (rsee_yes _ _ _ _ _ hm).mono ?_; rintro e w' ⟨rfl, m⟩
                  have hCall := keep_c m hHeld
                  try have hz := m.blk (show (wr.alloc (.cells #[.int .i64 0, .int .i64 0] 34)).drew.heap[wr.heap.size]? = _ from new_block wr #[.int .i64 0, .int .i64 0] 34 _ rfl) (fun e => e)
                  try have hz0 := blk_cell hz (o := 0) rfl
                  try have hz1 := blk_cell hz (o := 1) rfl
                  try have hf0 := blk_free hz (o := 0)
                  try have hf1 := blk_free hz (o := 1)
                  refine ⟨_, rfl, (keep_c m hHeld), fun hNew => ?_⟩; clear hHeld; have hHeld := hNew; clear hNew
                  simp only [List.setIfInBounds_toArray, List.set_cons_zero, List.set_cons_succ]
                  refine held_take 6 80 (v := ?_) rfl rfl (by kernel_rfl) (by kernel_rfl) (by kernel_rfl) (fun _ _ _ _ h => h) (by rfl) ?_ hHeld ?_
                  rotate_left; · (intro w hSw; clear hSw; go_simp; first | done | with_reducible rfl)
                  simp only [List.setIfInBounds_toArray, List.set_cons_zero, List.set_cons_succ]
                  refine held_take 7 87 (v := ?_) rfl rfl (by kernel_rfl) (by kernel_rfl) (by kernel_rfl) (fun _ _ _ _ h => h) (by rfl) ?_ hHeld ?_
                  rotate_left; · (intro w hSw; clear hSw; go_simp; first | done | with_reducible rfl)
                  simp only [List.setIfInBounds_toArray, List.set_cons_zero, List.set_cons_succ]
                  refine held_take 8 88 (v := ?_) rfl rfl (by kernel_rfl) (by kernel_rfl) (by kernel_rfl) (fun _ _ _ _ h => h) (by rfl) ?_ hHeld ?_
                  rotate_left; · (intro w hSw; clear hSw; go_simp; first | done | with_reducible rfl)
                  simp only [List.setIfInBounds_toArray, List.set_cons_zero, List.set_cons_succ]
                  refine held_make 9 14 rfl rfl (by kernel_rfl) (by rfl) (v := ?_) (w' := ?_) ?_ ?_ (fun hNew => ?_)
                  rotate_left 2; · (go_simp; first | done | with_reducible rfl | (constructor <;> with_reducible rfl))
                  · exact keep_c ((Mod.refl _ _).alloc _) hHeld
                  clear hHeld; have hHeld := hNew; clear hNew
                  simp only [List.setIfInBounds_toArray, List.set_cons_zero, List.set_cons_succ]
                  refine held_store 10 rfl rfl (by kernel_rfl) (by rfl) (w' := ?_) ?_ ?_ (fun hNew => ?_)
                  rotate_left 1; · (go_simp; first | done | with_reducible rfl | (constructor <;> with_reducible rfl))
                  · first | exact keep_c ((Mod.refl _ _).alloc _) hCall | exact keep_d hCall (by simp; omega) (by simp; omega) (by simp; omega) (by simp; omega) (by omega)
                  clear hHeld; have hHeld := hNew; clear hNew
                  refine held_take 11 15 (v := ?_) rfl rfl (by kernel_rfl) (by kernel_rfl) (by kernel_rfl) (fun _ _ _ _ h => h) (by rfl) ?_ hHeld ?_
                  rotate_left; · (intro w hSw; clear hSw; go_simp; first | done | with_reducible rfl)
                  simp only [List.setIfInBounds_toArray, List.set_cons_zero, List.set_cons_succ]
                  refine wpAnyH_done (by kernel_rfl) ?_ _
                  go_wp2_with fail
                  go_meet
                  obtain ⟨_, _, zz0, zz1, pl9⟩ := hHeld
                  first | exact ⟨_, rfl, new_block w' _ 34 _ rfl, rfl, zz0, zz1, pl9⟩ | exact ⟨_, rfl, set_block (set_block hz _) _, rfl, zz0, zz1, pl9⟩
                refine all_make 9 14 rfl rfl (by rfl) (v := ?_) (w' := ?_) ?_ ?_ (fun hNew => ?_) AllReadyH.nil
                rotate_left 2; · (go_simp; first | done | with_reducible rfl | (constructor <;> with_reducible rfl))
                · exact keep_c ((Mod.refl _ _).alloc _) hHeld
                clear hHeld; have hHeld := hNew; clear hNew
                simp only [List.setIfInBounds_toArray, List.set_cons_zero, List.set_cons_succ]
                refine held_call 5 86 rfl rfl (by kernel_rfl) (by rfl) (f := 17) (args := ?_) ?_ ?_
                rotate_left; · (go_simp; first | done | with_reducible rfl)
                refine (rsee_yes _ _ _ _ _ hm).mono ?_; rintro e w' ⟨rfl, m⟩
                have hCall := keep_c m hHeld
                try have hz := m.blk (show (wr.alloc (.cells #[.int .i64 0, .int .i64 0] 34)).drew.heap[wr.heap.size]? = _ from new_block wr #[.int .i64 0, .int .i64 0] 34 _ rfl) (fun e => e)
                try have hz0 := blk_cell hz (o := 0) rfl
                try have hz1 := blk_cell hz (o := 1) rfl
                try have hf0 := blk_free hz (o := 0)
                try have hf1 := blk_free hz (o := 1)
                refine ⟨_, rfl, (keep_c m hHeld), fun hNew => ?_⟩; clear hHeld; have hHeld := hNew; clear hNew
                simp only [List.setIfInBounds_toArray, List.set_cons_zero, List.set_cons_succ]
                refine held_take 6 80 (v := ?_) rfl rfl (by kernel_rfl) (by kernel_rfl) (by kernel_rfl) (fun _ _ _ _ h => h) (by rfl) ?_ hHeld ?_
                rotate_left; · (intro w hSw; clear hSw; go_simp; first | done | with_reducible rfl)
                simp only [List.setIfInBounds_toArray, List.set_cons_zero, List.set_cons_succ]
                refine held_take 7 87 (v := ?_) rfl rfl (by kernel_rfl) (by kernel_rfl) (by kernel_rfl) (fun _ _ _ _ h => h) (by rfl) ?_ hHeld ?_
                rotate_left; · (intro w hSw; clear hSw; go_simp; first | done | with_reducible rfl)
                simp only [List.setIfInBounds_toArray, List.set_cons_zero, List.set_cons_succ]
                refine held_take 8 88 (v := ?_) rfl rfl (by kernel_rfl) (by kernel_rfl) (by kernel_rfl) (fun _ _ _ _ h => h) (by rfl) ?_ hHeld ?_
                rotate_left; · (intro w hSw; clear hSw; go_simp; first | done | with_reducible rfl)
                simp only [List.setIfInBounds_toArray, List.set_cons_zero, List.set_cons_succ]
                refine held_store 10 rfl rfl (by kernel_rfl) (by rfl) (w' := ?_) ?_ ?_ (fun hNew => ?_)
                rotate_left 1; · (go_simp; first | done | with_reducible rfl | (constructor <;> with_reducible rfl))
                · first | exact keep_c ((Mod.refl _ _).alloc _) hCall | exact keep_d hCall (by simp; omega) (by simp; omega) (by simp; omega) (by simp; omega) (by omega)
                clear hHeld; have hHeld := hNew; clear hNew
                refine held_take 11 15 (v := ?_) rfl rfl (by kernel_rfl) (by kernel_rfl) (by kernel_rfl) (fun _ _ _ _ h => h) (by rfl) ?_ hHeld ?_
                rotate_left; · (intro w hSw; clear hSw; go_simp; first | done | with_reducible rfl)
                simp only [List.setIfInBounds_toArray, List.set_cons_zero, List.set_cons_succ]
                refine wpAnyH_done (by kernel_rfl) ?_ _
                go_wp2_with fail
                go_meet
                obtain ⟨_, _, zz0, zz1, pl9⟩ := hHeld
                first | exact ⟨_, rfl, new_block w' _ 34 _ rfl, rfl, zz0, zz1, pl9⟩ | exact ⟨_, rfl, set_block (set_block hz _) _, rfl, zz0, zz1, pl9⟩
              case rest =>
                clear pl z0 z1 q0 q1 hNq hbq
                obtain ⟨B, rfl, hB, rfl, z0, z1, pl⟩ := hcut
                go_wp2_with fail
                refine (see_yes _ _ _ _ _ _ pl.clk hw1 hm).mono ?_
                rintro e w5 ⟨rfl, c5, m5⟩
                have pl5 := pl.tick c5 m5
                have hBn : B ≠ w.heap.size := by
                  intro e
                  have hh := pl.clk
                  unfold Clk at hh
                  rw [← e, hB] at hh
                  simp at hh
                have b5 := m5.blk hB hBn
                have x0 := blk_cell b5 (o := 0) rfl
                have x1 := blk_cell b5 (o := 1) rfl
                have q0 := blk_cell pl5.q (o := 0) rfl
                have q1 := blk_cell pl5.q (o := 1) rfl
                have f0 := blk_free pl5.q (o := 0)
                have f1 := blk_free pl5.q (o := 1)
                have HM := Lib.hid hm
                clear z0 z1 pl hm
                go_wp2_with fail
                have pl8 := pl5.set (mxI t st)
                have hbd := mxI_bd ht0 ht1 HM.out
                clear pl5 q0 q1 f0 f1 x0 x1 b5 hB hBn m5 c5
                refine wp_region_held_drew (S := (fun w' => w'.cell? ⟨w.heap.size + 1, 1, none⟩ = some (.int .i64 (mxI t st)) ∧ Pl w.heap.size w w' who (mxI t st) (mxI t st))) (by kernel_rfl) ⟨blk_cell pl8.q rfl, pl8.kept (Mod.refl _ _).drew⟩ (fun hHeld => ?_)
                refine held_take 0 98 (v := ?_) rfl rfl (by kernel_rfl) (by kernel_rfl) (by kernel_rfl) (fun _ _ _ _ h => h) (by rfl) ?_ hHeld ?_
                rotate_left; · (intro w hSw; clear hSw; go_simp; first | done | with_reducible rfl)
                simp only [List.setIfInBounds_toArray, List.set_cons_zero, List.set_cons_succ]
                refine held_take 2 100 (v := ?_) rfl rfl (by kernel_rfl) (by kernel_rfl) (by kernel_rfl) (fun _ _ _ _ h => h) (by rfl) ?_ hHeld ?_
                rotate_left; · (intro w hSw; clear hSw; go_simp; first | done | with_reducible rfl)
                simp only [List.setIfInBounds_toArray, List.set_cons_zero, List.set_cons_succ]
                refine held_take 3 101 (v := ?_) rfl rfl (by kernel_rfl) (by kernel_rfl) (by kernel_rfl) (fun _ _ _ _ h => h) (by rfl) ?_ hHeld ?_
                rotate_left; · (intro w hSw; obtain ⟨hS0, hS1⟩ := hSw; go_simp; first | done | with_reducible rfl)
                simp only [List.setIfInBounds_toArray, List.set_cons_zero, List.set_cons_succ]
                refine held_call 1 99 rfl rfl (by kernel_rfl) (by rfl) (f := 19) (args := ?_) ?_ ?_
                rotate_left; · (go_simp; first | done | with_reducible rfl)
                refine (now_yes _ _ _ _ hHeld.2.clk hw1).mono ?_; rintro e w' ⟨rfl, rfl⟩
                refine ⟨_, rfl, ⟨hHeld.1, hHeld.2⟩, fun hNew => ?_⟩; clear hHeld; have hHeld := hNew; clear hNew
                simp only [List.setIfInBounds_toArray, List.set_cons_zero, List.set_cons_succ]
                refine held_take 4 102 (v := ?_) rfl rfl (by kernel_rfl) (by kernel_rfl) (by kernel_rfl) (fun _ _ _ _ h => h) (by rfl) ?_ hHeld ?_
                rotate_left; · (intro w hSw; clear hSw; go_simp; first | done | with_reducible rfl)
                simp only [List.setIfInBounds_toArray, List.set_cons_zero, List.set_cons_succ]
                refine wpAnyH_done (by kernel_rfl) ?_ _
                obtain ⟨_, pl9⟩ := hHeld
                clear pl8
                go_wp2_with fail
                go_roundw
                case rel => exact ⟨k + 1, _, by omega, by omega, by go_num, by omega, by omega, pl9⟩
                case measure => simp [intOf]; omega
        · skip
          have hm := pl.mod
          clear pl hz
          go_wp2_with fail
          refine (awake_any _).mono ?_
          rintro e w6 ⟨rfl, m6⟩
          go_wp2_with fail
          go_ret
          exact ⟨rfl, hm.tr m6⟩
      · skip
        have hm := pl.mod
        clear pl hz
        go_wp2_with fail
        refine (awake_any _).mono ?_
        rintro e w6 ⟨rfl, m6⟩
        go_wp2_with fail
        go_ret
        exact ⟨rfl, hm.tr m6⟩
  · go_enter Try.func4, Try.ntmps4
    go_wp2_with fail
    refine (new_no _ _ (by omega)).mono ?_
    rintro e w1 ⟨rfl, rfl⟩
    have hd : (decide (who < 1) || decide (6 < who)) = true := by simp; omega
    by_cases h1 : who < 1
    · clear hw
      go_wp2_with fail
      refine (awake_any _).mono ?_
      rintro e w6 ⟨rfl, m6⟩
      go_wp2_with fail
      go_ret
      exact ⟨rfl, m6⟩
    · have h2 : 6 < who := by omega
      clear hw
      go_wp2_with fail
      refine (awake_any _).mono ?_
      rintro e w6 ⟨rfl, m6⟩
      go_wp2_with fail
      go_ret
      exact ⟨rfl, m6⟩
end Go.Proofs.Ytlphfkigjkebfaa
