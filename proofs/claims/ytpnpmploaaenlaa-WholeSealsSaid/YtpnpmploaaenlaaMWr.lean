/- The library's Reverse at a row of four bytes. -/
import Derived.Test.YtpnpmploaaenlaaMW5
namespace Go.Proofs.Ytpnpmploaaenlaa.Wd
open Go.RowKit
set_option linter.unusedSimpArgs false
set_option linter.unusedVariables false

set_option maxRecDepth 100000 in
set_option maxHeartbeats 4000000 in
theorem rev_any (w : World) (g cap : Nat) (c0 c1 c2 c3 : Int) (hg : w.heap[g]? = some (.cells #[.int .u8 c0, .int .u8 c1, .int .u8 c2, .int .u8 c3] 5 (0, 0))) :
    Calls Try.prog 69 #[.slice (some ⟨g, 0, none⟩) 4 cap] w fun e w' => e = .returned (.tuple #[]) ∧ w'.heap[g]? = some (.cells #[.int .u8 c3, .int .u8 c2, .int .u8 c1, .int .u8 c0] 5 (0, 0)) ∧ Mod (fun k => k = g) w w' := by
  go_enter Try.func69, Try.ntmps69
  go_wp2_with fail
  go_loopw [2, 3] (fun i j wr => (i = .int .i64 0 ∧ j = .int .i64 3 ∧ wr.heap[g]? = some (.cells #[.int .u8 c0, .int .u8 c1, .int .u8 c2, .int .u8 c3] 5 (0, 0)) ∧ Mod (fun k => k = g) w wr) ∨ (i = .int .i64 1 ∧ j = .int .i64 2 ∧ wr.heap[g]? = some (.cells #[.int .u8 c3, .int .u8 c1, .int .u8 c2, .int .u8 c0] 5 (0, 0)) ∧ Mod (fun k => k = g) w wr) ∨ (i = .int .i64 2 ∧ j = .int .i64 1 ∧ wr.heap[g]? = some (.cells #[.int .u8 c3, .int .u8 c2, .int .u8 c1, .int .u8 c0] 5 (0, 0)) ∧ Mod (fun k => k = g) w wr)) (fun i _ _ => 3 - (intOf i).toNat)
  case atStart => exact .inl ⟨rfl, rfl, hg, Mod.refl _ _⟩
  case round =>
    rcases hrel with ⟨rfl, rfl, hb, hm⟩ | ⟨rfl, rfl, hb, hm⟩ | ⟨rfl, rfl, hb, hm⟩
    · have e0 : wr.cell? ⟨g, 0, none⟩ = some (.int .u8 c0) := blk_cell hb rfl
      have e3 : wr.cell? ⟨g, 3, none⟩ = some (.int .u8 c3) := blk_cell hb rfl
      have f0 : wr.frozen? ⟨g, 0, none⟩ = false := blk_free hb
      have f3 : wr.frozen? ⟨g, 3, none⟩ = false := blk_free hb
      go_wp2_with fail
      refine wp_region_held_drew (S := (fun _ => True)) (by kernel_rfl) trivial (fun hHeld => ?_)
      refine held_take 0 14 (v := ?_) rfl rfl (by kernel_rfl) (by kernel_rfl) (by kernel_rfl) (fun _ _ _ _ h => h) (by rfl) ?_ hHeld ?_
      rotate_left; · (intro w hSw; clear hSw; go_simp; first | done | with_reducible rfl)
      simp only [List.setIfInBounds_toArray, List.set_cons_zero, List.set_cons_succ]
      refine held_take 1 15 (v := ?_) rfl rfl (by kernel_rfl) (by kernel_rfl) (by kernel_rfl) (fun _ _ _ _ h => h) (by rfl) ?_ hHeld ?_
      rotate_left; · (intro w hSw; clear hSw; go_simp; first | done | with_reducible rfl)
      simp only [List.setIfInBounds_toArray, List.set_cons_zero, List.set_cons_succ]
      refine held_take 2 16 (v := ?_) rfl rfl (by kernel_rfl) (by kernel_rfl) (by kernel_rfl) (fun _ _ _ _ h => h) (by rfl) ?_ hHeld ?_
      rotate_left; · (intro w hSw; clear hSw; go_simp; first | done | with_reducible rfl)
      simp only [List.setIfInBounds_toArray, List.set_cons_zero, List.set_cons_succ]
      refine held_take 3 17 (v := ?_) rfl rfl (by kernel_rfl) (by kernel_rfl) (by kernel_rfl) (fun _ _ _ _ h => h) (by rfl) ?_ hHeld ?_
      rotate_left; · (intro w hSw; clear hSw; go_simp; first | done | with_reducible rfl)
      simp only [List.setIfInBounds_toArray, List.set_cons_zero, List.set_cons_succ]
      refine held_take 4 18 (v := ?_) rfl rfl (by kernel_rfl) (by kernel_rfl) (by kernel_rfl) (fun _ _ _ _ h => h) (by rfl) ?_ hHeld ?_
      rotate_left; · (intro w hSw; clear hSw; go_simp; first | done | with_reducible rfl)
      simp only [List.setIfInBounds_toArray, List.set_cons_zero, List.set_cons_succ]
      refine held_take 5 19 (v := ?_) rfl rfl (by kernel_rfl) (by kernel_rfl) (by kernel_rfl) (fun _ _ _ _ h => h) (by rfl) ?_ hHeld ?_
      rotate_left; · (intro w hSw; clear hSw; go_simp; first | done | with_reducible rfl)
      simp only [List.setIfInBounds_toArray, List.set_cons_zero, List.set_cons_succ]
      refine held_take 6 20 (v := ?_) rfl rfl (by kernel_rfl) (by kernel_rfl) (by kernel_rfl) (fun _ _ _ _ h => h) (by rfl) ?_ hHeld ?_
      rotate_left; · (intro w hSw; clear hSw; go_simp; first | done | with_reducible rfl)
      simp only [List.setIfInBounds_toArray, List.set_cons_zero, List.set_cons_succ]
      refine held_take 8 22 (v := ?_) rfl rfl (by kernel_rfl) (by kernel_rfl) (by kernel_rfl) (fun _ _ _ _ h => h) (by rfl) ?_ hHeld ?_
      rotate_left; · (intro w hSw; clear hSw; go_simp; first | done | with_reducible rfl)
      simp only [List.setIfInBounds_toArray, List.set_cons_zero, List.set_cons_succ]
      refine held_take 9 23 (v := ?_) rfl rfl (by kernel_rfl) (by kernel_rfl) (by kernel_rfl) (fun _ _ _ _ h => h) (by rfl) ?_ hHeld ?_
      rotate_left; · (intro w hSw; clear hSw; go_simp; first | done | with_reducible rfl)
      simp only [List.setIfInBounds_toArray, List.set_cons_zero, List.set_cons_succ]
      refine held_take 10 24 (v := ?_) rfl rfl (by kernel_rfl) (by kernel_rfl) (by kernel_rfl) (fun _ _ _ _ h => h) (by rfl) ?_ hHeld ?_
      rotate_left; · (intro w hSw; clear hSw; go_simp; first | done | with_reducible rfl)
      simp only [List.setIfInBounds_toArray, List.set_cons_zero, List.set_cons_succ]
      refine wpAnyH_ready (rs := [7, 11]) (by kernel_rfl) (by simp) ?_
      refine all_make 7 21 rfl rfl (by rfl) (v := .int .u8 c3) (w' := wr.drew) ?_ ?_ (fun hNew => ?_) ?_
      · (go_simp; first | done | with_reducible rfl)
      · trivial
      ·
        clear hHeld; have hHeld := hNew; clear hNew
        simp only [List.setIfInBounds_toArray, List.set_cons_zero, List.set_cons_succ]
        refine held_make 11 25 rfl rfl (by kernel_rfl) (by rfl) (v := .int .u8 c0) (w' := wr.drew) ?_ ?_ (fun hNew => ?_)
        · (go_simp; first | done | with_reducible rfl)
        · trivial
        clear hHeld; have hHeld := hNew; clear hNew
        simp only [List.setIfInBounds_toArray, List.set_cons_zero, List.set_cons_succ]
        refine held_take 12 26 (v := ?_) rfl rfl (by kernel_rfl) (by kernel_rfl) (by kernel_rfl) (fun _ _ _ _ h => h) (by rfl) ?_ hHeld ?_
        rotate_left; · (intro w hSw; clear hSw; go_simp; first | done | with_reducible rfl)
        simp only [List.setIfInBounds_toArray, List.set_cons_zero, List.set_cons_succ]
        refine held_store 13 rfl rfl (by kernel_rfl) (by rfl) (w' := ?_) ?_ ?_ (fun hNew => ?_)
        rotate_left 1; · (go_simp; first | done | with_reducible rfl | (constructor <;> with_reducible rfl))
        · trivial
        clear hHeld; have hHeld := hNew; clear hNew
        refine held_take 14 27 (v := ?_) rfl rfl (by kernel_rfl) (by kernel_rfl) (by kernel_rfl) (fun _ _ _ _ h => h) (by rfl) ?_ hHeld ?_
        rotate_left; · (intro w hSw; clear hSw; go_simp; first | done | with_reducible rfl)
        simp only [List.setIfInBounds_toArray, List.set_cons_zero, List.set_cons_succ]
        refine held_store 15 rfl rfl (by kernel_rfl) (by rfl) (w' := ?_) ?_ ?_ (fun hNew => ?_)
        rotate_left 1; · (go_simp; first | done | with_reducible rfl | (constructor <;> with_reducible rfl))
        · trivial
        clear hHeld; have hHeld := hNew; clear hNew
        refine wpAnyH_done (by kernel_rfl) ?_ _
        go_wp2_with fail
        go_roundw
        case rel => exact .inr <| .inl ⟨by go_num, by go_num, set_block (set_block hb _) _, ((hm.setCell (fun _ => rfl) _).setCell (fun _ => rfl) _).drew⟩
        case measure => simp [intOf]
      refine all_make 11 25 rfl rfl (by rfl) (v := .int .u8 c0) (w' := wr.drew) ?_ ?_ (fun hNew => ?_) AllReadyH.nil
      · (go_simp; first | done | with_reducible rfl)
      · trivial
      clear hHeld; have hHeld := hNew; clear hNew
      simp only [List.setIfInBounds_toArray, List.set_cons_zero, List.set_cons_succ]
      refine held_make 7 21 rfl rfl (by kernel_rfl) (by rfl) (v := .int .u8 c3) (w' := wr.drew) ?_ ?_ (fun hNew => ?_)
      · (go_simp; first | done | with_reducible rfl)
      · trivial
      clear hHeld; have hHeld := hNew; clear hNew
      simp only [List.setIfInBounds_toArray, List.set_cons_zero, List.set_cons_succ]
      refine held_take 12 26 (v := ?_) rfl rfl (by kernel_rfl) (by kernel_rfl) (by kernel_rfl) (fun _ _ _ _ h => h) (by rfl) ?_ hHeld ?_
      rotate_left; · (intro w hSw; clear hSw; go_simp; first | done | with_reducible rfl)
      simp only [List.setIfInBounds_toArray, List.set_cons_zero, List.set_cons_succ]
      refine held_store 13 rfl rfl (by kernel_rfl) (by rfl) (w' := ?_) ?_ ?_ (fun hNew => ?_)
      rotate_left 1; · (go_simp; first | done | with_reducible rfl | (constructor <;> with_reducible rfl))
      · trivial
      clear hHeld; have hHeld := hNew; clear hNew
      refine held_take 14 27 (v := ?_) rfl rfl (by kernel_rfl) (by kernel_rfl) (by kernel_rfl) (fun _ _ _ _ h => h) (by rfl) ?_ hHeld ?_
      rotate_left; · (intro w hSw; clear hSw; go_simp; first | done | with_reducible rfl)
      simp only [List.setIfInBounds_toArray, List.set_cons_zero, List.set_cons_succ]
      refine held_store 15 rfl rfl (by kernel_rfl) (by rfl) (w' := ?_) ?_ ?_ (fun hNew => ?_)
      rotate_left 1; · (go_simp; first | done | with_reducible rfl | (constructor <;> with_reducible rfl))
      · trivial
      clear hHeld; have hHeld := hNew; clear hNew
      refine wpAnyH_done (by kernel_rfl) ?_ _
      go_wp2_with fail
      go_roundw
      case rel => exact .inr <| .inl ⟨by go_num, by go_num, set_block (set_block hb _) _, ((hm.setCell (fun _ => rfl) _).setCell (fun _ => rfl) _).drew⟩
      case measure => simp [intOf]
    · have e0 : wr.cell? ⟨g, 1, none⟩ = some (.int .u8 c1) := blk_cell hb rfl
      have e3 : wr.cell? ⟨g, 2, none⟩ = some (.int .u8 c2) := blk_cell hb rfl
      have f0 : wr.frozen? ⟨g, 1, none⟩ = false := blk_free hb
      have f3 : wr.frozen? ⟨g, 2, none⟩ = false := blk_free hb
      go_wp2_with fail
      refine wp_region_held_drew (S := (fun _ => True)) (by kernel_rfl) trivial (fun hHeld => ?_)
      refine held_take 0 14 (v := ?_) rfl rfl (by kernel_rfl) (by kernel_rfl) (by kernel_rfl) (fun _ _ _ _ h => h) (by rfl) ?_ hHeld ?_
      rotate_left; · (intro w hSw; clear hSw; go_simp; first | done | with_reducible rfl)
      simp only [List.setIfInBounds_toArray, List.set_cons_zero, List.set_cons_succ]
      refine held_take 1 15 (v := ?_) rfl rfl (by kernel_rfl) (by kernel_rfl) (by kernel_rfl) (fun _ _ _ _ h => h) (by rfl) ?_ hHeld ?_
      rotate_left; · (intro w hSw; clear hSw; go_simp; first | done | with_reducible rfl)
      simp only [List.setIfInBounds_toArray, List.set_cons_zero, List.set_cons_succ]
      refine held_take 2 16 (v := ?_) rfl rfl (by kernel_rfl) (by kernel_rfl) (by kernel_rfl) (fun _ _ _ _ h => h) (by rfl) ?_ hHeld ?_
      rotate_left; · (intro w hSw; clear hSw; go_simp; first | done | with_reducible rfl)
      simp only [List.setIfInBounds_toArray, List.set_cons_zero, List.set_cons_succ]
      refine held_take 3 17 (v := ?_) rfl rfl (by kernel_rfl) (by kernel_rfl) (by kernel_rfl) (fun _ _ _ _ h => h) (by rfl) ?_ hHeld ?_
      rotate_left; · (intro w hSw; clear hSw; go_simp; first | done | with_reducible rfl)
      simp only [List.setIfInBounds_toArray, List.set_cons_zero, List.set_cons_succ]
      refine held_take 4 18 (v := ?_) rfl rfl (by kernel_rfl) (by kernel_rfl) (by kernel_rfl) (fun _ _ _ _ h => h) (by rfl) ?_ hHeld ?_
      rotate_left; · (intro w hSw; clear hSw; go_simp; first | done | with_reducible rfl)
      simp only [List.setIfInBounds_toArray, List.set_cons_zero, List.set_cons_succ]
      refine held_take 5 19 (v := ?_) rfl rfl (by kernel_rfl) (by kernel_rfl) (by kernel_rfl) (fun _ _ _ _ h => h) (by rfl) ?_ hHeld ?_
      rotate_left; · (intro w hSw; clear hSw; go_simp; first | done | with_reducible rfl)
      simp only [List.setIfInBounds_toArray, List.set_cons_zero, List.set_cons_succ]
      refine held_take 6 20 (v := ?_) rfl rfl (by kernel_rfl) (by kernel_rfl) (by kernel_rfl) (fun _ _ _ _ h => h) (by rfl) ?_ hHeld ?_
      rotate_left; · (intro w hSw; clear hSw; go_simp; first | done | with_reducible rfl)
      simp only [List.setIfInBounds_toArray, List.set_cons_zero, List.set_cons_succ]
      refine held_take 8 22 (v := ?_) rfl rfl (by kernel_rfl) (by kernel_rfl) (by kernel_rfl) (fun _ _ _ _ h => h) (by rfl) ?_ hHeld ?_
      rotate_left; · (intro w hSw; clear hSw; go_simp; first | done | with_reducible rfl)
      simp only [List.setIfInBounds_toArray, List.set_cons_zero, List.set_cons_succ]
      refine held_take 9 23 (v := ?_) rfl rfl (by kernel_rfl) (by kernel_rfl) (by kernel_rfl) (fun _ _ _ _ h => h) (by rfl) ?_ hHeld ?_
      rotate_left; · (intro w hSw; clear hSw; go_simp; first | done | with_reducible rfl)
      simp only [List.setIfInBounds_toArray, List.set_cons_zero, List.set_cons_succ]
      refine held_take 10 24 (v := ?_) rfl rfl (by kernel_rfl) (by kernel_rfl) (by kernel_rfl) (fun _ _ _ _ h => h) (by rfl) ?_ hHeld ?_
      rotate_left; · (intro w hSw; clear hSw; go_simp; first | done | with_reducible rfl)
      simp only [List.setIfInBounds_toArray, List.set_cons_zero, List.set_cons_succ]
      refine wpAnyH_ready (rs := [7, 11]) (by kernel_rfl) (by simp) ?_
      refine all_make 7 21 rfl rfl (by rfl) (v := .int .u8 c2) (w' := wr.drew) ?_ ?_ (fun hNew => ?_) ?_
      · (go_simp; first | done | with_reducible rfl)
      · trivial
      ·
        clear hHeld; have hHeld := hNew; clear hNew
        simp only [List.setIfInBounds_toArray, List.set_cons_zero, List.set_cons_succ]
        refine held_make 11 25 rfl rfl (by kernel_rfl) (by rfl) (v := .int .u8 c1) (w' := wr.drew) ?_ ?_ (fun hNew => ?_)
        · (go_simp; first | done | with_reducible rfl)
        · trivial
        clear hHeld; have hHeld := hNew; clear hNew
        simp only [List.setIfInBounds_toArray, List.set_cons_zero, List.set_cons_succ]
        refine held_take 12 26 (v := ?_) rfl rfl (by kernel_rfl) (by kernel_rfl) (by kernel_rfl) (fun _ _ _ _ h => h) (by rfl) ?_ hHeld ?_
        rotate_left; · (intro w hSw; clear hSw; go_simp; first | done | with_reducible rfl)
        simp only [List.setIfInBounds_toArray, List.set_cons_zero, List.set_cons_succ]
        refine held_store 13 rfl rfl (by kernel_rfl) (by rfl) (w' := ?_) ?_ ?_ (fun hNew => ?_)
        rotate_left 1; · (go_simp; first | done | with_reducible rfl | (constructor <;> with_reducible rfl))
        · trivial
        clear hHeld; have hHeld := hNew; clear hNew
        refine held_take 14 27 (v := ?_) rfl rfl (by kernel_rfl) (by kernel_rfl) (by kernel_rfl) (fun _ _ _ _ h => h) (by rfl) ?_ hHeld ?_
        rotate_left; · (intro w hSw; clear hSw; go_simp; first | done | with_reducible rfl)
        simp only [List.setIfInBounds_toArray, List.set_cons_zero, List.set_cons_succ]
        refine held_store 15 rfl rfl (by kernel_rfl) (by rfl) (w' := ?_) ?_ ?_ (fun hNew => ?_)
        rotate_left 1; · (go_simp; first | done | with_reducible rfl | (constructor <;> with_reducible rfl))
        · trivial
        clear hHeld; have hHeld := hNew; clear hNew
        refine wpAnyH_done (by kernel_rfl) ?_ _
        go_wp2_with fail
        go_roundw
        case rel => exact .inr <| .inr ⟨by go_num, by go_num, set_block (set_block hb _) _, ((hm.setCell (fun _ => rfl) _).setCell (fun _ => rfl) _).drew⟩
        case measure => simp [intOf]
      refine all_make 11 25 rfl rfl (by rfl) (v := .int .u8 c1) (w' := wr.drew) ?_ ?_ (fun hNew => ?_) AllReadyH.nil
      · (go_simp; first | done | with_reducible rfl)
      · trivial
      clear hHeld; have hHeld := hNew; clear hNew
      simp only [List.setIfInBounds_toArray, List.set_cons_zero, List.set_cons_succ]
      refine held_make 7 21 rfl rfl (by kernel_rfl) (by rfl) (v := .int .u8 c2) (w' := wr.drew) ?_ ?_ (fun hNew => ?_)
      · (go_simp; first | done | with_reducible rfl)
      · trivial
      clear hHeld; have hHeld := hNew; clear hNew
      simp only [List.setIfInBounds_toArray, List.set_cons_zero, List.set_cons_succ]
      refine held_take 12 26 (v := ?_) rfl rfl (by kernel_rfl) (by kernel_rfl) (by kernel_rfl) (fun _ _ _ _ h => h) (by rfl) ?_ hHeld ?_
      rotate_left; · (intro w hSw; clear hSw; go_simp; first | done | with_reducible rfl)
      simp only [List.setIfInBounds_toArray, List.set_cons_zero, List.set_cons_succ]
      refine held_store 13 rfl rfl (by kernel_rfl) (by rfl) (w' := ?_) ?_ ?_ (fun hNew => ?_)
      rotate_left 1; · (go_simp; first | done | with_reducible rfl | (constructor <;> with_reducible rfl))
      · trivial
      clear hHeld; have hHeld := hNew; clear hNew
      refine held_take 14 27 (v := ?_) rfl rfl (by kernel_rfl) (by kernel_rfl) (by kernel_rfl) (fun _ _ _ _ h => h) (by rfl) ?_ hHeld ?_
      rotate_left; · (intro w hSw; clear hSw; go_simp; first | done | with_reducible rfl)
      simp only [List.setIfInBounds_toArray, List.set_cons_zero, List.set_cons_succ]
      refine held_store 15 rfl rfl (by kernel_rfl) (by rfl) (w' := ?_) ?_ ?_ (fun hNew => ?_)
      rotate_left 1; · (go_simp; first | done | with_reducible rfl | (constructor <;> with_reducible rfl))
      · trivial
      clear hHeld; have hHeld := hNew; clear hNew
      refine wpAnyH_done (by kernel_rfl) ?_ _
      go_wp2_with fail
      go_roundw
      case rel => exact .inr <| .inr ⟨by go_num, by go_num, set_block (set_block hb _) _, ((hm.setCell (fun _ => rfl) _).setCell (fun _ => rfl) _).drew⟩
      case measure => simp [intOf]
    · go_wp2_with fail
      go_end0
      exact ⟨rfl, hb, hm⟩
end Go.Proofs.Ytpnpmploaaenlaa.Wd
