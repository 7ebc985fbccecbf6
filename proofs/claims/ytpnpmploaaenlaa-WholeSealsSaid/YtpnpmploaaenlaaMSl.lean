/- The reference's round: the walk. -/
import Derived.Test.YtpnpmploaaenlaaMSj
namespace Go.Proofs.Ytpnpmploaaenlaa
open Go.RowKit
set_option linter.unusedSimpArgs false
set_option linter.unusedVariables false
theorem op_store_row {P : Program} {o : Oper} {a : Act} {w : World} (ty : TypeId) (x y : Operand) (ho : o.op = .store ty x y)
    (g : Nat) (cells : Array Value) (hx : a.eval x = .pointer (some ⟨g, 0, none⟩)) (hy : a.eval y = .agg cells)
    (t : TypeId) (old : Array Value) (hg : w.heap[g]? = some (.cells old t (0, 0))) (hi : (P.info? ty).map (·.size) = some cells.size)
    (hold : old.size = cells.size) (h1 : cells.all (·.oneCell') = true) : (execOp a.eval o).run P w = .ok .skip (w.setRow g cells) := by
  unfold execOp
  simp only [ho, hx, hy, Instr.storeAt, Instr.sureAddr, Sem.run_bind, Sem.run_pure, Result.andThen_ok, run_storeVar_row w g t ty old cells hg hi hold h1]
theorem natL_one (n : Nat) (z : Nat → Nat) : ∀ u ∈ natL n z, u.oneCell' = true := by
  intro u hu
  unfold natL at hu
  obtain ⟨j, _, rfl⟩ := List.mem_map.1 hu
  rfl
theorem dg_at {w : World} {g n : Nat} {z : Nat → Nat} (h : Dg w g n z) : ∀ j u, (natL n z)[j]? = some u → w.cell? ((⟨g, 0, none⟩ : Addr).add j) = some u := by
  intro j u hj
  have hjn : j < n := by
    have := (List.getElem?_eq_some_iff.1 hj).1
    simpa [natL] using this
  have e : ((⟨g, 0, none⟩ : Addr).add j) = ⟨g, j, none⟩ := by unfold Addr.add; split <;> simp_all
  rw [natL_get n z j hjn] at hj
  rw [e, h j hjn, hj]
theorem own_irow {w : World} {base n : Nat} {v : Value} {z : Nat → Nat} (h : w.ownsRow base 3 1 v n (natL n z)) (hn : 0 < n) : ∃ g cap, v = .slice (some ⟨g, 0, none⟩) n cap ∧ base ≤ g ∧ IRow w g n z := by
  rcases h.2 with ⟨h2, hn'⟩ | ⟨g, cap', cur, hv, hg, hh, hc1, hc2, hsz, htk⟩
  · omega
  · refine ⟨g, cap', hv, hg, cur, 3, hh, by omega, fun j hj => ?_⟩
    have h3 : (cur.toList.take (n * 1))[j]? = some (.int .i64 ((z j : Nat) : Int)) := by rw [htk]; exact natL_get n z j hj
    rw [List.getElem?_take, if_pos (by omega)] at h3
    simpa using h3
set_option maxRecDepth 100000 in
set_option maxHeartbeats 8000000 in
theorem round_walk (x : Nat → Nat) (a b c2 d : Nat) (ha : a < 16) (hb : b < 16) (hc : c2 < 16) (hd4 : d < 16) (v0 v1 v2 v3 : Nat) (ROW : Array Value) (hR4 : ROW.size = 4) (hR1 : ROW.all (·.oneCell') = true)
    (r0 : ROW[0]? = some (.int .i64 (v0 : Int))) (r1 : ROW[1]? = some (.int .i64 (v1 : Int))) (r2 : ROW[2]? = some (.int .i64 (v2 : Int))) (r3 : ROW[3]? = some (.int .i64 (v3 : Int)))
    (hq : ∀ w, Calls Try.prog 72 #[.agg #[.int .i64 (x a : Int), .int .i64 (x b : Int), .int .i64 (x c2 : Int), .int .i64 (x d : Int)]] w fun e w' => e = .returned (.agg ROW) ∧ Mod (fun _ => False) w w')
    (g c : Nat) (w : World) (hd0 : Dg w g 16 x) :
    Calls Try.prog 47 #[.slice (some ⟨g, 0, none⟩) 16 c, .int .i64 (a : Int), .int .i64 (b : Int), .int .i64 (c2 : Int), .int .i64 (d : Int)] w fun e w' => (∃ g' c', e = .returned (.slice (some ⟨g', 0, none⟩) 16 c') ∧ Dg w' g' 16 (upd (upd (upd (upd x a v0) b v1) c2 v2) d v3)) ∧ Mod (fun _ => False) w w' := by
  obtain ⟨i0, hi, hz0, hz1, hz2⟩ := info_parts Wd.info3
  have HQ := Lib.hid hq
  have f0 := hd0 a ha
  have f1 := hd0 b hb
  have f2 := hd0 c2 hc
  have f3 := hd0 d hd4
  have hgl : g < w.heap.size := World.block_lt_of_cell? w _ f0
  have la : (a : Int) < 16 := by omega
  have lb : (b : Int) < 16 := by omega
  have lc : (c2 : Int) < 16 := by omega
  have ld : (d : Int) < 16 := by omega
  clear hq
  go_enter Try.func47, Try.ntmps47
  go_wp2_with fail
  refine wp_region_held_any (S := fun w' => Mod (fun _ => False) w.drew w') (by kernel_rfl) (fun wd hwd => ?_)
  rw [hwd]
  refine ⟨Mod.refl _ _, fun hHeld => ?_⟩
  have hmd : Mod (fun _ => False) w wd := by subst hwd; exact (Mod.refl _ w).drew
  have hd : Dg wd g 16 x := hd0.mod hmd
  have e0 : wd.cell? ⟨g, a, none⟩ = some (.int .i64 (x a : Int)) := hd a ha
  have e1 : wd.cell? ⟨g, b, none⟩ = some (.int .i64 (x b : Int)) := hd b hb
  have e2 : wd.cell? ⟨g, c2, none⟩ = some (.int .i64 (x c2 : Int)) := hd c2 hc
  have e3 : wd.cell? ⟨g, d, none⟩ = some (.int .i64 (x d : Int)) := hd d hd4
  have hgd : g < wd.heap.size := Nat.lt_of_lt_of_le hgl hmd.size
  clear hwd f0 f1 f2 f3
  refine held_take 0 13 (v := ?_) rfl rfl (by kernel_rfl) (by kernel_rfl) (by kernel_rfl) (fun _ _ _ _ h => h) (by rfl) ?_ hHeld ?_
  rotate_left; · (intro w hSw; clear hSw; go_simp; first | done | with_reducible rfl)
  simp only [List.setIfInBounds_toArray, List.set_cons_zero, List.set_cons_succ]
  refine held_take 1 14 (v := ?_) rfl rfl (by kernel_rfl) (by kernel_rfl) (by kernel_rfl) (fun _ _ _ _ h => h) (by rfl) ?_ hHeld ?_
  rotate_left; · (intro w hSw; clear hSw; go_simp; first | done | with_reducible rfl)
  simp only [List.setIfInBounds_toArray, List.set_cons_zero, List.set_cons_succ]
  refine held_take 2 15 (v := ?_) rfl rfl (by kernel_rfl) (by kernel_rfl) (by kernel_rfl) (fun _ _ _ _ h => h) (by rfl) ?_ hHeld ?_
  rotate_left; · (intro w hSw; clear hSw; go_simp; first | done | with_reducible rfl)
  simp only [List.setIfInBounds_toArray, List.set_cons_zero, List.set_cons_succ]
  refine held_take 3 16 (v := ?_) rfl rfl (by kernel_rfl) (by kernel_rfl) (by kernel_rfl) (fun _ _ _ _ h => h) (by rfl) ?_ hHeld ?_
  rotate_left; · (intro w' hSw; have hc := hSw.at e0; clear hSw; go_simp; first | done | with_reducible rfl)
  simp only [List.setIfInBounds_toArray, List.set_cons_zero, List.set_cons_succ]
  refine held_take 4 17 (v := ?_) rfl rfl (by kernel_rfl) (by kernel_rfl) (by kernel_rfl) (fun _ _ _ _ h => h) (by rfl) ?_ hHeld ?_
  rotate_left; · (intro w hSw; clear hSw; go_simp; first | done | with_reducible rfl)
  simp only [List.setIfInBounds_toArray, List.set_cons_zero, List.set_cons_succ]
  refine held_take 5 18 (v := ?_) rfl rfl (by kernel_rfl) (by kernel_rfl) (by kernel_rfl) (fun _ _ _ _ h => h) (by rfl) ?_ hHeld ?_
  rotate_left; · (intro w hSw; clear hSw; go_simp; first | done | with_reducible rfl)
  simp only [List.setIfInBounds_toArray, List.set_cons_zero, List.set_cons_succ]
  refine held_take 6 19 (v := ?_) rfl rfl (by kernel_rfl) (by kernel_rfl) (by kernel_rfl) (fun _ _ _ _ h => h) (by rfl) ?_ hHeld ?_
  rotate_left; · (intro w hSw; clear hSw; go_simp; first | done | with_reducible rfl)
  simp only [List.setIfInBounds_toArray, List.set_cons_zero, List.set_cons_succ]
  refine held_take 7 20 (v := ?_) rfl rfl (by kernel_rfl) (by kernel_rfl) (by kernel_rfl) (fun _ _ _ _ h => h) (by rfl) ?_ hHeld ?_
  rotate_left; · (intro w' hSw; have hc := hSw.at e1; clear hSw; go_simp; first | done | with_reducible rfl)
  simp only [List.setIfInBounds_toArray, List.set_cons_zero, List.set_cons_succ]
  refine held_take 8 21 (v := ?_) rfl rfl (by kernel_rfl) (by kernel_rfl) (by kernel_rfl) (fun _ _ _ _ h => h) (by rfl) ?_ hHeld ?_
  rotate_left; · (intro w hSw; clear hSw; go_simp; first | done | with_reducible rfl)
  simp only [List.setIfInBounds_toArray, List.set_cons_zero, List.set_cons_succ]
  refine held_take 9 22 (v := ?_) rfl rfl (by kernel_rfl) (by kernel_rfl) (by kernel_rfl) (fun _ _ _ _ h => h) (by rfl) ?_ hHeld ?_
  rotate_left; · (intro w hSw; clear hSw; go_simp; first | done | with_reducible rfl)
  simp only [List.setIfInBounds_toArray, List.set_cons_zero, List.set_cons_succ]
  refine held_take 10 23 (v := ?_) rfl rfl (by kernel_rfl) (by kernel_rfl) (by kernel_rfl) (fun _ _ _ _ h => h) (by rfl) ?_ hHeld ?_
  rotate_left; · (intro w hSw; clear hSw; go_simp; first | done | with_reducible rfl)
  simp only [List.setIfInBounds_toArray, List.set_cons_zero, List.set_cons_succ]
  refine held_take 11 24 (v := ?_) rfl rfl (by kernel_rfl) (by kernel_rfl) (by kernel_rfl) (fun _ _ _ _ h => h) (by rfl) ?_ hHeld ?_
  rotate_left; · (intro w' hSw; have hc := hSw.at e2; clear hSw; go_simp; first | done | with_reducible rfl)
  simp only [List.setIfInBounds_toArray, List.set_cons_zero, List.set_cons_succ]
  refine held_take 12 25 (v := ?_) rfl rfl (by kernel_rfl) (by kernel_rfl) (by kernel_rfl) (fun _ _ _ _ h => h) (by rfl) ?_ hHeld ?_
  rotate_left; · (intro w hSw; clear hSw; go_simp; first | done | with_reducible rfl)
  simp only [List.setIfInBounds_toArray, List.set_cons_zero, List.set_cons_succ]
  refine held_take 13 26 (v := ?_) rfl rfl (by kernel_rfl) (by kernel_rfl) (by kernel_rfl) (fun _ _ _ _ h => h) (by rfl) ?_ hHeld ?_
  rotate_left; · (intro w hSw; clear hSw; go_simp; first | done | with_reducible rfl)
  simp only [List.setIfInBounds_toArray, List.set_cons_zero, List.set_cons_succ]
  refine held_take 14 27 (v := ?_) rfl rfl (by kernel_rfl) (by kernel_rfl) (by kernel_rfl) (fun _ _ _ _ h => h) (by rfl) ?_ hHeld ?_
  rotate_left; · (intro w hSw; clear hSw; go_simp; first | done | with_reducible rfl)
  simp only [List.setIfInBounds_toArray, List.set_cons_zero, List.set_cons_succ]
  refine held_take 15 28 (v := ?_) rfl rfl (by kernel_rfl) (by kernel_rfl) (by kernel_rfl) (fun _ _ _ _ h => h) (by rfl) ?_ hHeld ?_
  rotate_left; · (intro w' hSw; have hc := hSw.at e3; clear hSw; go_simp; first | done | with_reducible rfl)
  simp only [List.setIfInBounds_toArray, List.set_cons_zero, List.set_cons_succ]
  refine held_take 16 29 (v := ?_) rfl rfl (by kernel_rfl) (by kernel_rfl) (by kernel_rfl) (fun _ _ _ _ h => h) (by rfl) ?_ hHeld ?_
  rotate_left; · (intro w hSw; clear hSw; go_simp; first | done | with_reducible rfl)
  simp only [List.setIfInBounds_toArray, List.set_cons_zero, List.set_cons_succ]
  refine wpAnyH_ready (rs := [17, 18]) (by kernel_rfl) (by simp) ?_
  refine all_call 17 30 rfl rfl (by rfl) (f := 72) (args := ?_) ?_ ?_ ?_
  rotate_left; · (go_simp; first | done | with_reducible rfl)
  ·
    refine (HQ.out _).mono ?_
    rintro e w1 ⟨rfl, hm1⟩
    refine ⟨_, rfl, (hHeld.tr hm1), fun hNew => ?_⟩; clear hHeld; have hHeld := hNew; clear hNew
    simp only [List.setIfInBounds_toArray, List.set_cons_zero, List.set_cons_succ]
    refine held_make 18 11 rfl rfl (by kernel_rfl) (by rfl) (v := ?_) (w' := ?_) ?_ ?_ (fun hNew => ?_)
    rotate_left 2; · (go_simp; first | done | with_reducible rfl | (constructor <;> with_reducible rfl))
    · exact hHeld.alloc _
    clear hHeld; have hHeld := hNew; clear hNew
    simp only [List.setIfInBounds_toArray, List.set_cons_zero, List.set_cons_succ]
    refine held_store 19 rfl rfl (by kernel_rfl) (by rfl) (w' := ((w1.alloc (.cells #[.int .i64 0, .int .i64 0, .int .i64 0, .int .i64 0] 93)).setRow w1.heap.size ROW)) ?_ ?_ (fun hNew => ?_)
    · (exact op_store_row 93 (.tmp 11) (.tmp 30) (by rfl) _ ROW (by rfl) (by rfl) _ _ (new_block _ _ _ _ rfl) (by rw [hR4]; try kernel_rfl) (by rw [hR4]; try rfl) hR1)
    · exact hHeld.row (fun hh => absurd hh (by first | omega | (have := hm1.size; omega))) _
    clear hHeld; have hHeld := hNew; clear hNew
    refine wpAnyH_done (by kernel_rfl) ?_ _
    have HX := Lib.hid (hd.mod hHeld)
    have HM := Lib.hid (hmd.tr hHeld)
    have HB := Lib.hid (setRow_heap _ _ _ ROW _ _ (new_block w1 #[.int .i64 0, .int .i64 0, .int .i64 0, .int .i64 0] 93 _ rfl))
    have hne : w1.heap.size ≠ g := by have := hm1.size; omega
    have hgw : w.heap.size ≤ w1.heap.size := by have := hm1.size; have := hmd.size; omega
    clear hHeld hm1
    generalize ((w1.alloc (.cells #[.int .i64 0, .int .i64 0, .int .i64 0, .int .i64 0] 93)).setRow w1.heap.size ROW) = wz at HX HM HB ⊢
    generalize w1.heap.size = gq at HB hne hgw ⊢
    go_upto_region 4 with (at_builtin; refine wpList_append_own _ rfl (.tmp 31) (.tmp 32) 47 rfl wz.heap.size 3 i0 (.int .i64 0) 1 8 Try.underlying47 hi hz0 hz1 hz2 rfl (by decide) (.slice none 0 0) 0 [] rfl (World.ownsRow_nil _ _ _ _) ⟨g, 0, none⟩ 16 c (natL 16 x) rfl (by simp [natL]) (dg_at HX.out) (natL_one 16 x) (by unfold maxLen; omega) (by omega) (Nat.le_refl _) ?_; intro v' w3 hown hgrow _)
    obtain ⟨go, co, rfl, hgo, irow⟩ := own_irow (n := 16) (z := x) hown (by decide)
    have hm3 : Mod (fun _ => False) wz w3 := ⟨hgrow.os, hgrow.tape, hgrow.output, hgrow.size, fun k hk _ => hgrow.block k hk (by simp [Value.ownBlock])⟩
    have hgq := lt_of_block HB.out
    have hn1 : ¬ gq = go := by omega
    have hn2 : ¬ go = gq := by omega
    have HB3 := hm3.blk HB.out (fun e => e)
    have hwo : w.heap.size ≤ go := by have := HM.out.size; omega
    have hm0 := HM.out.tr hm3
    clear hown hgrow hm3 HM HB HX
    have HR0 := Lib.hid irow
    have q0 := blk_cell HB3 r0
    have f0 := irow.free a
    have g0 := irow.cell a ha
    have HBk0 := Lib.hid HB3
    clear irow HB3
    go_upto_region 5 with (fail)
    have irow := HR0.out.set' a v0 ha _ rfl
    have HB3 := (Below.heap_setCell _ ⟨go, a, none⟩ (.int .i64 (v0 : Int)) _ hn1).trans HBk0.out
    have hm0 := hm0.setCell (p := ⟨go, a, none⟩) (fun hh => absurd hh (by simp; omega)) (.int .i64 (v0 : Int))
    clear HR0 q0 f0 g0 HBk0
    generalize hz0 : World.setCell w3 ⟨go, a, none⟩ (.int .i64 (v0 : Int)) = w4 at irow HB3 hm0 ⊢
    clear hz0
    have HR1 := Lib.hid irow
    have q1 := blk_cell HB3 r1
    have f1 := irow.free b
    have g1 := irow.cell b hb
    have HBk1 := Lib.hid HB3
    clear irow HB3
    go_upto_region 6 with (fail)
    have irow := HR1.out.set' b v1 hb _ rfl
    have HB3 := (Below.heap_setCell _ ⟨go, b, none⟩ (.int .i64 (v1 : Int)) _ hn1).trans HBk1.out
    have hm0 := hm0.setCell (p := ⟨go, b, none⟩) (fun hh => absurd hh (by simp; omega)) (.int .i64 (v1 : Int))
    clear HR1 q1 f1 g1 HBk1
    generalize hz1 : World.setCell w4 ⟨go, b, none⟩ (.int .i64 (v1 : Int)) = w5 at irow HB3 hm0 ⊢
    clear hz1
    have HR2 := Lib.hid irow
    have q2 := blk_cell HB3 r2
    have f2 := irow.free c2
    have g2 := irow.cell c2 hc
    have HBk2 := Lib.hid HB3
    clear irow HB3
    go_upto_region 7 with (fail)
    have irow := HR2.out.set' c2 v2 hc _ rfl
    have HB3 := (Below.heap_setCell _ ⟨go, c2, none⟩ (.int .i64 (v2 : Int)) _ hn1).trans HBk2.out
    have hm0 := hm0.setCell (p := ⟨go, c2, none⟩) (fun hh => absurd hh (by simp; omega)) (.int .i64 (v2 : Int))
    clear HR2 q2 f2 g2 HBk2
    generalize hz2 : World.setCell w5 ⟨go, c2, none⟩ (.int .i64 (v2 : Int)) = w6 at irow HB3 hm0 ⊢
    clear hz2
    have HR3 := Lib.hid irow
    have q3 := blk_cell HB3 r3
    have f3 := irow.free d
    have g3 := irow.cell d hd4
    have HBk3 := Lib.hid HB3
    clear irow HB3
    go_upto_region 8 with (fail)
    have irow := HR3.out.set' d v3 hd4 _ rfl
    have HB3 := (Below.heap_setCell _ ⟨go, d, none⟩ (.int .i64 (v3 : Int)) _ hn1).trans HBk3.out
    have hm0 := hm0.setCell (p := ⟨go, d, none⟩) (fun hh => absurd hh (by simp; omega)) (.int .i64 (v3 : Int))
    clear HR3 q3 f3 g3 HBk3
    generalize hz3 : World.setCell w6 ⟨go, d, none⟩ (.int .i64 (v3 : Int)) = w7 at irow HB3 hm0 ⊢
    clear hz3
    have HF := Lib.hid irow
    clear irow HB3
    go_wp2_with fail
    go_ret
    exact ⟨⟨go, ⟨co, rfl⟩, HF.out.dg⟩, hm0⟩
  refine all_make 18 11 rfl rfl (by rfl) (v := ?_) (w' := ?_) ?_ ?_ (fun hNew => ?_) AllReadyH.nil
  rotate_left 2; · (go_simp; first | done | with_reducible rfl | (constructor <;> with_reducible rfl))
  · exact hHeld.alloc _
  clear hHeld; have hHeld := hNew; clear hNew
  simp only [List.setIfInBounds_toArray, List.set_cons_zero, List.set_cons_succ]
  refine held_call 17 30 rfl rfl (by kernel_rfl) (by rfl) (f := 72) (args := ?_) ?_ ?_
  rotate_left; · (go_simp; first | done | with_reducible rfl)
  refine (HQ.out _).mono ?_
  rintro e w1 ⟨rfl, hm1⟩
  refine ⟨_, rfl, (hHeld.tr hm1), fun hNew => ?_⟩; clear hHeld; have hHeld := hNew; clear hNew
  simp only [List.setIfInBounds_toArray, List.set_cons_zero, List.set_cons_succ]
  refine held_store 19 rfl rfl (by kernel_rfl) (by rfl) (w' := (w1.setRow wd.heap.size ROW)) ?_ ?_ (fun hNew => ?_)
  · (exact op_store_row 93 (.tmp 11) (.tmp 30) (by rfl) _ ROW (by rfl) (by rfl) _ _ (hm1.blk (new_block wd _ _ _ rfl) (fun e => e)) (by rw [hR4]; try kernel_rfl) (by rw [hR4]; try rfl) hR1)
  · exact hHeld.row (fun hh => absurd hh (by first | omega | (have := hm1.size; omega))) _
  clear hHeld; have hHeld := hNew; clear hNew
  refine wpAnyH_done (by kernel_rfl) ?_ _
  have HX := Lib.hid (hd.mod hHeld)
  have HM := Lib.hid (hmd.tr hHeld)
  have HB := Lib.hid (setRow_heap _ _ _ ROW _ _ (hm1.blk (new_block wd #[.int .i64 0, .int .i64 0, .int .i64 0, .int .i64 0] 93 _ rfl) (fun e => e)))
  have hne : wd.heap.size ≠ g := by have := hm1.size; omega
  have hgw : w.heap.size ≤ wd.heap.size := by have := hm1.size; have := hmd.size; omega
  clear hHeld hm1
  generalize (w1.setRow wd.heap.size ROW) = wz at HX HM HB ⊢
  generalize wd.heap.size = gq at HB hne hgw ⊢
  go_upto_region 4 with (at_builtin; refine wpList_append_own _ rfl (.tmp 31) (.tmp 32) 47 rfl wz.heap.size 3 i0 (.int .i64 0) 1 8 Try.underlying47 hi hz0 hz1 hz2 rfl (by decide) (.slice none 0 0) 0 [] rfl (World.ownsRow_nil _ _ _ _) ⟨g, 0, none⟩ 16 c (natL 16 x) rfl (by simp [natL]) (dg_at HX.out) (natL_one 16 x) (by unfold maxLen; omega) (by omega) (Nat.le_refl _) ?_; intro v' w3 hown hgrow _)
  obtain ⟨go, co, rfl, hgo, irow⟩ := own_irow (n := 16) (z := x) hown (by decide)
  have hm3 : Mod (fun _ => False) wz w3 := ⟨hgrow.os, hgrow.tape, hgrow.output, hgrow.size, fun k hk _ => hgrow.block k hk (by simp [Value.ownBlock])⟩
  have hgq := lt_of_block HB.out
  have hn1 : ¬ gq = go := by omega
  have hn2 : ¬ go = gq := by omega
  have HB3 := hm3.blk HB.out (fun e => e)
  have hwo : w.heap.size ≤ go := by have := HM.out.size; omega
  have hm0 := HM.out.tr hm3
  clear hown hgrow hm3 HM HB HX
  have HR0 := Lib.hid irow
  have q0 := blk_cell HB3 r0
  have f0 := irow.free a
  have g0 := irow.cell a ha
  have HBk0 := Lib.hid HB3
  clear irow HB3
  go_upto_region 5 with (fail)
  have irow := HR0.out.set' a v0 ha _ rfl
  have HB3 := (Below.heap_setCell _ ⟨go, a, none⟩ (.int .i64 (v0 : Int)) _ hn1).trans HBk0.out
  have hm0 := hm0.setCell (p := ⟨go, a, none⟩) (fun hh => absurd hh (by simp; omega)) (.int .i64 (v0 : Int))
  clear HR0 q0 f0 g0 HBk0
  generalize hz0 : World.setCell w3 ⟨go, a, none⟩ (.int .i64 (v0 : Int)) = w4 at irow HB3 hm0 ⊢
  clear hz0
  have HR1 := Lib.hid irow
  have q1 := blk_cell HB3 r1
  have f1 := irow.free b
  have g1 := irow.cell b hb
  have HBk1 := Lib.hid HB3
  clear irow HB3
  go_upto_region 6 with (fail)
  have irow := HR1.out.set' b v1 hb _ rfl
  have HB3 := (Below.heap_setCell _ ⟨go, b, none⟩ (.int .i64 (v1 : Int)) _ hn1).trans HBk1.out
  have hm0 := hm0.setCell (p := ⟨go, b, none⟩) (fun hh => absurd hh (by simp; omega)) (.int .i64 (v1 : Int))
  clear HR1 q1 f1 g1 HBk1
  generalize hz1 : World.setCell w4 ⟨go, b, none⟩ (.int .i64 (v1 : Int)) = w5 at irow HB3 hm0 ⊢
  clear hz1
  have HR2 := Lib.hid irow
  have q2 := blk_cell HB3 r2
  have f2 := irow.free c2
  have g2 := irow.cell c2 hc
  have HBk2 := Lib.hid HB3
  clear irow HB3
  go_upto_region 7 with (fail)
  have irow := HR2.out.set' c2 v2 hc _ rfl
  have HB3 := (Below.heap_setCell _ ⟨go, c2, none⟩ (.int .i64 (v2 : Int)) _ hn1).trans HBk2.out
  have hm0 := hm0.setCell (p := ⟨go, c2, none⟩) (fun hh => absurd hh (by simp; omega)) (.int .i64 (v2 : Int))
  clear HR2 q2 f2 g2 HBk2
  generalize hz2 : World.setCell w5 ⟨go, c2, none⟩ (.int .i64 (v2 : Int)) = w6 at irow HB3 hm0 ⊢
  clear hz2
  have HR3 := Lib.hid irow
  have q3 := blk_cell HB3 r3
  have f3 := irow.free d
  have g3 := irow.cell d hd4
  have HBk3 := Lib.hid HB3
  clear irow HB3
  go_upto_region 8 with (fail)
  have irow := HR3.out.set' d v3 hd4 _ rfl
  have HB3 := (Below.heap_setCell _ ⟨go, d, none⟩ (.int .i64 (v3 : Int)) _ hn1).trans HBk3.out
  have hm0 := hm0.setCell (p := ⟨go, d, none⟩) (fun hh => absurd hh (by simp; omega)) (.int .i64 (v3 : Int))
  clear HR3 q3 f3 g3 HBk3
  generalize hz3 : World.setCell w6 ⟨go, d, none⟩ (.int .i64 (v3 : Int)) = w7 at irow HB3 hm0 ⊢
  clear hz3
  have HF := Lib.hid irow
  clear irow HB3
  go_wp2_with fail
  go_ret
  exact ⟨⟨go, ⟨co, rfl⟩, HF.out.dg⟩, hm0⟩
end Go.Proofs.Ytpnpmploaaenlaa
