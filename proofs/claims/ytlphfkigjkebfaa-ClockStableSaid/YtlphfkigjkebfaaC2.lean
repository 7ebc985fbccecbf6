/- The clock's contracts, third part: the document's clock, and what must come. -/
import Derived.Test.YtlphfkigjkebfaaC1
namespace Go.Proofs.Ytlphfkigjkebfaa
open Go.RowKit

theorem rsee_yes (who t st sw : Int) (w : World) (hm : mayB st sw = true) :
    Calls Try.prog 17 #[.agg #[.int .i64 who, .int .i64 t], .agg #[.int .i64 st, .int .i64 sw]] w fun e w' => e = .returned (.tuple #[.agg #[.int .i64 who, .int .i64 (mxI t st)], .int .i64 0]) ∧ Mod (fun _ => False) w w' := by
  go_enter Try.func17, Try.ntmps17
  go_wp2_with (first | (go_at_call 23; refine (rmay_any _ _ _).mono ?_; rintro e w' ⟨rfl, o, rfl⟩))
  · have h : t < st := by assumption
    have e : mxI t st = st := by unfold mxI; rw [if_pos (by omega)]
    rw [e]
    refine bodyPost_ret (v := .tuple #[.agg #[.int .i64 who, .int .i64 st], .int .i64 0]) (by simp [results, Try.results17, go_sem]) rfl ⟨rfl, ?_⟩
    exact (by repeat (first | exact Mod.refl _ _ | refine Mod.drew ?_ | refine Mod.alloc ?_ _ | refine Mod.setCell ?_ (by simp) _))
  · have h : st ≤ t := by assumption
    have e : mxI t st = t := by unfold mxI; split <;> omega
    rw [e]
    refine bodyPost_ret (v := .tuple #[.agg #[.int .i64 who, .int .i64 t], .int .i64 0]) (by simp [results, Try.results17, go_sem]) rfl ⟨rfl, ?_⟩
    exact (by repeat (first | exact Mod.refl _ _ | refine Mod.drew ?_ | refine Mod.alloc ?_ _ | refine Mod.setCell ?_ (by simp) _))
theorem rsee_no (who t st sw : Int) (w : World) (hm : mayB st sw = false) :
    Calls Try.prog 17 #[.agg #[.int .i64 who, .int .i64 t], .agg #[.int .i64 st, .int .i64 sw]] w fun e w' => e = .returned (.tuple #[.agg #[.int .i64 who, .int .i64 t], .int .i64 1]) ∧ Mod (fun _ => False) w w' := by
  go_enter Try.func17, Try.ntmps17
  go_wp2_with (first | (go_at_call 23; refine (rmay_any _ _ _).mono ?_; rintro e w' ⟨rfl, o, rfl⟩))
  refine bodyPost_ret (v := .tuple #[.agg #[.int .i64 who, .int .i64 t], .int .i64 1]) (by simp [results, Try.results17, go_sem]) rfl ⟨rfl, ?_⟩
  exact (by repeat (first | exact Mod.refl _ _ | refine Mod.drew ?_ | refine Mod.alloc ?_ _ | refine Mod.setCell ?_ (by simp) _))
theorem rnext_yes (who t : Int) (w : World) (h0 : 0 ≤ t) (h2 : t < 1099511627775) :
    Calls Try.prog 16 #[.agg #[.int .i64 who, .int .i64 t]] w fun e w' => e = .returned (.tuple #[.agg #[.int .i64 who, .int .i64 (t + 1)], .agg #[.int .i64 (t + 1), .int .i64 who], .int .i64 0]) ∧ Mod (fun _ => False) w w' := by
  go_enter Try.func16, Try.ntmps16
  go_wp2
  go_region
  all_goals go_wp2
  all_goals refine bodyPost_ret (v := .tuple #[.agg #[.int .i64 who, .int .i64 (t + 1)], .agg #[.int .i64 (t + 1), .int .i64 who], .int .i64 0]) (by simp [results, Try.results16, go_sem]) rfl ⟨rfl, ?_⟩
  all_goals exact (by repeat (first | exact Mod.refl _ _ | refine Mod.drew ?_ | refine Mod.alloc ?_ _ | refine Mod.setCell ?_ (by simp) _))
theorem rnext_no (who t : Int) (w : World) (h2 : 1099511627775 ≤ t) :
    Calls Try.prog 16 #[.agg #[.int .i64 who, .int .i64 t]] w fun e w' => e = .returned (.tuple #[.agg #[.int .i64 who, .int .i64 t], .agg #[.int .i64 0, .int .i64 0], .int .i64 150]) ∧ Mod (fun _ => False) w w' := by
  go_enter Try.func16, Try.ntmps16
  go_wp2
  refine bodyPost_ret (v := .tuple #[.agg #[.int .i64 who, .int .i64 t], .agg #[.int .i64 0, .int .i64 0], .int .i64 150]) (by simp [results, Try.results16, go_sem]) rfl ⟨rfl, ?_⟩
  exact (by repeat (first | exact Mod.refl _ _ | refine Mod.drew ?_ | refine Mod.alloc ?_ _ | refine Mod.setCell ?_ (by simp) _))
theorem awake_any (w : World) :
    Calls Try.prog 13 #[] w fun e w' => e = .returned (.bool true) ∧ Mod (fun _ => False) w w' := by
  go_enter Try.func13, Try.ntmps13
  go_wp2_with fail
  refine (new_yes 1 w (by omega) (by omega)).mono ?_
  rintro e w1 ⟨rfl, rfl⟩
  have c := Clk.new w 1 0
  go_wp2_with fail
  refine (see_yes _ _ _ _ _ _ c (by omega) rfl).mono ?_
  rintro e w2 ⟨rfl, c2, m2⟩
  have hm : mxI 0 7 = 7 := rfl
  rw [hm] at c2
  clear c hm
  go_wp2_with fail
  refine (next_yes _ _ _ _ c2 (by omega) (by omega) (by omega)).mono ?_
  rintro e w3 ⟨rfl, c3, m3⟩
  go_wp2_with fail
  refine (now_yes _ 1 8 _ (c3.alloc _) (by omega)).mono ?_
  rintro e w4 ⟨rfl, rfl⟩
  go_wp2_with fail
  refine (less_any _ _ _ _ _).mono ?_
  rintro e w5 ⟨rfl, m5⟩
  have k0 : w5.cell? ⟨w3.heap.size, 0, none⟩ = some (.int .i64 8) := by rw [m5.cell (by simp) (by simp)]; go_simp
  have k1 : w5.cell? ⟨w3.heap.size, 1, none⟩ = some (.int .i64 1) := by rw [m5.cell (by simp) (by simp)]; go_simp
  have l5 : lessB 7 2 8 1 = true := rfl
  rw [l5]
  go_wp2_with fail
  refine (check_any _ _ _).mono ?_
  rintro e w6 ⟨rfl, m6⟩
  have l6 : errOf (mayB 8 1) = 0 := rfl
  rw [l6]
  go_wp2_with fail
  go_ret
  refine ⟨rfl, ?_⟩
  have n1 : Mod (fun _ => False) w (w.alloc (.cells #[.int .i64 1, .int .i64 0] 45)) := (Mod.refl _ _).alloc _
  have n2 := n1.trans m2 (U := (· = w.heap.size)) (fun _ h => h.elim) (fun _ _ h => h)
  have n3 := n2.trans m3 (U := (· = w.heap.size)) (fun _ h => h) (fun _ _ h => h)
  have n4 := (n3.alloc (.cells #[.int .i64 8, .int .i64 1] 23)).trans m5 (U := (· = w.heap.size)) (fun _ h => h) (fun _ _ h => h.elim)
  have n5 := n4.trans m6 (U := (· = w.heap.size)) (fun _ h => h) (fun _ _ h => h.elim)
  exact ⟨n5.os, n5.tape, n5.output, n5.size, fun k hk _ => n5.block k hk (fun (e : k = _) => by omega)⟩
end Go.Proofs.Ytlphfkigjkebfaa
