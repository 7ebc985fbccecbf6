/- The clock's contracts, second part: Less, New, given, See, Next, Now. -/
import Derived.Test.YtlphfkigjkebfaaC0
import Derived.RegionTactic
import Derived.ChangeAlike
namespace Go.Proofs.Ytlphfkigjkebfaa
open Go.RowKit

def lessB (t1 w1 t2 w2 : Int) : Bool := decide (t1 < t2 ∨ t1 = t2 ∧ w1 < w2)
theorem lessB_yes {t1 w1 t2 w2 : Int} (h : t1 < t2 ∨ t1 = t2 ∧ w1 < w2) : lessB t1 w1 t2 w2 = true := decide_eq_true h
theorem lessB_no {t1 w1 t2 w2 : Int} (h : ¬ (t1 < t2 ∨ t1 = t2 ∧ w1 < w2)) : lessB t1 w1 t2 w2 = false := decide_eq_false h
theorem less_any (t1 w1 t2 w2 : Int) (w : World) :
    Calls Try.prog 9 #[.agg #[.int .i64 t1, .int .i64 w1], .agg #[.int .i64 t2, .int .i64 w2]] w fun e w' => e = .returned (.bool (lessB t1 w1 t2 w2)) ∧ Mod (fun _ => False) w w' := by
  by_cases h : t1 = t2
  · subst h
    by_cases h2 : w1 < w2
    · rw [lessB_yes (by omega)]
      go_enter Try.func9, Try.ntmps9
      go_wp2
      go_ret
      exact ⟨rfl, (Mod.refl _ _).alloc _ |>.alloc _⟩
    · rw [lessB_no (by omega)]
      go_enter Try.func9, Try.ntmps9
      go_wp2
      go_ret
      exact ⟨rfl, (Mod.refl _ _).alloc _ |>.alloc _⟩
  · by_cases h2 : t1 < t2
    · rw [lessB_yes (by omega)]
      go_enter Try.func9, Try.ntmps9
      go_wp2
      go_ret
      exact ⟨rfl, (Mod.refl _ _).alloc _ |>.alloc _⟩
    · rw [lessB_no (by omega)]
      go_enter Try.func9, Try.ntmps9
      go_wp2
      go_ret
      exact ⟨rfl, (Mod.refl _ _).alloc _ |>.alloc _⟩
theorem rless_any (t1 w1 t2 w2 : Int) (w : World) :
    Calls Try.prog 10 #[.agg #[.int .i64 t1, .int .i64 w1], .agg #[.int .i64 t2, .int .i64 w2]] w fun e w' => e = .returned (.bool (lessB t1 w1 t2 w2)) ∧ Mod (fun _ => False) w w' := by
  by_cases h : t1 = t2
  · subst h
    by_cases h2 : w1 < w2
    · rw [lessB_yes (by omega)]
      go_enter Try.func10, Try.ntmps10
      go_wp2
      go_ret
      exact ⟨rfl, (Mod.refl _ _).alloc _ |>.alloc _⟩
    · rw [lessB_no (by omega)]
      go_enter Try.func10, Try.ntmps10
      go_wp2
      go_ret
      exact ⟨rfl, (Mod.refl _ _).alloc _ |>.alloc _⟩
  · by_cases h2 : t1 < t2
    · rw [lessB_yes (by omega)]
      go_enter Try.func10, Try.ntmps10
      go_wp2
      go_ret
      exact ⟨rfl, (Mod.refl _ _).alloc _ |>.alloc _⟩
    · rw [lessB_no (by omega)]
      go_enter Try.func10, Try.ntmps10
      go_wp2
      go_ret
      exact ⟨rfl, (Mod.refl _ _).alloc _ |>.alloc _⟩

theorem new_yes (who : Int) (w : World) (h1 : 1 ≤ who) (h2 : who ≤ 6) :
    Calls Try.prog 14 #[.int .i64 who] w fun e w' => e = .returned (.tuple #[.pointer (some ⟨w.heap.size, 0, none⟩), .int .i64 0]) ∧ w' = w.alloc (.cells #[.int .i64 who, .int .i64 0] 45) := by
  go_enter Try.func14, Try.ntmps14
  go_wp2
  go_ret2
  exact ⟨rfl, rfl⟩
theorem new_no (who : Int) (w : World) (h : who < 1 ∨ 6 < who) :
    Calls Try.prog 14 #[.int .i64 who] w fun e w' => e = .returned (.tuple #[.pointer none, .int .i64 1]) ∧ w = w' := by
  rcases h with h | h
  · go_enter Try.func14, Try.ntmps14
    go_wp2
    go_ret2
    exact ⟨rfl, rfl⟩
  · have h1 : ¬ who < 1 := by omega
    go_enter Try.func14, Try.ntmps14
    go_wp2
    go_ret2
    exact ⟨rfl, rfl⟩

theorem given_yes {b : Nat} {who t : Int} {w : World} (hc : Clk w b who t) (h1 : 1 ≤ who) :
    Calls Try.prog 24 #[.pointer (some ⟨b, 0, none⟩)] w fun e w' => e = .returned (.bool true) ∧ w = w' := by
  have c0 := hc.c0
  have h2 : decide (0 < who) = true := by simp; omega
  go_enter Try.func24, Try.ntmps24
  go_wp2
  go_ret
  exact ⟨rfl, rfl⟩
theorem given_no (b : Nat) (w : World) (h0 : w.cell? ⟨b, 0, none⟩ = some (.int .i64 0)) :
    Calls Try.prog 24 #[.pointer (some ⟨b, 0, none⟩)] w fun e w' => e = .returned (.bool false) ∧ w = w' := by
  go_enter Try.func24, Try.ntmps24
  go_wp2
  go_ret
  exact ⟨rfl, rfl⟩
theorem given_nil (w : World) :
    Calls Try.prog 24 #[.pointer none] w fun e w' => e = .returned (.bool false) ∧ w = w' := by
  go_enter Try.func24, Try.ntmps24
  go_wp2
  go_ret
  exact ⟨rfl, rfl⟩

theorem now_yes (b : Nat) (who t : Int) (w : World) (hc : Clk w b who t) (h1 : 1 ≤ who) :
    Calls Try.prog 19 #[.pointer (some ⟨b, 0, none⟩)] w fun e w' => e = .returned (.int .i64 t) ∧ w = w' := by
  have c0 := hc.c0
  have c1 := hc.c1
  go_enter Try.func19, Try.ntmps19
  go_wp2_with (go_at_call 24; refine (given_yes hc h1).mono ?_; rintro e w' ⟨rfl, rfl⟩)
  go_ret
  exact ⟨rfl, rfl⟩

def mxI (a b : Int) : Int := if a ≤ b then b else a
theorem see_yes (b : Nat) (who t st sw : Int) (w : World) (hc : Clk w b who t) (h1 : 1 ≤ who) (hm : mayB st sw = true) :
    Calls Try.prog 18 #[.pointer (some ⟨b, 0, none⟩), .agg #[.int .i64 st, .int .i64 sw]] w fun e w' => e = .returned (.int .i64 0) ∧ Clk w' b who (mxI t st) ∧ Mod (· = b) w w' := by
  have c0 := hc.c0
  have c1 := hc.c1
  have f1 := hc.f1
  have hlt := hc.lt
  go_enter Try.func18, Try.ntmps18
  go_wp2_with (first | (go_at_call 24; refine (given_yes (hc.alloc _) h1).mono ?_; rintro e w' ⟨rfl, rfl⟩) | (go_at_call 22; refine (may_any _ _ _).mono ?_; rintro e w' ⟨rfl, o, rfl⟩))
  go_region
  all_goals go_wp2
  all_goals go_ret
  · have h : t < st := by assumption
    exact ⟨rfl, by rw [show mxI t st = st by unfold mxI; rw [if_pos (by omega)]]; exact (((hc.set _).alloc _).alloc _).drew, ((((Mod.refl _ _).setCell (by intro _; rfl) _).alloc _).alloc _).drew⟩
  · have h : st ≤ t := by assumption
    exact ⟨rfl, by rw [show mxI t st = t by unfold mxI; split <;> omega]; exact (((hc.set _).alloc _).alloc _).drew, ((((Mod.refl _ _).setCell (by intro _; rfl) _).alloc _).alloc _).drew⟩
theorem see_no (b : Nat) (who t st sw : Int) (w : World) (hc : Clk w b who t) (h1 : 1 ≤ who) (hm : mayB st sw = false) :
    Calls Try.prog 18 #[.pointer (some ⟨b, 0, none⟩), .agg #[.int .i64 st, .int .i64 sw]] w fun e w' => e = .returned (.int .i64 1) ∧ Mod (fun _ => False) w w' := by
  have hlt := hc.lt
  go_enter Try.func18, Try.ntmps18
  go_wp2_with (first | (go_at_call 24; refine (given_yes (hc.alloc _) h1).mono ?_; rintro e w' ⟨rfl, rfl⟩) | (go_at_call 22; refine (may_any _ _ _).mono ?_; rintro e w' ⟨rfl, o, rfl⟩))
  go_ret
  exact ⟨rfl, ((Mod.refl _ _).alloc _).alloc _⟩
theorem see_nil (st sw : Int) (w : World) :
    Calls Try.prog 18 #[.pointer none, .agg #[.int .i64 st, .int .i64 sw]] w fun e w' => e = .returned (.int .i64 1) ∧ Mod (fun _ => False) w w' := by
  go_enter Try.func18, Try.ntmps18
  go_wp2_with (first | (go_at_call 24; refine (given_nil _).mono ?_; rintro e w' ⟨rfl, rfl⟩))
  go_ret
  exact ⟨rfl, (Mod.refl _ _).alloc _⟩
theorem see_zero (b : Nat) (t st sw : Int) (w : World) (hc : Clk w b 0 t) :
    Calls Try.prog 18 #[.pointer (some ⟨b, 0, none⟩), .agg #[.int .i64 st, .int .i64 sw]] w fun e w' => e = .returned (.int .i64 1) ∧ Mod (fun _ => False) w w' := by
  have hlt := hc.lt
  go_enter Try.func18, Try.ntmps18
  go_wp2_with (first | (go_at_call 24; refine (given_no _ _ (hc.alloc _).c0).mono ?_; rintro e w' ⟨rfl, rfl⟩))
  go_ret
  exact ⟨rfl, (Mod.refl _ _).alloc _⟩

theorem next_yes (b : Nat) (who t : Int) (w : World) (hc : Clk w b who t) (h1 : 1 ≤ who) (h0 : 0 ≤ t) (h2 : t < 1099511627775) :
    Calls Try.prog 15 #[.pointer (some ⟨b, 0, none⟩)] w fun e w' => e = .returned (.tuple #[.agg #[.int .i64 (t + 1), .int .i64 who], .int .i64 0]) ∧ Clk w' b who (t + 1) ∧ Mod (· = b) w w' := by
  have c0 := hc.c0
  have c1 := hc.c1
  have f1 := hc.f1
  have hlt := hc.lt
  go_enter Try.func15, Try.ntmps15
  go_wp2_with (first | (go_at_call 24; refine (given_yes (hc.alloc _) h1).mono ?_; rintro e w' ⟨rfl, rfl⟩))
  go_region
  all_goals go_wp2
  all_goals refine bodyPost_ret (v := .tuple #[.agg #[.int .i64 (t + 1), .int .i64 who], .int .i64 0]) (by simp [results, Try.results15, go_sem]) rfl ⟨rfl, ?_, ?_⟩
  all_goals first | exact ((hc.set _).alloc _).drew | exact (((Mod.refl _ _).setCell (by intro _; rfl) _).alloc _).drew
theorem next_spent (b : Nat) (who t : Int) (w : World) (hc : Clk w b who t) (h1 : 1 ≤ who) (h2 : 1099511627775 ≤ t) :
    Calls Try.prog 15 #[.pointer (some ⟨b, 0, none⟩)] w fun e w' => e = .returned (.tuple #[.agg #[.int .i64 0, .int .i64 0], .int .i64 150]) ∧ Mod (fun _ => False) w w' := by
  have c0 := hc.c0
  have c1 := hc.c1
  have f1 := hc.f1
  have hlt := hc.lt
  go_enter Try.func15, Try.ntmps15
  go_wp2_with (first | (go_at_call 24; refine (given_yes (hc.alloc _) h1).mono ?_; rintro e w' ⟨rfl, rfl⟩))
  all_goals refine bodyPost_ret (v := .tuple #[.agg #[.int .i64 0, .int .i64 0], .int .i64 150]) (by simp [results, Try.results15, go_sem]) rfl ⟨rfl, ?_⟩
  all_goals exact (Mod.refl _ _).alloc _
theorem next_nil (w : World) :
    Calls Try.prog 15 #[.pointer none] w fun e w' => e = .returned (.tuple #[.agg #[.int .i64 0, .int .i64 0], .int .i64 1]) ∧ Mod (fun _ => False) w w' := by
  go_enter Try.func15, Try.ntmps15
  go_wp2_with (first | (go_at_call 24; refine (given_nil _).mono ?_; rintro e w' ⟨rfl, rfl⟩))
  all_goals refine bodyPost_ret (v := .tuple #[.agg #[.int .i64 0, .int .i64 0], .int .i64 1]) (by simp [results, Try.results15, go_sem]) rfl ⟨rfl, ?_⟩
  all_goals exact (Mod.refl _ _).alloc _
theorem next_zero (b : Nat) (t : Int) (w : World) (hc : Clk w b 0 t) :
    Calls Try.prog 15 #[.pointer (some ⟨b, 0, none⟩)] w fun e w' => e = .returned (.tuple #[.agg #[.int .i64 0, .int .i64 0], .int .i64 1]) ∧ Mod (fun _ => False) w w' := by
  go_enter Try.func15, Try.ntmps15
  go_wp2_with (first | (go_at_call 24; refine (given_no _ _ (hc.alloc _).c0).mono ?_; rintro e w' ⟨rfl, rfl⟩))
  all_goals refine bodyPost_ret (v := .tuple #[.agg #[.int .i64 0, .int .i64 0], .int .i64 1]) (by simp [results, Try.results15, go_sem]) rfl ⟨rfl, ?_⟩
  all_goals exact (Mod.refl _ _).alloc _
theorem now_nil (w : World) :
    Calls Try.prog 19 #[.pointer none] w fun e w' => e = .returned (.int .i64 0) ∧ w = w' := by
  go_enter Try.func19, Try.ntmps19
  go_wp2_with (go_at_call 24; refine (given_nil _).mono ?_; rintro e w' ⟨rfl, rfl⟩)
  go_ret
  exact ⟨rfl, rfl⟩
theorem now_zero (b : Nat) (t : Int) (w : World) (hc : Clk w b 0 t) :
    Calls Try.prog 19 #[.pointer (some ⟨b, 0, none⟩)] w fun e w' => e = .returned (.int .i64 0) ∧ w = w' := by
  go_enter Try.func19, Try.ntmps19
  go_wp2_with (go_at_call 24; refine (given_no _ _ hc.c0).mono ?_; rintro e w' ⟨rfl, rfl⟩)
  go_ret
  exact ⟨rfl, rfl⟩
end Go.Proofs.Ytlphfkigjkebfaa
