/- The clock's contracts: what each function of the clock does to the world. -/
import Derived.Test.YtlphfkigjkebfaaRows
import Derived.WalkKit
import Derived.WalkSpells
import Derived.WalkLawsBesides
import Derived.Deep.QuietTactic
import Derived.BigQuiet
import Derived.BigRegion
import Derived.Lib.Hide
namespace Go.Proofs.Ytlphfkigjkebfaa
open Go.RowKit

/-- w' is w with new blocks, and writes to blocks of S alone. -/
structure Mod (S : Nat → Prop) (w w' : World) : Prop where
  os : w'.os = w.os
  tape : w'.tape = w.tape
  output : w'.output = w.output
  size : w.heap.size ≤ w'.heap.size
  block : ∀ k, k < w.heap.size → ¬ S k → w'.heap[k]? = w.heap[k]?

theorem Mod.refl (S : Nat → Prop) (w : World) : Mod S w w := ⟨rfl, rfl, rfl, Nat.le_refl _, fun _ _ _ => rfl⟩
theorem Mod.trans {S T U : Nat → Prop} {a b c : World} (h : Mod S a b) (k : Mod T b c) (hs : ∀ i, S i → U i) (ht : ∀ i, i < a.heap.size → T i → U i) : Mod U a c :=
  ⟨k.os.trans h.os, k.tape.trans h.tape, k.output.trans h.output, Nat.le_trans h.size k.size, fun i hi hu =>
    (k.block i (Nat.lt_of_lt_of_le hi h.size) (fun t => hu (ht i hi t))).trans (h.block i hi (fun s => hu (hs i s)))⟩
theorem Mod.drew {S : Nat → Prop} {a w : World} (h : Mod S a w) : Mod S a w.drew := ⟨h.os, h.tape, h.output, h.size, h.block⟩
theorem Mod.alloc {S : Nat → Prop} {a w : World} (h : Mod S a w) (o : Obj) : Mod S a (w.alloc o) :=
  ⟨h.os, h.tape, h.output, Nat.le_trans h.size (by simp), fun k hk hs => (Below.heap_alloc _ _ _ (Nat.lt_of_lt_of_le hk h.size)).trans (h.block k hk hs)⟩
theorem Mod.setCell {S : Nat → Prop} {a w : World} (h : Mod S a w) {p : Addr} (hp : p.block < a.heap.size → S p.block) (u : Value) : Mod S a (w.setCell p u) :=
  ⟨h.os, h.tape, h.output, Nat.le_trans h.size (by simp [World.setCell]), fun k hk hs => by
    rw [Below.heap_setCell _ _ _ _ (fun e => hs (by subst e; exact hp hk))]; exact h.block k hk hs⟩
theorem Mod.below {S : Nat → Prop} {w w' : World} (h : Mod S w w') (hs : ∀ k, S k → w.heap.size ≤ k) : Below w.heap.size w w' :=
  ⟨h.os, h.tape, h.output, h.size, fun k hk => h.block k hk (fun s => by have := hs k s; omega)⟩

theorem Mod.cell {S : Nat → Prop} {w w' : World} (h : Mod S w w') {p : Addr} (hp : p.block < w.heap.size) (hs : ¬ S p.block) : w'.cell? p = w.cell? p := World.cell?_of_block (w := w) (h.block p.block hp hs)
theorem Mod.frozen {S : Nat → Prop} {w w' : World} (h : Mod S w w') {p : Addr} (hp : p.block < w.heap.size) (hs : ¬ S p.block) : w'.frozen? p = w.frozen? p := World.frozen?_of_block (w := w) (h.block p.block hp hs)

/-- Block b is a clock of who, at the time t. -/
def Clk (w : World) (b : Nat) (who t : Int) : Prop := w.heap[b]? = some (.cells #[.int .i64 who, .int .i64 t] 45 (0, 0))

theorem Clk.lt {w : World} {b : Nat} {who t : Int} (h : Clk w b who t) : b < w.heap.size := lt_of_block h
theorem Clk.c0 {w : World} {b : Nat} {who t : Int} (h : Clk w b who t) : w.cell? ⟨b, 0, none⟩ = some (.int .i64 who) := by unfold Clk at h; simp [World.cell?, h]
theorem Clk.c1 {w : World} {b : Nat} {who t : Int} (h : Clk w b who t) : w.cell? ⟨b, 1, none⟩ = some (.int .i64 t) := by unfold Clk at h; simp [World.cell?, h]
theorem Clk.f1 {w : World} {b : Nat} {who t : Int} (h : Clk w b who t) : w.frozen? ⟨b, 1, none⟩ = false := by unfold Clk at h; simp [World.frozen?, h]
theorem Clk.kept {S : Nat → Prop} {w w' : World} {b : Nat} {who t : Int} (h : Clk w b who t) (k : Mod S w w') (hs : ¬ S b) : Clk w' b who t :=
  (k.block b h.lt hs).trans h
theorem Clk.set {w : World} {b : Nat} {who t : Int} (h : Clk w b who t) (u : Int) : Clk (w.setCell ⟨b, 1, none⟩ (.int .i64 u)) b who u := by
  have hlt := lt_of_block h
  have h' : w.heap[b] = .cells #[.int .i64 who, .int .i64 t] 45 (0, 0) := by unfold Clk at h; simpa [Array.getElem?_eq_getElem hlt] using h
  show (w.heap.modify b _)[b]? = _
  rw [Array.getElem?_eq_getElem (by simpa using hlt), Array.getElem_modify_self, h']
  rfl
theorem Clk.drew {w : World} {b : Nat} {who t : Int} (h : Clk w b who t) : Clk w.drew b who t := h
theorem Clk.alloc {w : World} {b : Nat} {who t : Int} (h : Clk w b who t) (o : Obj) : Clk (w.alloc o) b who t := (Below.heap_alloc _ _ _ h.lt).trans h
theorem Clk.new (w : World) (who t : Int) : Clk (w.alloc (.cells #[.int .i64 who, .int .i64 t] 45)) w.heap.size who t := by
  show (w.heap.push _)[w.heap.size]? = _
  simp

/-! ### may, given -/
def mayB (t who : Int) : Bool := decide (1 ≤ t ∧ t ≤ 1099511627775 ∧ 1 ≤ who ∧ who ≤ 6)
theorem mayB_yes {t who : Int} (h1 : 1 ≤ t) (h2 : t ≤ 1099511627775) (h3 : 1 ≤ who) (h4 : who ≤ 6) : mayB t who = true := by simp [mayB, *]
theorem mayB_no {t who : Int} (h : t < 1 ∨ 1099511627775 < t ∨ who < 1 ∨ 6 < who) : mayB t who = false := by unfold mayB; rw [decide_eq_false_iff_not]; omega
theorem ret_bool {a b : Bool} (h : a = b) : Ending.returned (.bool a) = .returned (.bool b) := by rw [h]
set_option maxHeartbeats 400000 in
theorem may_any (t who : Int) (w : World) :
    Calls Try.prog 22 #[.agg #[.int .i64 t, .int .i64 who]] w fun e w' => e = .returned (.bool (mayB t who)) ∧ ∃ o, w' = w.alloc o := by
  by_cases h1 : 1 ≤ t
  · by_cases h2 : t ≤ 1099511627775
    · by_cases h3 : 1 ≤ who
      · by_cases h4 : who ≤ 6
        · rw [mayB_yes h1 h2 h3 h4]
          go_enter Try.func22, Try.ntmps22
          go_wp2
          go_ret
          exact ⟨rfl, _, rfl⟩
        · rw [mayB_no (by omega)]
          go_enter Try.func22, Try.ntmps22
          go_wp2
          go_ret
          exact ⟨rfl, _, rfl⟩
      · rw [mayB_no (by omega)]
        go_enter Try.func22, Try.ntmps22
        go_wp2
        go_ret
        exact ⟨rfl, _, rfl⟩
    · rw [mayB_no (by omega)]
      go_enter Try.func22, Try.ntmps22
      go_wp2
      go_ret
      exact ⟨rfl, _, rfl⟩
  · rw [mayB_no (by omega)]
    go_enter Try.func22, Try.ntmps22
    go_wp2
    go_ret
    exact ⟨rfl, _, rfl⟩
set_option maxHeartbeats 400000 in
theorem rmay_any (t who : Int) (w : World) :
    Calls Try.prog 23 #[.agg #[.int .i64 t, .int .i64 who]] w fun e w' => e = .returned (.bool (mayB t who)) ∧ ∃ o, w' = w.alloc o := by
  by_cases h1 : 1 ≤ t
  · by_cases h2 : t ≤ 1099511627775
    · by_cases h3 : 1 ≤ who
      · by_cases h4 : who ≤ 6
        · rw [mayB_yes h1 h2 h3 h4]
          go_enter Try.func23, Try.ntmps23
          go_wp2
          go_ret
          exact ⟨rfl, _, rfl⟩
        · rw [mayB_no (by omega)]
          go_enter Try.func23, Try.ntmps23
          go_wp2
          go_ret
          exact ⟨rfl, _, rfl⟩
      · rw [mayB_no (by omega)]
        go_enter Try.func23, Try.ntmps23
        go_wp2
        go_ret
        exact ⟨rfl, _, rfl⟩
    · rw [mayB_no (by omega)]
      go_enter Try.func23, Try.ntmps23
      go_wp2
      go_ret
      exact ⟨rfl, _, rfl⟩
  · rw [mayB_no (by omega)]
    go_enter Try.func23, Try.ntmps23
    go_wp2
    go_ret
    exact ⟨rfl, _, rfl⟩
def errOf (b : Bool) : Int := if b then 0 else 1
/-- clock.Check. -/
theorem check_any (t who : Int) (w : World) :
    Calls Try.prog 11 #[.agg #[.int .i64 t, .int .i64 who]] w fun e w' => e = .returned (.int .i64 (errOf (mayB t who))) ∧ Mod (fun _ => False) w w' := by
  cases hm : mayB t who
  all_goals
    go_enter Try.func11, Try.ntmps11
    go_wp2_with (go_at_call 22; refine (may_any _ _ _).mono ?_; rintro e w' ⟨rfl, o, rfl⟩)
    go_ret
    exact ⟨rfl, (Mod.refl _ _).alloc _ |>.alloc _⟩
theorem rcheck_any (t who : Int) (w : World) :
    Calls Try.prog 12 #[.agg #[.int .i64 t, .int .i64 who]] w fun e w' => e = .returned (.int .i64 (errOf (mayB t who))) ∧ Mod (fun _ => False) w w' := by
  cases hm : mayB t who
  all_goals
    go_enter Try.func12, Try.ntmps12
    go_wp2_with (go_at_call 23; refine (rmay_any _ _ _).mono ?_; rintro e w' ⟨rfl, o, rfl⟩)
    go_ret
    exact ⟨rfl, (Mod.refl _ _).alloc _ |>.alloc _⟩
end Go.Proofs.Ytlphfkigjkebfaa
