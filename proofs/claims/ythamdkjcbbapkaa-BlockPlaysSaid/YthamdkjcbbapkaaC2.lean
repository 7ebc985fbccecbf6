/- The reference's device: Read, Fuse, On. -/
import Derived.Test.YthamdkjcbbapkaaC1
namespace Go.Proofs.Ythamdkjcbbapkaa
open Go.RowKit
set_option linter.unusedSimpArgs false
set_option linter.unusedVariables false

theorem rread_arg (a : Option Addr) (n c : Nat) (fuse : Int) (off : Bool) (wr : Int) (at_ : Int) (w : World) (h : at_ < 0 ∨ (n : Int) ≤ at_) :
    Calls Try.prog 15 #[.agg (rdC a n c fuse off wr), .int .i64 at_] w fun e w' => e = .returned (.tuple #[.string ByteArray.empty, .int .i64 1]) ∧ Mod (fun _ => False) w w' := by
  by_cases h0 : at_ < 0
  · clear h
    go_enter Try.func15, Try.ntmps15
    go_wp2_with fail
    go_ret2
    exact ⟨rfl, (Mod.refl _ _).alloc _⟩
  · have h1 : (n : Int) ≤ at_ := by omega
    clear h
    go_enter Try.func15, Try.ntmps15
    go_wp2_with fail
    go_ret2
    exact ⟨rfl, (Mod.refl _ _).alloc _⟩
theorem rread_off (a : Option Addr) (n c : Nat) (fuse : Int) (wr : Int) (at_ : Int) (w : World) (h0 : 0 ≤ at_) (h1 : at_ < (n : Int)) :
    Calls Try.prog 15 #[.agg (rdC a n c fuse true wr), .int .i64 at_] w fun e w' => e = .returned (.tuple #[.string ByteArray.empty, .int .i64 170]) ∧ Mod (fun _ => False) w w' := by
  have h2 : ¬ (n : Int) ≤ at_ := by omega
  have h3 : ¬ at_ < 0 := by omega
  go_enter Try.func15, Try.ntmps15
  go_wp2_with fail
  go_ret2
  exact ⟨rfl, (Mod.refl _ _).alloc _⟩
theorem rread_ok (b n c : Nat) (fuse : Int) (wr : Int) (at_ : Nat) (f : Nat → ByteArray) (w : World) (h1 : at_ < n) (hs : SL w b n f) :
    Calls Try.prog 15 #[.agg (rdC (some ⟨b, 0, none⟩) n c fuse false wr), .int .i64 (at_ : Int)] w fun e w' => e = .returned (.tuple #[.string (f at_), .int .i64 0]) ∧ Mod (fun _ => False) w w' := by
  have h0 : (0 : Int) ≤ (at_ : Int) := by omega
  have h2 : ¬ (n : Int) ≤ (at_ : Int) := by omega
  have h4 : (at_ : Int) < (n : Int) := by omega
  have h3 : ¬ (at_ : Int) < 0 := by omega
  have hc := (hs.kept ((Mod.refl (fun _ => False) w).alloc (.cells (rdC (some ⟨b, 0, none⟩) n c fuse false wr) 29))) at_ h1
  have HS := Lib.hid hs
  clear hs
  go_enter Try.func15, Try.ntmps15
  go_wp2_with fail
  go_ret2
  exact ⟨rfl, (Mod.refl _ _).alloc _⟩
theorem rfuse_any (a : Option Addr) (n c : Nat) (fuse : Int) (off : Bool) (wr : Int) (k : Int) (w : World) :
    Calls Try.prog 16 #[.agg (rdC a n c fuse off wr), .int .i64 k] w fun e w' => e = .returned (.agg (rdC a n c (max k (-1)) off wr)) ∧ Mod (fun _ => False) w w' := by
  by_cases h : k < -1
  · have hk : max k (-1) = -1 := by omega
    rw [hk]
    have h2 : ¬ (-1 : Int) < k := by omega
    clear hk
    go_enter Try.func16, Try.ntmps16
    go_wp2_with fail
    all_goals exact bodyPost_ret (v := .agg (rdC a n c (-1) off wr)) (results_cell_one (fn := Try.f16) (p := 4) rfl _ _ (w.heap.size + 1) rfl (new_block _ _ _ _ (by simp))) rfl ⟨rfl, ((Mod.refl _ _).alloc _).alloc _⟩
  · have hk : max k (-1) = k := by omega
    rw [hk]
    have h2 : (-1 : Int) ≤ k := by omega
    clear hk
    by_cases h3 : k = -1
    · subst h3
      go_enter Try.func16, Try.ntmps16
      go_wp2_with fail
      all_goals exact bodyPost_ret (v := .agg (rdC a n c (-1) off wr)) (results_cell_one (fn := Try.f16) (p := 4) rfl _ _ (w.heap.size + 1) rfl (new_block _ _ _ _ (by simp))) rfl ⟨rfl, ((Mod.refl _ _).alloc _).alloc _⟩
    · have h4 : (-1 : Int) < k := by omega
      go_enter Try.func16, Try.ntmps16
      go_wp2_with fail
      all_goals exact bodyPost_ret (v := .agg (rdC a n c k off wr)) (results_cell_one (fn := Try.f16) (p := 4) rfl _ _ (w.heap.size + 1) rfl (new_block _ _ _ _ (by simp))) rfl ⟨rfl, ((Mod.refl _ _).alloc _).alloc _⟩
theorem ron_any (a : Option Addr) (n c : Nat) (fuse : Int) (off : Bool) (wr : Int) (w : World) :
    Calls Try.prog 18 #[.agg (rdC a n c fuse off wr)] w fun e w' => e = .returned (.agg (rdC a n c (-1) false wr)) ∧ Mod (fun _ => False) w w' := by
  go_enter Try.func18, Try.ntmps18
  go_wp2_with fail
  exact bodyPost_ret (v := .agg (rdC a n c (-1) false wr)) (results_cell_one (fn := Try.f18) (p := 2) rfl _ _ (w.heap.size + 1) rfl (new_block _ _ _ _ (by simp))) rfl ⟨rfl, ((Mod.refl _ _).alloc _).alloc _⟩
theorem rwrite_arg (a : Option Addr) (n c : Nat) (fuse : Int) (off : Bool) (wr : Int) (at_ : Int) (s : ByteArray) (w : World) (h : at_ < 0 ∨ (n : Int) ≤ at_ ∨ s.size ≠ 64) :
    Calls Try.prog 12 #[.agg (rdC a n c fuse off wr), .int .i64 at_, .string s] w fun e w' => e = .returned (.tuple #[.agg (rdC a n c fuse off wr), .int .i64 1]) ∧ Mod (fun _ => False) w w' := by
  by_cases h0 : at_ < 0
  · clear h
    go_enter Try.func12, Try.ntmps12
    go_wp2_with fail
    exact bodyPost_ret (v := .tuple #[.agg (rdC a n c fuse off wr), .int .i64 1]) (results_cell_tmp (fn := Try.f12) (p := 6) (q := 7) rfl _ _ (w.heap.size + 1) rfl _ rfl (new_block _ _ _ _ (by simp))) rfl ⟨rfl, ((Mod.refl _ _).alloc _).alloc _⟩
  · have h0' : 0 ≤ at_ := by omega
    by_cases h1 : (n : Int) ≤ at_
    · clear h
      go_enter Try.func12, Try.ntmps12
      go_wp2_with fail
      exact bodyPost_ret (v := .tuple #[.agg (rdC a n c fuse off wr), .int .i64 1]) (results_cell_tmp (fn := Try.f12) (p := 6) (q := 7) rfl _ _ (w.heap.size + 1) rfl _ rfl (new_block _ _ _ _ (by simp))) rfl ⟨rfl, ((Mod.refl _ _).alloc _).alloc _⟩
    · have hs : (((s.size : Nat) : Int) != 64) = true := by rw [bne_iff_ne]; omega
      have h1' : at_ < (n : Int) := by omega
      clear h
      go_enter Try.func12, Try.ntmps12
      go_wp2_with fail
      exact bodyPost_ret (v := .tuple #[.agg (rdC a n c fuse off wr), .int .i64 1]) (results_cell_tmp (fn := Try.f12) (p := 6) (q := 7) rfl _ _ (w.heap.size + 1) rfl _ rfl (new_block _ _ _ _ (by simp))) rfl ⟨rfl, ((Mod.refl _ _).alloc _).alloc _⟩
theorem rwrite_off (a : Option Addr) (n c : Nat) (fuse : Int) (off : Bool) (wr : Int) (at_ : Int) (s : ByteArray) (w : World) (h0 : 0 ≤ at_) (h1 : at_ < (n : Int)) (hs : s.size = 64) (ho : off = true ∨ fuse = 0) :
    Calls Try.prog 12 #[.agg (rdC a n c fuse off wr), .int .i64 at_, .string s] w fun e w' => e = .returned (.tuple #[.agg (rdC a n c (-1) true wr), .int .i64 170]) ∧ Mod (fun _ => False) w w' := by
  have hs' : (((s.size : Nat) : Int) != 64) = false := by rw [bne_eq_false_iff_eq]; omega
  have h2 : ¬ (n : Int) ≤ at_ := by omega
  clear hs
  cases off
  · obtain rfl : fuse = 0 := by simpa using ho
    clear ho
    go_enter Try.func12, Try.ntmps12
    go_wp2_with fail
    exact bodyPost_ret (v := .tuple #[.agg (rdC a n c (-1) true wr), .int .i64 170]) (results_cell_tmp (fn := Try.f12) (p := 6) (q := 7) rfl _ _ (w.heap.size + 1) rfl _ rfl (new_block _ _ _ _ (by simp))) rfl ⟨rfl, ((Mod.refl _ _).alloc _).alloc _⟩
  · clear ho
    go_enter Try.func12, Try.ntmps12
    go_wp2_with fail
    exact bodyPost_ret (v := .tuple #[.agg (rdC a n c (-1) true wr), .int .i64 170]) (results_cell_tmp (fn := Try.f12) (p := 6) (q := 7) rfl _ _ (w.heap.size + 1) rfl _ rfl (new_block _ _ _ _ (by simp))) rfl ⟨rfl, ((Mod.refl _ _).alloc _).alloc _⟩
end Go.Proofs.Ythamdkjcbbapkaa
