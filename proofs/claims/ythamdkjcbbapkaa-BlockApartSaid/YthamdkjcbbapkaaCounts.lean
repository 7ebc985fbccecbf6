/- BlockCounts: as many blocks are written as were answered with OK. -/
import Derived.Test.YthamdkjcbbapkaaB4
import Derived.Test.YthamdkjcbbapkaaBm
import Derived.Deep.DeepCutAuto
import Derived.Deep.CutBlock
namespace Go.Proofs.Ythamdkjcbbapkaa
open Go.RowKit
set_option linter.unusedSimpArgs false
set_option linter.unusedVariables false

/-- The cells of n numbers. -/
def Ints (w : World) (a : Option Addr) (n : Nat) (z : Nat → Int) : Prop :=
  ∀ k, k < n → ∃ b off, a = some ⟨b, off, none⟩ ∧ w.cell? ⟨b, off + k, none⟩ = some (.int .i64 (z k))

set_option maxRecDepth 100000 in
set_option maxHeartbeats 8000000 in
theorem counts_any (a : Option Addr) (n cap : Nat) (z : Nat → Int) (fuse : Int) (w : World) (hn : n ≤ 9223372036854775807) (hz : Ints w a n z) :
    Calls Try.prog 7 #[.slice a n cap, .int .i64 fuse] w fun e w' => e = .returned (.bool true) ∧ Mod (fun _ => False) w w' := by
  go_enter Try.func7, Try.ntmps7
  go_wp2_with fail
  refine (new_any 8 w (by omega) (by omega)).mono ?_
  rintro e w1 ⟨rfl, d1, m1⟩
  go_wp2_with fail
  go_loopw [7, 8, 9] (fun c l q wr => ∃ (k : Nat) (mem : List UInt8) (left cnt : Int), k ≤ n ∧ k ≤ 40 ∧ q = .int .i64 k ∧ c = .int .i64 cnt ∧ l = .int .i64 left ∧ 0 ≤ cnt ∧ cnt ≤ k ∧ -1 ≤ left ∧ left ≤ 7 ∧ Dev wr (w.heap.size + 1) w.heap.size 8 mem left false cnt ∧ Mod (fun _ => False) w wr) (fun _ _ q _ => 40 - (intOf q).toNat)
  case atStart => exact ⟨0, _, _, _, by omega, by omega, rfl, rfl, rfl, by omega, by omega, by omega, by omega, d1, m1⟩
  case round =>
    clear d1 m1
    obtain ⟨k, mem, left0, cnt, hk1, hk2, rfl, rfl, rfl, hc0, hc1, hl0, hl1, d, hm⟩ := hrel
    by_cases hlt1 : k < n
    · by_cases hlt2 : k < 40
      · obtain ⟨b, o, rfl, z0⟩ := hz k hlt1
        clear hz
        generalize z k = x0 at *
        have hi0 : (0 : Int) ≤ (k : Int) := by omega
        have hi1 : (k : Int) < (n : Int) := by omega
        obtain ⟨lv, hlv, hlv7⟩ : ∃ lv : Nat, bits BinOp.and IntKind.i64 (fuse / 2 ^ (k % 8)) 7 = (lv : Int) ∧ lv ≤ 7 := ⟨(fuse / 2 ^ (k % 8) % 8).toNat, by rw [i64_and7]; omega, by omega⟩
        have hk7 : bits BinOp.and IntKind.i64 (k : Int) 7 = ((k % 8 : Nat) : Int) := by rw [i64_and7]; omega
        obtain ⟨y, hy, hy15⟩ : ∃ y : Nat, bits BinOp.and IntKind.i64 x0 15 = (y : Int) ∧ y ≤ 15 := ⟨(x0 % 16).toNat, by rw [i64_and15]; omega, by omega⟩
        by_cases hm5 : ((k : Int) % 10 == 5) = true
        · go_wp2_with fail
          refine (fuse_dev d (by omega) _).mono ?_
          rintro e w2 ⟨rfl, d2, m2⟩
          have hmx : max (lv : Int) (-1) = lv := by omega
          rw [hmx] at d2
          have hm2 := hm.new m2 (fun i (e : i = _) => by omega)
          clear d m2 hm hmx
          obtain ⟨d, hm⟩ := And.intro d2 hm2
          clear d2 hm2
          have hbn := World.block_lt_of_cell? w _ z0
          by_cases hy7 : 7 < y
          · skip
            go_wp2_with fail
            refine wp_region_held_drew (S := (fun w' => w'.cell? ⟨b, o + k, none⟩ = some (.int .i64 x0) ∧ Mod (fun _ => False) w w')) (by kernel_rfl) ⟨hm.at z0, hm.drew⟩ (fun hHeld => ?_)
            refine held_take 0 44 (v := ?_) rfl rfl (by kernel_rfl) (by kernel_rfl) (by kernel_rfl) (fun _ _ _ _ h => h) (by rfl) ?_ hHeld ?_
            rotate_left; · (intro w hSw; clear hSw; go_simp; first | done | with_reducible rfl)
            simp only [List.setIfInBounds_toArray, List.set_cons_zero, List.set_cons_succ]
            refine held_take 1 45 (v := ?_) rfl rfl (by kernel_rfl) (by kernel_rfl) (by kernel_rfl) (fun _ _ _ _ h => h) (by rfl) ?_ hHeld ?_
            rotate_left; · (intro w hSw; clear hSw; go_simp; first | done | with_reducible rfl)
            simp only [List.setIfInBounds_toArray, List.set_cons_zero, List.set_cons_succ]
            refine held_take 2 46 (v := ?_) rfl rfl (by kernel_rfl) (by kernel_rfl) (by kernel_rfl) (fun _ _ _ _ h => h) (by rfl) ?_ hHeld ?_
            rotate_left; · (intro w hSw; clear hSw; go_simp; first | done | with_reducible rfl)
            simp only [List.setIfInBounds_toArray, List.set_cons_zero, List.set_cons_succ]
            refine held_take 3 47 (v := ?_) rfl rfl (by kernel_rfl) (by kernel_rfl) (by kernel_rfl) (fun _ _ _ _ h => h) (by rfl) ?_ hHeld ?_
            rotate_left; · (intro w hSw; clear hSw; go_simp; first | done | with_reducible rfl)
            simp only [List.setIfInBounds_toArray, List.set_cons_zero, List.set_cons_succ]
            refine held_take 4 48 (v := ?_) rfl rfl (by kernel_rfl) (by kernel_rfl) (by kernel_rfl) (fun _ _ _ _ h => h) (by rfl) ?_ hHeld ?_
            rotate_left; · (intro w hSw; obtain ⟨hS0, hS1⟩ := hSw; go_simp; first | done | with_reducible rfl)
            simp only [List.setIfInBounds_toArray, List.set_cons_zero, List.set_cons_succ]
            refine held_take 5 49 (v := ?_) rfl rfl (by kernel_rfl) (by kernel_rfl) (by kernel_rfl) (fun _ _ _ _ h => h) (by rfl) ?_ hHeld ?_
            rotate_left; · (intro w hSw; clear hSw; go_simp; first | done | with_reducible rfl)
            simp only [List.setIfInBounds_toArray, List.set_cons_zero, List.set_cons_succ]
            refine held_call 6 50 rfl rfl (by kernel_rfl) (by rfl) (f := 11) (args := ?_) ?_ ?_
            rotate_left; · (go_simp; first | done | with_reducible rfl)
            refine (filled_any 120 120 rfl _).mono ?_; rintro e w8 ⟨rfl, m8⟩
            have d8 := d.drew.kept m8 (fun e => e) (fun e => e)
            refine ⟨_, rfl, ⟨m8.at hHeld.1, hHeld.2.tr m8⟩, fun hNew => ?_⟩; clear hHeld; have hHeld := hNew; clear hNew
            simp only [List.setIfInBounds_toArray, List.set_cons_zero, List.set_cons_succ]
            refine held_call 7 51 rfl rfl (by kernel_rfl) (by rfl) (f := 13) (args := ?_) ?_ ?_
            rotate_left; · (go_simp; first | done | with_reducible rfl)
            refine (write_arg1 d8 (y : Int) _ (by omega)).mono ?_; rintro e w9 ⟨rfl, rfl⟩
            refine ⟨_, rfl, hHeld, fun hNew => ?_⟩; clear hHeld; have hHeld := hNew; clear hNew
            simp only [List.setIfInBounds_toArray, List.set_cons_zero, List.set_cons_succ]
            refine held_take 8 10 (v := ?_) rfl rfl (by kernel_rfl) (by kernel_rfl) (by kernel_rfl) (fun _ _ _ _ h => h) (by rfl) ?_ hHeld ?_
            rotate_left; · (intro w hSw; clear hSw; go_simp; first | done | with_reducible rfl)
            simp only [List.setIfInBounds_toArray, List.set_cons_zero, List.set_cons_succ]
            refine wpAnyH_done (by kernel_rfl) ?_ _
            obtain ⟨_, hm9⟩ := hHeld
            clear d hm m8 hlv hk7
            go_wp2_with fail
            refine (writes_dev d8).mono ?_
            rintro e w10 ⟨rfl, rfl⟩
            go_wp2_with fail
            go_roundw
            case rel => exact ⟨k + 1, _, _, _, by omega, by omega, by go_num, rfl, rfl, by omega, by omega, by omega, by omega, d8, hm9⟩
            case measure => simp [intOf]; omega
          · by_cases hL : lv = 0
            · subst hL
              go_wp2_with fail
              refine wp_region_held_drew (S := (fun w' => w'.cell? ⟨b, o + k, none⟩ = some (.int .i64 x0) ∧ Mod (fun _ => False) w w')) (by kernel_rfl) ⟨hm.at z0, hm.drew⟩ (fun hHeld => ?_)
              refine held_take 0 44 (v := ?_) rfl rfl (by kernel_rfl) (by kernel_rfl) (by kernel_rfl) (fun _ _ _ _ h => h) (by rfl) ?_ hHeld ?_
              rotate_left; · (intro w hSw; clear hSw; go_simp; first | done | with_reducible rfl)
              simp only [List.setIfInBounds_toArray, List.set_cons_zero, List.set_cons_succ]
              refine held_take 1 45 (v := ?_) rfl rfl (by kernel_rfl) (by kernel_rfl) (by kernel_rfl) (fun _ _ _ _ h => h) (by rfl) ?_ hHeld ?_
              rotate_left; · (intro w hSw; clear hSw; go_simp; first | done | with_reducible rfl)
              simp only [List.setIfInBounds_toArray, List.set_cons_zero, List.set_cons_succ]
              refine held_take 2 46 (v := ?_) rfl rfl (by kernel_rfl) (by kernel_rfl) (by kernel_rfl) (fun _ _ _ _ h => h) (by rfl) ?_ hHeld ?_
              rotate_left; · (intro w hSw; clear hSw; go_simp; first | done | with_reducible rfl)
              simp only [List.setIfInBounds_toArray, List.set_cons_zero, List.set_cons_succ]
              refine held_take 3 47 (v := ?_) rfl rfl (by kernel_rfl) (by kernel_rfl) (by kernel_rfl) (fun _ _ _ _ h => h) (by rfl) ?_ hHeld ?_
              rotate_left; · (intro w hSw; clear hSw; go_simp; first | done | with_reducible rfl)
              simp only [List.setIfInBounds_toArray, List.set_cons_zero, List.set_cons_succ]
              refine held_take 4 48 (v := ?_) rfl rfl (by kernel_rfl) (by kernel_rfl) (by kernel_rfl) (fun _ _ _ _ h => h) (by rfl) ?_ hHeld ?_
              rotate_left; · (intro w hSw; obtain ⟨hS0, hS1⟩ := hSw; go_simp; first | done | with_reducible rfl)
              simp only [List.setIfInBounds_toArray, List.set_cons_zero, List.set_cons_succ]
              refine held_take 5 49 (v := ?_) rfl rfl (by kernel_rfl) (by kernel_rfl) (by kernel_rfl) (fun _ _ _ _ h => h) (by rfl) ?_ hHeld ?_
              rotate_left; · (intro w hSw; clear hSw; go_simp; first | done | with_reducible rfl)
              simp only [List.setIfInBounds_toArray, List.set_cons_zero, List.set_cons_succ]
              refine held_call 6 50 rfl rfl (by kernel_rfl) (by rfl) (f := 11) (args := ?_) ?_ ?_
              rotate_left; · (go_simp; first | done | with_reducible rfl)
              refine (filled_any 120 120 rfl _).mono ?_; rintro e w8 ⟨rfl, m8⟩
              have d8 := d.drew.kept m8 (fun e => e) (fun e => e)
              refine ⟨_, rfl, ⟨m8.at hHeld.1, hHeld.2.tr m8⟩, fun hNew => ?_⟩; clear hHeld; have hHeld := hNew; clear hNew
              simp only [List.setIfInBounds_toArray, List.set_cons_zero, List.set_cons_succ]
              refine held_call 7 51 rfl rfl (by kernel_rfl) (by rfl) (f := 13) (args := ?_) ?_ ?_
              rotate_left; · (go_simp; first | done | with_reducible rfl)
              refine (write_off d8 (y : Int) _ (by omega) (by omega) (fill_size _) (.inr rfl)).mono ?_; rintro e w9 ⟨rfl, d9, m9⟩
              refine ⟨_, rfl, ⟨(m9.cell (World.block_lt_of_cell? _ _ hHeld.1) (by simp; omega)).trans hHeld.1, hHeld.2.new m9 (fun i e => by omega)⟩, fun hNew => ?_⟩; clear hHeld; have hHeld := hNew; clear hNew
              simp only [List.setIfInBounds_toArray, List.set_cons_zero, List.set_cons_succ]
              refine held_take 8 10 (v := ?_) rfl rfl (by kernel_rfl) (by kernel_rfl) (by kernel_rfl) (fun _ _ _ _ h => h) (by rfl) ?_ hHeld ?_
              rotate_left; · (intro w hSw; clear hSw; go_simp; first | done | with_reducible rfl)
              simp only [List.setIfInBounds_toArray, List.set_cons_zero, List.set_cons_succ]
              refine wpAnyH_done (by kernel_rfl) ?_ _
              obtain ⟨_, hm9⟩ := hHeld
              clear d hm m8 hlv hk7 d8
              go_wp2_with fail
              refine (on_dev d9 (by omega)).mono ?_
              rintro e w10 ⟨rfl, d10, m10⟩
              have hm10 := hm9.new m10 (fun i (e : i = _) => by omega)
              clear d9 m9
              go_wp2_with fail
              refine (writes_dev d10).mono ?_
              rintro e w11 ⟨rfl, rfl⟩
              go_wp2_with fail
              go_roundw
              case rel => exact ⟨k + 1, _, _, _, by omega, by omega, by go_num, rfl, rfl, by omega, by omega, by omega, by omega, d10, hm10⟩
              case measure => simp [intOf]; omega
            · have hLb : ((lv : Int) == 0) = false := by rw [beq_eq_false_iff_ne]; omega
              go_wp2_with fail
              refine wp_region_held_drew (S := (fun w' => w'.cell? ⟨b, o + k, none⟩ = some (.int .i64 x0) ∧ Mod (fun _ => False) w w')) (by kernel_rfl) ⟨hm.at z0, hm.drew⟩ (fun hHeld => ?_)
              refine held_take 0 44 (v := ?_) rfl rfl (by kernel_rfl) (by kernel_rfl) (by kernel_rfl) (fun _ _ _ _ h => h) (by rfl) ?_ hHeld ?_
              rotate_left; · (intro w hSw; clear hSw; go_simp; first | done | with_reducible rfl)
              simp only [List.setIfInBounds_toArray, List.set_cons_zero, List.set_cons_succ]
              refine held_take 1 45 (v := ?_) rfl rfl (by kernel_rfl) (by kernel_rfl) (by kernel_rfl) (fun _ _ _ _ h => h) (by rfl) ?_ hHeld ?_
              rotate_left; · (intro w hSw; clear hSw; go_simp; first | done | with_reducible rfl)
              simp only [List.setIfInBounds_toArray, List.set_cons_zero, List.set_cons_succ]
              refine held_take 2 46 (v := ?_) rfl rfl (by kernel_rfl) (by kernel_rfl) (by kernel_rfl) (fun _ _ _ _ h => h) (by rfl) ?_ hHeld ?_
              rotate_left; · (intro w hSw; clear hSw; go_simp; first | done | with_reducible rfl)
              simp only [List.setIfInBounds_toArray, List.set_cons_zero, List.set_cons_succ]
              refine held_take 3 47 (v := ?_) rfl rfl (by kernel_rfl) (by kernel_rfl) (by kernel_rfl) (fun _ _ _ _ h => h) (by rfl) ?_ hHeld ?_
              rotate_left; · (intro w hSw; clear hSw; go_simp; first | done | with_reducible rfl)
              simp only [List.setIfInBounds_toArray, List.set_cons_zero, List.set_cons_succ]
              refine held_take 4 48 (v := ?_) rfl rfl (by kernel_rfl) (by kernel_rfl) (by kernel_rfl) (fun _ _ _ _ h => h) (by rfl) ?_ hHeld ?_
              rotate_left; · (intro w hSw; obtain ⟨hS0, hS1⟩ := hSw; go_simp; first | done | with_reducible rfl)
              simp only [List.setIfInBounds_toArray, List.set_cons_zero, List.set_cons_succ]
              refine held_take 5 49 (v := ?_) rfl rfl (by kernel_rfl) (by kernel_rfl) (by kernel_rfl) (fun _ _ _ _ h => h) (by rfl) ?_ hHeld ?_
              rotate_left; · (intro w hSw; clear hSw; go_simp; first | done | with_reducible rfl)
              simp only [List.setIfInBounds_toArray, List.set_cons_zero, List.set_cons_succ]
              refine held_call 6 50 rfl rfl (by kernel_rfl) (by rfl) (f := 11) (args := ?_) ?_ ?_
              rotate_left; · (go_simp; first | done | with_reducible rfl)
              refine (filled_any 120 120 rfl _).mono ?_; rintro e w8 ⟨rfl, m8⟩
              have d8 := d.drew.kept m8 (fun e => e) (fun e => e)
              refine ⟨_, rfl, ⟨m8.at hHeld.1, hHeld.2.tr m8⟩, fun hNew => ?_⟩; clear hHeld; have hHeld := hNew; clear hNew
              simp only [List.setIfInBounds_toArray, List.set_cons_zero, List.set_cons_succ]
              refine held_call 7 51 rfl rfl (by kernel_rfl) (by rfl) (f := 13) (args := ?_) ?_ ?_
              rotate_left; · (go_simp; first | done | with_reducible rfl)
              refine (write_ok d8 y _ (by omega) (fill_size _) (by omega) (by omega) (by omega) (by omega) (by omega) (by omega)).mono ?_; rintro e w9 ⟨rfl, d9, m9⟩
              refine ⟨_, rfl, ⟨(m9.cell (World.block_lt_of_cell? _ _ hHeld.1) (by simp; omega)).trans hHeld.1, hHeld.2.new m9 (fun i e => by omega)⟩, fun hNew => ?_⟩; clear hHeld; have hHeld := hNew; clear hNew
              simp only [List.setIfInBounds_toArray, List.set_cons_zero, List.set_cons_succ]
              refine held_take 8 10 (v := ?_) rfl rfl (by kernel_rfl) (by kernel_rfl) (by kernel_rfl) (fun _ _ _ _ h => h) (by rfl) ?_ hHeld ?_
              rotate_left; · (intro w hSw; clear hSw; go_simp; first | done | with_reducible rfl)
              simp only [List.setIfInBounds_toArray, List.set_cons_zero, List.set_cons_succ]
              refine wpAnyH_done (by kernel_rfl) ?_ _
              obtain ⟨_, hm9⟩ := hHeld
              clear d hm m8 hlv hk7 d8
              have hpos : 0 < (lv : Int) := by omega
              rw [if_pos hpos] at d9
              go_wp2_with fail
              refine (writes_dev d9).mono ?_
              rintro e w11 ⟨rfl, rfl⟩
              go_wp2_with fail
              go_roundw
              case rel => exact ⟨k + 1, _, _, _, by omega, by omega, by go_num, rfl, rfl, by omega, by omega, by omega, by omega, d9, hm9⟩
              case measure => simp [intOf]; omega
        · have hm5' : ((k : Int) % 10 == 5) = false := by simpa using hm5
          clear hm5
          have hbn := World.block_lt_of_cell? w _ z0
          by_cases hy7 : 7 < y
          · skip
            go_wp2_with fail
            refine wp_region_held_drew (S := (fun w' => w'.cell? ⟨b, o + k, none⟩ = some (.int .i64 x0) ∧ Mod (fun _ => False) w w')) (by kernel_rfl) ⟨hm.at z0, hm.drew⟩ (fun hHeld => ?_)
            refine held_take 0 44 (v := ?_) rfl rfl (by kernel_rfl) (by kernel_rfl) (by kernel_rfl) (fun _ _ _ _ h => h) (by rfl) ?_ hHeld ?_
            rotate_left; · (intro w hSw; clear hSw; go_simp; first | done | with_reducible rfl)
            simp only [List.setIfInBounds_toArray, List.set_cons_zero, List.set_cons_succ]
            refine held_take 1 45 (v := ?_) rfl rfl (by kernel_rfl) (by kernel_rfl) (by kernel_rfl) (fun _ _ _ _ h => h) (by rfl) ?_ hHeld ?_
            rotate_left; · (intro w hSw; clear hSw; go_simp; first | done | with_reducible rfl)
            simp only [List.setIfInBounds_toArray, List.set_cons_zero, List.set_cons_succ]
            refine held_take 2 46 (v := ?_) rfl rfl (by kernel_rfl) (by kernel_rfl) (by kernel_rfl) (fun _ _ _ _ h => h) (by rfl) ?_ hHeld ?_
            rotate_left; · (intro w hSw; clear hSw; go_simp; first | done | with_reducible rfl)
            simp only [List.setIfInBounds_toArray, List.set_cons_zero, List.set_cons_succ]
            refine held_take 3 47 (v := ?_) rfl rfl (by kernel_rfl) (by kernel_rfl) (by kernel_rfl) (fun _ _ _ _ h => h) (by rfl) ?_ hHeld ?_
            rotate_left; · (intro w hSw; clear hSw; go_simp; first | done | with_reducible rfl)
            simp only [List.setIfInBounds_toArray, List.set_cons_zero, List.set_cons_succ]
            refine held_take 4 48 (v := ?_) rfl rfl (by kernel_rfl) (by kernel_rfl) (by kernel_rfl) (fun _ _ _ _ h => h) (by rfl) ?_ hHeld ?_
            rotate_left; · (intro w hSw; obtain ⟨hS0, hS1⟩ := hSw; go_simp; first | done | with_reducible rfl)
            simp only [List.setIfInBounds_toArray, List.set_cons_zero, List.set_cons_succ]
            refine held_take 5 49 (v := ?_) rfl rfl (by kernel_rfl) (by kernel_rfl) (by kernel_rfl) (fun _ _ _ _ h => h) (by rfl) ?_ hHeld ?_
            rotate_left; · (intro w hSw; clear hSw; go_simp; first | done | with_reducible rfl)
            simp only [List.setIfInBounds_toArray, List.set_cons_zero, List.set_cons_succ]
            refine held_call 6 50 rfl rfl (by kernel_rfl) (by rfl) (f := 11) (args := ?_) ?_ ?_
            rotate_left; · (go_simp; first | done | with_reducible rfl)
            refine (filled_any 120 120 rfl _).mono ?_; rintro e w8 ⟨rfl, m8⟩
            have d8 := d.drew.kept m8 (fun e => e) (fun e => e)
            refine ⟨_, rfl, ⟨m8.at hHeld.1, hHeld.2.tr m8⟩, fun hNew => ?_⟩; clear hHeld; have hHeld := hNew; clear hNew
            simp only [List.setIfInBounds_toArray, List.set_cons_zero, List.set_cons_succ]
            refine held_call 7 51 rfl rfl (by kernel_rfl) (by rfl) (f := 13) (args := ?_) ?_ ?_
            rotate_left; · (go_simp; first | done | with_reducible rfl)
            refine (write_arg1 d8 (y : Int) _ (by omega)).mono ?_; rintro e w9 ⟨rfl, rfl⟩
            refine ⟨_, rfl, hHeld, fun hNew => ?_⟩; clear hHeld; have hHeld := hNew; clear hNew
            simp only [List.setIfInBounds_toArray, List.set_cons_zero, List.set_cons_succ]
            refine held_take 8 10 (v := ?_) rfl rfl (by kernel_rfl) (by kernel_rfl) (by kernel_rfl) (fun _ _ _ _ h => h) (by rfl) ?_ hHeld ?_
            rotate_left; · (intro w hSw; clear hSw; go_simp; first | done | with_reducible rfl)
            simp only [List.setIfInBounds_toArray, List.set_cons_zero, List.set_cons_succ]
            refine wpAnyH_done (by kernel_rfl) ?_ _
            obtain ⟨_, hm9⟩ := hHeld
            clear d hm m8 hlv hk7
            go_wp2_with fail
            refine (writes_dev d8).mono ?_
            rintro e w10 ⟨rfl, rfl⟩
            go_wp2_with fail
            go_roundw
            case rel => exact ⟨k + 1, _, _, _, by omega, by omega, by go_num, rfl, rfl, by omega, by omega, by omega, by omega, d8, hm9⟩
            case measure => simp [intOf]; omega
          · by_cases hL : left0 = 0
            · subst hL
              go_wp2_with fail
              refine wp_region_held_drew (S := (fun w' => w'.cell? ⟨b, o + k, none⟩ = some (.int .i64 x0) ∧ Mod (fun _ => False) w w')) (by kernel_rfl) ⟨hm.at z0, hm.drew⟩ (fun hHeld => ?_)
              refine held_take 0 44 (v := ?_) rfl rfl (by kernel_rfl) (by kernel_rfl) (by kernel_rfl) (fun _ _ _ _ h => h) (by rfl) ?_ hHeld ?_
              rotate_left; · (intro w hSw; clear hSw; go_simp; first | done | with_reducible rfl)
              simp only [List.setIfInBounds_toArray, List.set_cons_zero, List.set_cons_succ]
              refine held_take 1 45 (v := ?_) rfl rfl (by kernel_rfl) (by kernel_rfl) (by kernel_rfl) (fun _ _ _ _ h => h) (by rfl) ?_ hHeld ?_
              rotate_left; · (intro w hSw; clear hSw; go_simp; first | done | with_reducible rfl)
              simp only [List.setIfInBounds_toArray, List.set_cons_zero, List.set_cons_succ]
              refine held_take 2 46 (v := ?_) rfl rfl (by kernel_rfl) (by kernel_rfl) (by kernel_rfl) (fun _ _ _ _ h => h) (by rfl) ?_ hHeld ?_
              rotate_left; · (intro w hSw; clear hSw; go_simp; first | done | with_reducible rfl)
              simp only [List.setIfInBounds_toArray, List.set_cons_zero, List.set_cons_succ]
              refine held_take 3 47 (v := ?_) rfl rfl (by kernel_rfl) (by kernel_rfl) (by kernel_rfl) (fun _ _ _ _ h => h) (by rfl) ?_ hHeld ?_
              rotate_left; · (intro w hSw; clear hSw; go_simp; first | done | with_reducible rfl)
              simp only [List.setIfInBounds_toArray, List.set_cons_zero, List.set_cons_succ]
              refine held_take 4 48 (v := ?_) rfl rfl (by kernel_rfl) (by kernel_rfl) (by kernel_rfl) (fun _ _ _ _ h => h) (by rfl) ?_ hHeld ?_
              rotate_left; · (intro w hSw; obtain ⟨hS0, hS1⟩ := hSw; go_simp; first | done | with_reducible rfl)
              simp only [List.setIfInBounds_toArray, List.set_cons_zero, List.set_cons_succ]
              refine held_take 5 49 (v := ?_) rfl rfl (by kernel_rfl) (by kernel_rfl) (by kernel_rfl) (fun _ _ _ _ h => h) (by rfl) ?_ hHeld ?_
              rotate_left; · (intro w hSw; clear hSw; go_simp; first | done | with_reducible rfl)
              simp only [List.setIfInBounds_toArray, List.set_cons_zero, List.set_cons_succ]
              refine held_call 6 50 rfl rfl (by kernel_rfl) (by rfl) (f := 11) (args := ?_) ?_ ?_
              rotate_left; · (go_simp; first | done | with_reducible rfl)
              refine (filled_any 120 120 rfl _).mono ?_; rintro e w8 ⟨rfl, m8⟩
              have d8 := d.drew.kept m8 (fun e => e) (fun e => e)
              refine ⟨_, rfl, ⟨m8.at hHeld.1, hHeld.2.tr m8⟩, fun hNew => ?_⟩; clear hHeld; have hHeld := hNew; clear hNew
              simp only [List.setIfInBounds_toArray, List.set_cons_zero, List.set_cons_succ]
              refine held_call 7 51 rfl rfl (by kernel_rfl) (by rfl) (f := 13) (args := ?_) ?_ ?_
              rotate_left; · (go_simp; first | done | with_reducible rfl)
              refine (write_off d8 (y : Int) _ (by omega) (by omega) (fill_size _) (.inr rfl)).mono ?_; rintro e w9 ⟨rfl, d9, m9⟩
              refine ⟨_, rfl, ⟨(m9.cell (World.block_lt_of_cell? _ _ hHeld.1) (by simp; omega)).trans hHeld.1, hHeld.2.new m9 (fun i e => by omega)⟩, fun hNew => ?_⟩; clear hHeld; have hHeld := hNew; clear hNew
              simp only [List.setIfInBounds_toArray, List.set_cons_zero, List.set_cons_succ]
              refine held_take 8 10 (v := ?_) rfl rfl (by kernel_rfl) (by kernel_rfl) (by kernel_rfl) (fun _ _ _ _ h => h) (by rfl) ?_ hHeld ?_
              rotate_left; · (intro w hSw; clear hSw; go_simp; first | done | with_reducible rfl)
              simp only [List.setIfInBounds_toArray, List.set_cons_zero, List.set_cons_succ]
              refine wpAnyH_done (by kernel_rfl) ?_ _
              obtain ⟨_, hm9⟩ := hHeld
              clear d hm m8 hlv hk7 d8
              go_wp2_with fail
              refine (on_dev d9 (by omega)).mono ?_
              rintro e w10 ⟨rfl, d10, m10⟩
              have hm10 := hm9.new m10 (fun i (e : i = _) => by omega)
              clear d9 m9
              go_wp2_with fail
              refine (writes_dev d10).mono ?_
              rintro e w11 ⟨rfl, rfl⟩
              go_wp2_with fail
              go_roundw
              case rel => exact ⟨k + 1, _, _, _, by omega, by omega, by go_num, rfl, rfl, by omega, by omega, by omega, by omega, d10, hm10⟩
              case measure => simp [intOf]; omega
            · have hLb : ((left0 : Int) == 0) = false := by rw [beq_eq_false_iff_ne]; omega
              go_wp2_with fail
              refine wp_region_held_drew (S := (fun w' => w'.cell? ⟨b, o + k, none⟩ = some (.int .i64 x0) ∧ Mod (fun _ => False) w w')) (by kernel_rfl) ⟨hm.at z0, hm.drew⟩ (fun hHeld => ?_)
              refine held_take 0 44 (v := ?_) rfl rfl (by kernel_rfl) (by kernel_rfl) (by kernel_rfl) (fun _ _ _ _ h => h) (by rfl) ?_ hHeld ?_
              rotate_left; · (intro w hSw; clear hSw; go_simp; first | done | with_reducible rfl)
              simp only [List.setIfInBounds_toArray, List.set_cons_zero, List.set_cons_succ]
              refine held_take 1 45 (v := ?_) rfl rfl (by kernel_rfl) (by kernel_rfl) (by kernel_rfl) (fun _ _ _ _ h => h) (by rfl) ?_ hHeld ?_
              rotate_left; · (intro w hSw; clear hSw; go_simp; first | done | with_reducible rfl)
              simp only [List.setIfInBounds_toArray, List.set_cons_zero, List.set_cons_succ]
              refine held_take 2 46 (v := ?_) rfl rfl (by kernel_rfl) (by kernel_rfl) (by kernel_rfl) (fun _ _ _ _ h => h) (by rfl) ?_ hHeld ?_
              rotate_left; · (intro w hSw; clear hSw; go_simp; first | done | with_reducible rfl)
              simp only [List.setIfInBounds_toArray, List.set_cons_zero, List.set_cons_succ]
              refine held_take 3 47 (v := ?_) rfl rfl (by kernel_rfl) (by kernel_rfl) (by kernel_rfl) (fun _ _ _ _ h => h) (by rfl) ?_ hHeld ?_
              rotate_left; · (intro w hSw; clear hSw; go_simp; first | done | with_reducible rfl)
              simp only [List.setIfInBounds_toArray, List.set_cons_zero, List.set_cons_succ]
              refine held_take 4 48 (v := ?_) rfl rfl (by kernel_rfl) (by kernel_rfl) (by kernel_rfl) (fun _ _ _ _ h => h) (by rfl) ?_ hHeld ?_
              rotate_left; · (intro w hSw; obtain ⟨hS0, hS1⟩ := hSw; go_simp; first | done | with_reducible rfl)
              simp only [List.setIfInBounds_toArray, List.set_cons_zero, List.set_cons_succ]
              refine held_take 5 49 (v := ?_) rfl rfl (by kernel_rfl) (by kernel_rfl) (by kernel_rfl) (fun _ _ _ _ h => h) (by rfl) ?_ hHeld ?_
              rotate_left; · (intro w hSw; clear hSw; go_simp; first | done | with_reducible rfl)
              simp only [List.setIfInBounds_toArray, List.set_cons_zero, List.set_cons_succ]
              refine held_call 6 50 rfl rfl (by kernel_rfl) (by rfl) (f := 11) (args := ?_) ?_ ?_
              rotate_left; · (go_simp; first | done | with_reducible rfl)
              refine (filled_any 120 120 rfl _).mono ?_; rintro e w8 ⟨rfl, m8⟩
              have d8 := d.drew.kept m8 (fun e => e) (fun e => e)
              refine ⟨_, rfl, ⟨m8.at hHeld.1, hHeld.2.tr m8⟩, fun hNew => ?_⟩; clear hHeld; have hHeld := hNew; clear hNew
              simp only [List.setIfInBounds_toArray, List.set_cons_zero, List.set_cons_succ]
              refine held_call 7 51 rfl rfl (by kernel_rfl) (by rfl) (f := 13) (args := ?_) ?_ ?_
              rotate_left; · (go_simp; first | done | with_reducible rfl)
              refine (write_ok d8 y _ (by omega) (fill_size _) (by omega) (by omega) (by omega) (by omega) (by omega) (by omega)).mono ?_; rintro e w9 ⟨rfl, d9, m9⟩
              refine ⟨_, rfl, ⟨(m9.cell (World.block_lt_of_cell? _ _ hHeld.1) (by simp; omega)).trans hHeld.1, hHeld.2.new m9 (fun i e => by omega)⟩, fun hNew => ?_⟩; clear hHeld; have hHeld := hNew; clear hNew
              simp only [List.setIfInBounds_toArray, List.set_cons_zero, List.set_cons_succ]
              refine held_take 8 10 (v := ?_) rfl rfl (by kernel_rfl) (by kernel_rfl) (by kernel_rfl) (fun _ _ _ _ h => h) (by rfl) ?_ hHeld ?_
              rotate_left; · (intro w hSw; clear hSw; go_simp; first | done | with_reducible rfl)
              simp only [List.setIfInBounds_toArray, List.set_cons_zero, List.set_cons_succ]
              refine wpAnyH_done (by kernel_rfl) ?_ _
              obtain ⟨_, hm9⟩ := hHeld
              clear d hm m8 hlv hk7 d8
              by_cases hpos : 0 < (left0 : Int)
              · rw [if_pos hpos] at d9
                go_wp2_with fail
                refine (writes_dev d9).mono ?_
                rintro e w11 ⟨rfl, rfl⟩
                go_wp2_with fail
                go_roundw
                case rel => exact ⟨k + 1, _, _, _, by omega, by omega, by go_num, rfl, rfl, by omega, by omega, by omega, by omega, d9, hm9⟩
                case measure => simp [intOf]; omega
              · rw [if_neg hpos] at d9
                go_wp2_with fail
                refine (writes_dev d9).mono ?_
                rintro e w11 ⟨rfl, rfl⟩
                go_wp2_with fail
                go_roundw
                case rel => exact ⟨k + 1, _, _, _, by omega, by omega, by go_num, rfl, rfl, by omega, by omega, by omega, by omega, d9, hm9⟩
                case measure => simp [intOf]; omega
      · skip
        clear d hz
        go_wp2_with fail
        refine (awake_any _).mono ?_
        rintro e w6 ⟨rfl, m6⟩
        go_wp2_with fail
        go_ret
        exact ⟨rfl, hm.tr m6⟩
    · skip
      clear d hz
      go_wp2_with fail
      refine (awake_any _).mono ?_
      rintro e w6 ⟨rfl, m6⟩
      go_wp2_with fail
      go_ret
      exact ⟨rfl, hm.tr m6⟩
end Go.Proofs.Ythamdkjcbbapkaa
