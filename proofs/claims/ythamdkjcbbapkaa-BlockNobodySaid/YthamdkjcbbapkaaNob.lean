/- BlockNobody: a device that nobody made answers nothing, and does not fail. -/
import Derived.Test.YthamdkjcbbapkaaB4
namespace Go.Proofs.Ythamdkjcbbapkaa
open Go.RowKit
set_option linter.unusedSimpArgs false
set_option linter.unusedVariables false

theorem start_nob (w W : World) (hW : (w.alloc (.cells #[.slice none 0 0, .int .i64 0, .bool false, .int .i64 0] 53)).alloc (.cells #[.pointer none, .pointer (some ⟨w.heap.size, 0, none⟩)] 23) = W) :
    W.heap[w.heap.size + 1]? = some (.cells #[.pointer none, .pointer (some ⟨w.heap.size, 0, none⟩)] 23 (0, 0)) ∧ W.heap[w.heap.size]? = some (.cells #[.slice none 0 0, .int .i64 0, .bool false, .int .i64 0] 53 (0, 0)) := by
  subst hW
  exact ⟨new_block _ _ _ _ (by simp), ((Mod.refl (fun _ => False) _).alloc _).blk (new_block w _ _ _ rfl) (fun e => e)⟩
set_option maxHeartbeats 1000000 in
theorem nobody_any (n : Int) (s : ByteArray) (w : World) : Calls Try.prog 6 #[.int .i64 n, .string s] w fun e w' => e = .returned (.bool true) ∧ Mod (fun _ => False) w w' := by
  go_enter Try.func6, Try.ntmps6
  go_wp2_with fail
  generalize hW : (w.alloc (.cells #[.slice none 0 0, .int .i64 0, .bool false, .int .i64 0] 53)).alloc (.cells #[.pointer none, .pointer (some ⟨w.heap.size, 0, none⟩)] 23) = W
  have mW : Mod (fun _ => False) w W := by rw [← hW]; exact ((Mod.refl _ _).alloc _).alloc _
  have kW := start_nob w W hW
  clear hW
  go_loopw [6] (fun i wr => ∃ k : Nat, k ≤ 2 ∧ i = .int .i64 k ∧ W = wr) (fun i _ => 2 - (intOf i).toNat)
  case atStart => exact ⟨0, by omega, rfl, rfl⟩
  case round =>
    obtain ⟨k, hk, rfl, rfl⟩ := hrel
    by_cases hlt : k < 2
    · obtain ⟨p, gk, ng⟩ : ∃ p, W.cell? ⟨w.heap.size + 1, k, none⟩ = some p ∧ NG W p := by
        have h2 : k = 0 ∨ k = 1 := by omega
        rcases h2 with rfl | rfl
        · exact ⟨_, blk_cell kW.1 rfl, .inl rfl⟩
        · exact ⟨_, blk_cell kW.1 rfl, .inr ⟨_, rfl, kW.2⟩⟩
      have NGH := Lib.hid ng
      clear kW ng
      go_wp2_with (first | (go_at_call 14; refine (read_ng NGH.out _).mono ?_; rintro e w' ⟨rfl, rfl⟩) | (go_at_call 22; refine (size_ng NGH.out).mono ?_; rintro e w' ⟨rfl, rfl⟩) | (go_at_call 13; refine (write_ng NGH.out _ _).mono ?_; rintro e w' ⟨rfl, rfl⟩) | (go_at_call 17; refine (fuse_ng NGH.out _).mono ?_; rintro e w' ⟨rfl, rfl⟩) | (go_at_call 20; refine (off_ng NGH.out).mono ?_; rintro e w' ⟨rfl, rfl⟩) | (go_at_call 19; refine (on_ng NGH.out).mono ?_; rintro e w' ⟨rfl, rfl⟩) | (go_at_call 21; refine (writes_ng NGH.out).mono ?_; rintro e w' ⟨rfl, rfl⟩))
      go_roundw
      case rel => exact ⟨k + 1, by omega, by go_num, trivial⟩
      case measure => simp [intOf]; omega
    · clear kW
      go_wp2_with (go_at_call 10; refine (awake_any _).mono ?_; rintro e w' ⟨rfl, m⟩)
      go_ret
      exact ⟨rfl, mW.tr m⟩
end Go.Proofs.Ythamdkjcbbapkaa
