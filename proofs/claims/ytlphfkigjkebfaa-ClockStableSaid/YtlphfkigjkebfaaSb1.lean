/- ClockStable: clock.Stable. -/
import Derived.Test.YtlphfkigjkebfaaSb0
namespace Go.Proofs.Ytlphfkigjkebfaa
open Go.RowKit
set_option linter.unusedSimpArgs false
set_option linter.unusedVariables false

theorem info3 : (Try.prog.info? 3).map (fun i => (i.zero, i.size, i.bytes)) = some (some (.int .i64 0), 1, 8) := by kernel_rfl
def lasts (z : Nat → Int × Int) (n : Nat) (us : Nat → Int) (k : Nat) : List Value := (List.range k).map fun j => .int .i64 (lastF z (us j) n)
theorem lasts_succ (z : Nat → Int × Int) (n : Nat) (us : Nat → Int) (k : Nat) : lasts z n us (k + 1) = lasts z n us k ++ [.int .i64 (lastF z (us k) n)] := by
  unfold lasts; rw [List.range_succ]; simp
theorem own_ints {w : World} {base n cap : Nat} {a : Option Addr} {x : Nat → Int} (h : w.ownsRow base 3 1 (.slice a n cap) n ((List.range n).map fun j => .int .i64 (x j))) : Ints w a n x := by
  intro k hk
  rcases h.2 with ⟨h2, hn⟩ | ⟨g, cap', cur, hv, hg, hh, hc1, hc2, hsz, htk⟩
  · omega
  · simp at hv
    obtain ⟨rfl, rfl⟩ := hv
    refine ⟨g, 0, rfl, ?_⟩
    rw [Nat.zero_add]
    refine blk_cell hh ?_
    have h3 : (cur.toList.take (n * 1))[k]? = some (.int .i64 (x k)) := by rw [htk]; simp [hk]
    rw [List.getElem?_take, if_pos (by omega)] at h3
    simpa using h3

theorem own_ge {w : World} {base size n : Nat} {e : TypeId} {v : Value} {xs : List Value} (h : w.ownsRow base e size v n xs) (k : Nat) (hk : some k = v.ownBlock) : base ≤ k := by
  rcases h.2 with ⟨h2, _⟩ | ⟨g, cap, cur, hv, hg, _⟩
  · subst h2; simp [Value.ownBlock] at hk
  · subst hv; simp [Value.ownBlock] at hk; omega
theorem own_grown {W w2 w3 : World} {size n : Nat} {e : TypeId} {v : Value} {xs : List Value} (hm : Mod (fun _ => False) W w2) (own : w2.ownsRow W.heap.size e size v n xs) (g : w2.grownBy w3 v.ownBlock) : Mod (fun _ => False) W w3 :=
  hm.new (S := fun k => some k = v.ownBlock) ⟨g.os, g.tape, g.output, g.size, fun k hk hs => g.block k hk hs⟩ (fun i e => own_ge own i e)
set_option maxHeartbeats 4000000 in
theorem stable_any (a b : Option Addr) (n m cap cap' : Nat) (z : Nat → Int × Int) (us : Nat → Int) (w : World) (hn : n ≤ 1000) (hm : m ≤ 1000) (hz : Stamps w a n z) (hu : Ints w b m us) :
    Calls Try.prog 20 #[.slice a n cap, .slice b m cap'] w fun e w' => e = .returned (.int .i64 (leastF z n us m)) ∧ Mod (fun _ => False) w w' := by
  obtain ⟨i0, hi, hz0, hz1, hz2⟩ := info_parts info3
  go_enter Try.func20, Try.ntmps20
  go_wp2_with fail
  have c0 := cell_new w #[.slice a n cap] 29 0 _ rfl
  have mW : Mod (fun _ => False) w (w.alloc (.cells #[.slice a n cap] 29)) := (Mod.refl _ _).alloc _
  obtain ⟨W, hW⟩ : ∃ W, W = w.alloc (.cells #[.slice a n cap] 29) := ⟨_, rfl⟩
  have hWs : W.heap.size = w.heap.size + 1 := by rw [hW]; simp
  rw [← hW] at c0 mW
  rw [← hW]
  clear hW
  have HWs := Lib.hid hWs
  clear hWs
  go_loopw [6, 12] (fun v i wr => ∃ k : Nat, k ≤ m ∧ i = .int .i64 k ∧ wr.ownsRow W.heap.size 3 1 v k (lasts z n us k) ∧ Mod (fun _ => False) W wr) (fun _ i _ => m - (intOf i).toNat)
  case atStart => exact ⟨0, by omega, rfl, World.ownsRow_nil _ _ _ _, Mod.refl _ _⟩
  case round =>
    obtain ⟨k, hk, rfl, own, hmr⟩ := hrel
    by_cases hlt : k < m
    · obtain ⟨bb, off, rfl, u0⟩ := hu k hlt
      replace u0 := (mW.tr hmr).at u0
      have cc := hmr.at c0
      have zz := hz.kept (mW.tr hmr)
      have hi0 : (0 : Int) ≤ (k : Int) := by omega
      have hi1 : (k : Int) < (m : Int) := by omega
      have hW2 := hmr.size
      have HL := Lib.hid (lasts_succ z n us k)
      have HZ := Lib.hid zz
      clear hz hu zz c0
      go_wp2_with fail
      refine (seen_any _ _ _ _ _ z _ cc hn HZ.out).mono ?_
      rintro e w2 ⟨rfl, m2⟩
      have own2 := own_mod m2 own (fun _ _ e => e)
      have hm2 := hmr.tr m2
      have hW3 := hm2.size
      clear own hmr m2
      go_wp2_with (at_builtin; refine wpList_append_own _ rfl (.tmp 16) (.tmp 20) 50 rfl W.heap.size 3 i0 (.int .i64 0) 1 8 Try.underlying50 hi hz0 hz1 hz2 rfl (by decide) _ _ _ rfl (own2.alloc _) ⟨w2.heap.size, 0, none⟩ 1 1 [.int .i64 (lastF z (us k) n)] rfl rfl ?c1 ?c2 ?c3 ?c4 ?c5 ?_)
      case c1 =>
        intro j u hj
        match j, hj with
        | 0, hj => simp at hj; subst hj; simp [Addr.add]
      case c2 => intro u hu; simp at hu; subst hu; rfl
      case c3 => unfold maxLen; omega
      case c4 => omega
      case c5 => simp; omega
      intro v' w3 hown hgrow _
      have hm3 := own_grown (hm2.alloc _) (own2.alloc (.cells #[.int .i64 (lastF z (us k) n)] 3)) hgrow
      rw [← HL.out] at hown
      clear own2 hgrow hm2 u0 cc
      go_wp2_with fail
      go_roundw
      case rel => exact ⟨k + 1, by omega, by go_num, hown, hm3⟩
      case measure => simp [intOf]; omega
    · obtain rfl : k = m := by omega
      obtain ⟨a', cap'', rfl⟩ := own_form own
      by_cases h0 : k = 0
      · subst h0
        clear own
        go_wp2_with fail
        go_ret
        exact ⟨rfl, mW.tr hmr⟩
      · have hk0 : ((k : Int) == 0) = false := by rw [beq_eq_false_iff_ne]; omega
        have HI := Lib.hid (own_ints (x := fun j => lastF z (us j) n) own)
        have hmm := mW.tr hmr
        clear own hmr mW c0 hu hz
        go_wp2_with fail
        refine (min_any _ _ _ _ _ (by omega) hm HI.out).mono ?_
        rintro e w2 ⟨rfl, rfl⟩
        go_wp2_with fail
        go_ret
        exact ⟨rfl, hmm⟩
end Go.Proofs.Ytlphfkigjkebfaa
