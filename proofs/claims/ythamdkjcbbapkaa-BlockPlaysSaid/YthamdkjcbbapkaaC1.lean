/- The reference's device: New, Read, Fuse, On. -/
import Derived.Test.YthamdkjcbbapkaaB4
import Derived.Laws.MakeOwn
import Derived.Laws.Rows
import Derived.Lib.BufferRead
namespace Go.Proofs.Ythamdkjcbbapkaa
open Go.RowKit
set_option linter.unusedSimpArgs false
set_option linter.unusedVariables false

/-- Block b holds n texts, from its head on. -/
def SL (w : World) (b n : Nat) (f : Nat → ByteArray) : Prop := ∀ k, k < n → w.cell? ⟨b, k, none⟩ = some (.string (f k))
theorem SL.kept {w w' : World} {b n : Nat} {f : Nat → ByteArray} (h : SL w b n f) (m : Mod (fun _ => False) w w') : SL w' b n f := fun k hk => m.at (h k hk)
theorem SL.keptS {S : Nat → Prop} {w w' : World} {b n : Nat} {f : Nat → ByteArray} (h : SL w b n f) (m : Mod S w w') (hs : ¬ S b) : SL w' b n f := fun k hk => by
  have := h k hk
  exact (m.cell (p := ⟨b, k, none⟩) (World.block_lt_of_cell? w _ this) hs).trans this
theorem SL.eq {w : World} {b n : Nat} {f f' : Nat → ByteArray} (h : SL w b n f) (e : ∀ k, k < n → f k = f' k) : SL w b n f' := fun k hk => by rw [h k hk, e k hk]
/-- Block g is a row of n texts of the call's own. -/
def SRow (w : World) (g n : Nat) (f : Nat → ByteArray) : Prop := ∃ cs T, w.heap[g]? = some (.cells cs T (0, 0)) ∧ n ≤ cs.size ∧ ∀ j, j < n → cs[j]? = some (.string (f j))
section
variable {w : World} {g n : Nat} {f : Nat → ByteArray}
theorem SRow.cell (h : SRow w g n f) (j : Nat) (hj : j < n) : w.cell? ⟨g, j, none⟩ = some (.string (f j)) := by
  obtain ⟨cs, T, hb, _, hc⟩ := h
  exact blk_cell hb (hc j hj)
theorem SRow.sl (h : SRow w g n f) : SL w g n f := fun k hk => h.cell k hk
theorem SRow.free (h : SRow w g n f) (j : Nat) : w.frozen? ⟨g, j, none⟩ = false := by
  obtain ⟨cs, T, hb, _⟩ := h
  exact blk_free hb
def supd (f : Nat → ByteArray) (k : Nat) (x : ByteArray) : Nat → ByteArray := fun j => if j = k then x else f j
theorem SRow.set (h : SRow w g n f) (k : Nat) (x : ByteArray) (hk : k < n) : SRow (w.setCell ⟨g, k, none⟩ (.string x)) g n (supd f k x) := by
  obtain ⟨cs, T, hb, hs, hc⟩ := h
  refine ⟨cs.setIfInBounds k (.string x), T, set_block hb _, by simpa using hs, fun j hj => ?_⟩
  unfold supd
  by_cases e : j = k
  · subst e; rw [if_pos rfl]; simp [show j < cs.size by omega]
  · rw [if_neg e, Array.getElem?_setIfInBounds_ne (fun e' => e e'.symm), hc j hj]
theorem SRow.kept {S : Nat → Prop} {w' : World} (h : SRow w g n f) (m : Mod S w w') (hs : ¬ S g) : SRow w' g n f := by
  obtain ⟨cs, T, hb, r⟩ := h
  exact ⟨cs, T, m.blk hb hs, r⟩
theorem SRow.eq {f' : Nat → ByteArray} (h : SRow w g n f) (e : ∀ j, j < n → f j = f' j) : SRow w g n f' := by
  obtain ⟨cs, T, hb, hs, hc⟩ := h
  exact ⟨cs, T, hb, hs, fun j hj => by rw [hc j hj, e j hj]⟩
end
/-- The reference's device. -/
abbrev rdC (a : Option Addr) (n c : Nat) (fuse : Int) (off : Bool) (wr : Int) : Array Value := #[.slice a n c, .int .i64 fuse, .bool off, .int .i64 wr]
theorem info9 : (Try.prog.info? 9).map (fun i => (i.zero, i.size, i.bytes)) = some (some (.string ByteArray.empty), 1, 16) := by kernel_rfl
theorem made_texts (n j : Nat) (hj : j < n) : (madeCells (Value.string ByteArray.empty).cells n)[j]? = some (.string ByteArray.empty) := by
  have hc : (Value.string ByteArray.empty).cells = #[.string ByteArray.empty] := rfl
  unfold madeCells
  rw [hc]
  simp [hj, Nat.mod_one]
theorem make_texts (n : Nat) (hn : n ≤ 1000000) (w : World) : ∃ Z, (Instr.makeSlice 27 (.int .i64 (n : Int)) (.int .i64 (n : Int))).run Try.prog w = .ok (.slice (some ⟨w.heap.size, 0, none⟩) n n) (w.alloc (.cells Z 9)) ∧
    SRow (w.alloc (.cells Z 9)) w.heap.size n (fun _ => ByteArray.empty) := by
  obtain ⟨i, hi, hz, hs, hb⟩ := info_parts info9
  have h := run_make (P := Try.prog) w 27 9 i (.string ByteArray.empty) Try.underlying27 hi hz .i64 .i64 (n : Int) (n : Int) (by omega) (by omega) (by rw [hb]; omega) (by omega)
  rw [hs] at h
  simp only [Int.toNat_natCast, Nat.mul_one] at h
  refine ⟨_, h, _, 9, new_block _ _ _ _ rfl, ?_, fun j hj => made_texts n j hj⟩
  have : ∀ m, (madeCells (Value.string ByteArray.empty).cells m).size = m := fun m => by unfold madeCells; simp
  rw [this]; exact Nat.le_refl _
theorem make_64 (w : World) : ∃ Z, (Instr.makeSlice 57 (.int .i64 64) (.int .i64 64)).run Try.prog w = .ok (.slice (some ⟨w.heap.size, 0, none⟩) 64 64) (w.alloc (.cells Z 5)) ∧
    (convert 57 9 (.slice (some ⟨w.heap.size, 0, none⟩) 64 64)).run Try.prog (w.alloc (.cells Z 5)) = .ok (.string (fill 0)) (w.alloc (.cells Z 5)) := by
  obtain ⟨i, hi, hz, hs, hb⟩ := info_parts info5
  have h := run_make (P := Try.prog) w 57 5 i (.int .u8 0) Try.underlying57 hi hz .i64 .i64 64 64 (by omega) (by omega) (by rw [hb]; omega) (by omega)
  rw [hs] at h
  refine ⟨_, h, ?_⟩
  have hcs : (Value.int IntKind.u8 0).cells = #[.int .u8 0] := rfl
  refine run_convert_bytes_back (w.alloc _) 57 9 5 ⟨w.heap.size, 0, none⟩ 64 (List.replicate 64 0) Try.underlying57 Try.underlying5 Try.underlying9 ?_
  intro j hj
  have hj' : j < 64 := by simpa using hj
  have e : ((⟨w.heap.size, 0, none⟩ : Addr).add j) = ⟨w.heap.size, j, none⟩ := by unfold Addr.add; split <;> simp_all
  rw [e, cell_new w _ 5 j (.int .u8 0) (by rw [hcs]; unfold madeCells; simp [hj', Nat.mod_one])]
  rw [List.getElem_replicate]
  rfl
theorem load_rd {w : World} {g : Nat} {a : Option Addr} {n c : Nat} {fuse : Int} {off : Bool} {wr : Int} (hg : w.heap[g]? = some (.cells (rdC a n c fuse off wr) 29 (0, 0))) : (loadVar 29 ⟨g, 0, none⟩).run Try.prog w = .ok (.agg (rdC a n c fuse off wr)) w :=
  run_loadVar_row w g 29 29 _ (0, 0) _ hg Try.underlying29 rfl (by kernel_rfl)
theorem results_cell_tmp {fn : Func} {p q : Tmp} (h : fn.results = #[.cell p 29, .tmp q]) (tmps : Array Value) (w : World) (g : Nat) {a : Option Addr} {n c : Nat} {fuse : Int} {off : Bool} {wr : Int}
    (hp : tmps.getD p undef = .pointer (some ⟨g, 0, none⟩)) (v : Value) (hq : tmps.getD q undef = v) (hg : w.heap[g]? = some (.cells (rdC a n c fuse off wr) 29 (0, 0))) :
    (results fn tmps).run Try.prog w = .ok (.tuple #[.agg (rdC a n c fuse off wr), v]) w := by
  have hp' : tmps[p]?.getD undef = .pointer (some ⟨g, 0, none⟩) := by simpa using hp
  have hq' : tmps[q]?.getD undef = v := by simpa using hq
  simp [results, h, hp', hq', asAddr, load_rd hg]
theorem results_cell_one {fn : Func} {p : Tmp} (h : fn.results = #[.cell p 29]) (tmps : Array Value) (w : World) (g : Nat) {a : Option Addr} {n c : Nat} {fuse : Int} {off : Bool} {wr : Int}
    (hp : tmps.getD p undef = .pointer (some ⟨g, 0, none⟩)) (hg : w.heap[g]? = some (.cells (rdC a n c fuse off wr) 29 (0, 0))) :
    (results fn tmps).run Try.prog w = .ok (.agg (rdC a n c fuse off wr)) w := by
  have hp' : tmps[p]?.getD undef = .pointer (some ⟨g, 0, none⟩) := by simpa using hp
  simp [results, h, hp', asAddr, load_rd hg]
theorem rdC_one (a : Option Addr) (n c : Nat) (fuse : Int) (off : Bool) (wr : Int) : (rdC a n c fuse off wr).all (·.oneCell') = true := by simp [rdC, Value.oneCell']
theorem Mod.row {S : Nat → Prop} {a w : World} (h : Mod S a w) {g : Nat} (hg : g < a.heap.size → S g) (cs : Array Value) : Mod S a (w.setRow g cs) :=
  ⟨h.os, h.tape, h.output, Nat.le_trans h.size (by simp [World.setRow]), fun k hk hs => by
    rw [setRow_other w g k _ (fun e => hs (by subst e; exact hg hk))]; exact h.block k hk hs⟩
theorem SRow.row {w : World} {g n : Nat} {f : Nat → ByteArray} (h : SRow w g n f) {k : Nat} (hk : g ≠ k) (cs : Array Value) : SRow (w.setRow k cs) g n f := by
  obtain ⟨xs, T, hb, r⟩ := h
  exact ⟨xs, T, (setRow_other w k g _ hk).trans hb, r⟩
theorem SL.row {w : World} {g n : Nat} {f : Nat → ByteArray} (h : SL w g n f) {k : Nat} (hk : g ≠ k) (cs : Array Value) : SL (w.setRow k cs) g n f := fun j hj => by
  rw [World.cell?_of_block (w := w) (setRow_other w k g cs hk)]; exact h j hj
set_option maxRecDepth 100000 in
set_option maxHeartbeats 2000000 in
theorem rnew_no (n : Int) (w : World) (h : n < 1 ∨ 4096 < n) :
    Calls Try.prog 9 #[.int .i64 n] w fun e w' => e = .returned (.tuple #[.agg (rdC none 0 0 0 false 0), .int .i64 1]) ∧ Mod (fun _ => False) w w' := by
  by_cases h1 : n < 1
  · clear h
    go_enter Try.func9, Try.ntmps9
    go_wp2_with fail
    exact bodyPost_ret (v := .tuple #[.agg (rdC none 0 0 0 false 0), .int .i64 1]) (results_cell_tmp (fn := Try.f9) (p := 2) (q := 3) rfl _ _ w.heap.size rfl _ rfl (new_block _ _ _ _ rfl)) rfl ⟨rfl, (Mod.refl _ _).alloc _⟩
  · have h2 : 4096 < n := by omega
    clear h
    go_enter Try.func9, Try.ntmps9
    go_wp2_with fail
    exact bodyPost_ret (v := .tuple #[.agg (rdC none 0 0 0 false 0), .int .i64 1]) (results_cell_tmp (fn := Try.f9) (p := 2) (q := 3) rfl _ _ w.heap.size rfl _ rfl (new_block _ _ _ _ rfl)) rfl ⟨rfl, (Mod.refl _ _).alloc _⟩
set_option maxRecDepth 100000 in
set_option maxHeartbeats 2000000 in
theorem rnew_ok (n : Nat) (w : World) (h1 : 1 ≤ n) (h2 : n ≤ 4096) :
    Calls Try.prog 9 #[.int .i64 (n : Int)] w fun e w' => (∃ g, e = .returned (.tuple #[.agg (rdC (some ⟨g, 0, none⟩) n n (-1) false 0), .int .i64 0]) ∧ SL w' g n (fun _ => fill 0) ∧ w.heap.size ≤ g) ∧ Mod (fun _ => False) w w' := by
  have hn1 : ¬ (n : Int) < 1 := by omega
  have hn2 : ¬ (4096 : Int) < (n : Int) := by omega
  obtain ⟨W0, hW0⟩ : ∃ W0 : World, W0 = w.alloc (.cells (rdC none 0 0 0 false 0) 29) := ⟨_, rfl⟩
  obtain ⟨Z, hmk, hrow⟩ := make_texts n (by omega) (w.alloc (.cells (rdC none 0 0 0 false 0) 29))
  have HR := Lib.hid hrow
  clear hrow
  go_enter Try.func9, Try.ntmps9
  go_wp2_with fail
  clear hmk
  have hB0 : ((w.alloc (.cells (rdC none 0 0 0 false 0) 29)).alloc (.cells Z 9)).heap[w.heap.size]? = some (.cells (rdC none 0 0 0 false 0) 29 (0, 0)) := (Below.heap_alloc _ _ _ (by simp)).trans (new_block _ _ _ _ rfl)
  have HB := Lib.hid hB0
  clear hB0 hW0 W0
  go_loopw [5] (fun v wr => ∃ k : Nat, k ≤ n ∧ v = .int .i64 (k : Int) ∧ SRow wr (w.heap.size + 1) n (fun j => if j < k then fill 0 else ByteArray.empty) ∧ Hid (wr.heap[w.heap.size]? = some (.cells (rdC none 0 0 0 false 0) 29 (0, 0))) ∧ Mod (fun _ => False) w wr) (fun v _ => n - (intOf v).toNat)
  case atStart => exact ⟨0, by omega, rfl, by have := HR.out; simp at this; exact this.eq (fun j _ => by rw [if_neg (by omega)]), HB.out, ((Mod.refl _ _).alloc _).alloc _⟩
  case round =>
    obtain ⟨k, hk, rfl, row, HB, hm⟩ := hrel
    have HROW := Lib.hid row
    have HM := Lib.hid hm
    clear row hm
    by_cases hlt : k < n
    · have hk0 : (0 : Int) ≤ (k : Int) := by omega
      have hk2 : (k : Int) < (n : Int) := by omega
      obtain ⟨Z2, hmk, hcv⟩ := make_64 wr
      have ma := (Mod.refl (fun _ => False) wr).alloc (.cells Z2 5)
      have HR2 := Lib.hid (HROW.out.kept ma (fun e => e))
      have HM2 := Lib.hid (HM.out.tr ma)
      have HB2 := Lib.hid (ma.blk HB.out (fun e => e))
      have hc := HR2.out.cell k hlt
      have hf := HR2.out.free k
      have hle := HM.out.size
      clear ma
      go_wp2_with fail
      go_roundw
      case rel =>
        refine ⟨k + 1, by omega, by go_num, (HR2.out.set k (fill 0) hlt).eq (fun j _ => ?_), (Below.heap_setCell _ _ _ _ (by simp)).trans HB2.out, HM2.out.setCell (fun hh => absurd hh (by simp)) _⟩
        unfold supd
        by_cases e : j = k
        · subst e; rw [if_pos rfl, if_pos (by omega)]
        · rw [if_neg e]
          show (if j < k then fill 0 else ByteArray.empty) = _
          by_cases e2 : j < k
          · rw [if_pos e2, if_pos (by omega)]
          · rw [if_neg e2, if_neg (by omega)]
      case measure => simp [intOf]; omega
    · obtain rfl : k = n := by omega
      have HSL := Lib.hid (HROW.out.eq (f' := fun _ => fill 0) (fun j hj => if_pos hj))
      go_wp2_with (refine wpList_store_row rfl 29 (.tmp 2) (.tmp 26) rfl w.heap.size (rdC (some ⟨w.heap.size + 1, 0, none⟩) k k (-1) false 0) rfl rfl _ _ HB.out (by kernel_rfl) rfl (rdC_one _ _ _ _ _ _) ?_)
      exact bodyPost_ret (v := .tuple #[.agg (rdC (some ⟨w.heap.size + 1, 0, none⟩) k k (-1) false 0), .int .i64 0]) (results_cell_tmp (fn := Try.f9) (p := 2) (q := 3) rfl _ _ w.heap.size rfl _ rfl (setRow_heap _ _ _ _ _ _ HB.out)) rfl ⟨⟨_, rfl, (HSL.out.row (by omega) _).sl, by omega⟩, HM.out.row (fun hh => absurd hh (Nat.lt_irrefl _)) _⟩
end Go.Proofs.Ythamdkjcbbapkaa
