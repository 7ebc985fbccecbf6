/- The device's contracts, first part: Size, has, Off, Writes, Fuse, On. -/
import Derived.Test.YthamdkjcbbapkaaRows
import Derived.Test.YthamdkjcbbapkaaBase
namespace Go.Proofs.Ythamdkjcbbapkaa
open Go.RowKit
set_option linter.unusedSimpArgs false
set_option linter.unusedVariables false

def byteV (c : UInt8) : Value := .int .u8 c.toNat
/-- Block b is a device whose bytes are those of block g. -/
structure Dev (w : World) (b g n : Nat) (mem : List UInt8) (fuse : Int) (off : Bool) (wr : Int) : Prop where
  dev : w.heap[b]? = some (.cells #[.slice (some ⟨g, 0, none⟩) n n, .int .i64 fuse, .bool off, .int .i64 wr] 53 (0, 0))
  row : w.heap[g]? = some (.cells (mem.map byteV).toArray 59 (0, 0))
  len : mem.length = n * 64
  ne : b ≠ g

section
variable {w : World} {b g n : Nat} {mem : List UInt8} {fuse : Int} {off : Bool} {wr : Int}
theorem Dev.c0 (h : Dev w b g n mem fuse off wr) : w.cell? ⟨b, 0, none⟩ = some (.slice (some ⟨g, 0, none⟩) n n) := blk_cell h.dev rfl
theorem Dev.c1 (h : Dev w b g n mem fuse off wr) : w.cell? ⟨b, 1, none⟩ = some (.int .i64 fuse) := blk_cell h.dev rfl
theorem Dev.c2 (h : Dev w b g n mem fuse off wr) : w.cell? ⟨b, 2, none⟩ = some (.bool off) := blk_cell h.dev rfl
theorem Dev.c3 (h : Dev w b g n mem fuse off wr) : w.cell? ⟨b, 3, none⟩ = some (.int .i64 wr) := blk_cell h.dev rfl
theorem Dev.f (h : Dev w b g n mem fuse off wr) (o : Nat) : w.frozen? ⟨b, o, none⟩ = false := blk_free h.dev
theorem Dev.kept {S : Nat → Prop} {w' : World} (h : Dev w b g n mem fuse off wr) (m : Mod S w w') (hb : ¬ S b) (hg : ¬ S g) : Dev w' b g n mem fuse off wr :=
  ⟨m.blk h.dev hb, m.blk h.row hg, h.len, h.ne⟩
theorem Dev.drew (h : Dev w b g n mem fuse off wr) : Dev w.drew b g n mem fuse off wr := ⟨h.dev, h.row, h.len, h.ne⟩
theorem Dev.set1 (h : Dev w b g n mem fuse off wr) (x : Int) : Dev (w.setCell ⟨b, 1, none⟩ (.int .i64 x)) b g n mem x off wr :=
  ⟨set_block h.dev _, (Below.heap_setCell _ _ _ _ (fun e => h.ne e.symm)).trans h.row, h.len, h.ne⟩
theorem Dev.set2 (h : Dev w b g n mem fuse off wr) (x : Bool) : Dev (w.setCell ⟨b, 2, none⟩ (.bool x)) b g n mem fuse x wr :=
  ⟨set_block h.dev _, (Below.heap_setCell _ _ _ _ (fun e => h.ne e.symm)).trans h.row, h.len, h.ne⟩
theorem Dev.set3 (h : Dev w b g n mem fuse off wr) (x : Int) : Dev (w.setCell ⟨b, 3, none⟩ (.int .i64 x)) b g n mem fuse off x :=
  ⟨set_block h.dev _, (Below.heap_setCell _ _ _ _ (fun e => h.ne e.symm)).trans h.row, h.len, h.ne⟩

theorem size_dev (h : Dev w b g n mem fuse off wr) :
    Calls Try.prog 22 #[.pointer (some ⟨b, 0, none⟩)] w fun e w' => e = .returned (.int .i64 n) ∧ w = w' := by
  have c0 := h.c0
  go_enter Try.func22, Try.ntmps22
  go_wp2
  go_ret
  exact ⟨rfl, rfl⟩
theorem size_nil (w : World) : Calls Try.prog 22 #[.pointer none] w fun e w' => e = .returned (.int .i64 0) ∧ w = w' := by
  go_enter Try.func22, Try.ntmps22
  go_wp2
  go_ret
  exact ⟨rfl, rfl⟩
theorem has_yes (h : Dev w b g n mem fuse off wr) (at_ : Int) (h0 : 0 ≤ at_) (h1 : at_ < n) :
    Calls Try.prog 23 #[.pointer (some ⟨b, 0, none⟩), .int .i64 at_] w fun e w' => e = .returned (.bool true) ∧ w = w' := by
  have hd : decide (at_ < (n : Int)) = true := by simpa using h1
  go_enter Try.func23, Try.ntmps23
  go_wp2_with (go_at_call 22; refine (size_dev h).mono ?_; rintro e w' ⟨rfl, rfl⟩)
  go_ret
  exact ⟨rfl, rfl⟩
theorem has_no (h : Dev w b g n mem fuse off wr) (at_ : Int) (h0 : at_ < 0 ∨ (n : Int) ≤ at_) :
    Calls Try.prog 23 #[.pointer (some ⟨b, 0, none⟩), .int .i64 at_] w fun e w' => e = .returned (.bool false) ∧ w = w' := by
  by_cases h1 : at_ < 0
  · have hd : decide (0 ≤ at_) = false := by simpa using h1
    clear h0
    go_enter Try.func23, Try.ntmps23
    go_wp2
    go_ret
    exact ⟨rfl, rfl⟩
  · have hd : decide (at_ < (n : Int)) = false := by simp; omega
    have h2 : 0 ≤ at_ := by omega
    clear h0
    go_enter Try.func23, Try.ntmps23
    go_wp2_with (go_at_call 22; refine (size_dev h).mono ?_; rintro e w' ⟨rfl, rfl⟩)
    go_ret
    exact ⟨rfl, rfl⟩
theorem off_dev (h : Dev w b g n mem fuse off wr) :
    Calls Try.prog 20 #[.pointer (some ⟨b, 0, none⟩)] w fun e w' => e = .returned (.bool off) ∧ w = w' := by
  have c2 := h.c2
  go_enter Try.func20, Try.ntmps20
  go_wp2
  go_ret
  exact ⟨rfl, rfl⟩
theorem writes_dev (h : Dev w b g n mem fuse off wr) :
    Calls Try.prog 21 #[.pointer (some ⟨b, 0, none⟩)] w fun e w' => e = .returned (.int .i64 wr) ∧ w = w' := by
  have c3 := h.c3
  go_enter Try.func21, Try.ntmps21
  go_wp2
  go_ret
  exact ⟨rfl, rfl⟩
end
def zero64 : Value := .agg (Array.replicate 64 (.int .u8 0))
theorem info59 : (Try.prog.info? 59).map (fun i => (i.zero, i.size, i.bytes)) = some (some zero64, 64, 64) := by kernel_rfl
theorem made_zero (n : Nat) : madeCells zero64.cells (n * 64) = ((List.replicate (n * 64) 0).map byteV).toArray := by
  have hc : zero64.cells = Array.replicate 64 (.int .u8 0) := rfl
  unfold madeCells
  rw [hc]
  have hs : (Array.replicate 64 (Value.int .u8 0)).size = 64 := by simp
  rw [hs]
  apply Array.ext
  · simp
  · intro i h1 h2
    have hlt : i % 64 < 64 := Nat.mod_lt _ (by omega)
    simp [byteV, getElem!_def, Array.getElem?_replicate, hlt]
theorem new_any (n : Nat) (w : World) (h1 : 1 ≤ n) (h2 : n ≤ 4096) :
    Calls Try.prog 8 #[.int .i64 n] w fun e w' => e = .returned (.tuple #[.pointer (some ⟨w.heap.size + 1, 0, none⟩), .int .i64 0]) ∧ Dev w' (w.heap.size + 1) w.heap.size n (List.replicate (n * 64) 0) (-1) false 0 ∧ Mod (fun _ => False) w w' := by
  obtain ⟨i, hi, hz, hs, hb⟩ := info_parts info59
  have hmk : (Instr.makeSlice 51 (.int .i64 (n : Int)) (.int .i64 (n : Int))).run Try.prog w = .ok (.slice (some ⟨w.heap.size, 0, none⟩) n n) (w.alloc (.cells ((List.replicate (n * 64) 0).map byteV).toArray 59)) := by
    have h := run_make (P := Try.prog) w 51 59 i zero64 Try.underlying51 hi hz .i64 .i64 (n : Int) (n : Int) (by omega) (by omega) (by rw [hb]; omega) (by omega)
    rw [hs] at h
    simp only [Int.toNat_natCast] at h
    rw [made_zero] at h
    exact h
  obtain ⟨Z, hZ⟩ : ∃ Z, Z = ((List.replicate (n * 64) 0).map byteV).toArray := ⟨_, rfl⟩
  rw [← hZ] at hmk
  have HZ := Lib.hid hZ
  clear hZ hi hz hs hb
  go_enter Try.func8, Try.ntmps8
  go_wp2
  go_ret2
  refine ⟨rfl, ⟨new_block _ _ _ _ (by simp), ?_, by simp, by omega⟩, ((Mod.refl _ _).alloc _).alloc _⟩
  rw [← HZ.out]
  exact ((Mod.refl (fun _ => False) _).alloc _).blk (new_block w Z 59 _ rfl) (fun e => e)
theorem new_no (n : Int) (w : World) (h : n < 1 ∨ 4096 < n) :
    Calls Try.prog 8 #[.int .i64 n] w fun e w' => e = .returned (.tuple #[.pointer none, .int .i64 1]) ∧ w = w' := by
  rcases h with h | h
  · go_enter Try.func8, Try.ntmps8
    go_wp2
    go_ret2
    exact ⟨rfl, rfl⟩
  · have h1 : ¬ n < 1 := by omega
    go_enter Try.func8, Try.ntmps8
    go_wp2
    go_ret2
    exact ⟨rfl, rfl⟩
theorem fuse_dev {w : World} {b g n : Nat} {mem : List UInt8} {fuse : Int} {off : Bool} {wr : Int} (hd : Dev w b g n mem fuse off wr) (hn : 1 ≤ n) (k : Int) :
    Calls Try.prog 17 #[.pointer (some ⟨b, 0, none⟩), .int .i64 k] w fun e w' => e = .returned (.int .i64 0) ∧ Dev w' b g n mem (max k (-1)) off wr ∧ Mod (· = b) w w' := by
  have c1 := hd.c1
  have f1 := hd.f 1
  have hn0 : ((n : Int) == 0) = false := by rw [beq_eq_false_iff_ne]; omega
  go_enter Try.func17, Try.ntmps17
  go_wp2_with (go_at_call 22; refine (size_dev hd).mono ?_; rintro e w' ⟨rfl, rfl⟩)
  · have hk : max k (-1) = -1 := by omega
    rw [hk]
    go_ret
    exact ⟨rfl, hd.set1 _, (Mod.refl _ _).setCell (by intro _; rfl) _⟩
  · have hk : max k (-1) = k := by omega
    rw [hk]
    go_ret
    exact ⟨rfl, hd.set1 _, (Mod.refl _ _).setCell (by intro _; rfl) _⟩
theorem on_dev {w : World} {b g n : Nat} {mem : List UInt8} {fuse : Int} {off : Bool} {wr : Int} (h : Dev w b g n mem fuse off wr) (hn : 1 ≤ n) :
    Calls Try.prog 19 #[.pointer (some ⟨b, 0, none⟩)] w fun e w' => e = .returned (.int .i64 0) ∧ Dev w' b g n mem (-1) false wr ∧ Mod (· = b) w w' := by
  have c1 := h.c1
  have f1 := h.f 1
  have c2 := h.c2
  have f2 := h.f 2
  have hn0 : ((n : Int) == 0) = false := by rw [beq_eq_false_iff_ne]; omega
  go_enter Try.func19, Try.ntmps19
  go_wp2_with (go_at_call 22; refine (size_dev h).mono ?_; rintro e w' ⟨rfl, rfl⟩)
  go_ret
  exact ⟨rfl, (h.set2 _).set1 _, ((Mod.refl _ _).setCell (by intro _; rfl) _).setCell (by intro _; rfl) _⟩
end Go.Proofs.Ythamdkjcbbapkaa
