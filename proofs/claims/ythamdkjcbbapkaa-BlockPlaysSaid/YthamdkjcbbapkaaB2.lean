/- The device's contracts, second part: Write, Read. -/
import Derived.Test.YthamdkjcbbapkaaB1
import Derived.Laws.CopyOwn
import Derived.Laws.CopyRow
import Derived.Laws.BytesArg
namespace Go.Proofs.Ythamdkjcbbapkaa
open Go.RowKit
set_option linter.unusedSimpArgs false
set_option linter.unusedVariables false

def bytes (s : ByteArray) : List UInt8 := s.data.toList
theorem bytes_len (s : ByteArray) : (bytes s).length = s.size := by show s.data.toList.length = s.data.size; simp only [Array.length_toList]
theorem run_copy_str {P : Program} (w : World) (dT sT ty elem : TypeId) (g o dLen dCap : Nat) (s : ByteArray) (cur : Array Value) (t : TypeId)
    (hu : P.underlying dT = some (.slice elem)) (hs : (P.info? elem).map (·.size) = some 1)
    (hg : w.heap[g]? = some (.cells cur t (0, 0))) (hn : s.size = dLen) (hfit : o + s.size ≤ cur.size) :
    (Builtin.copy_ #[dT, sT] ty #[.slice (some ⟨g, o, none⟩) dLen dCap, .string s]).run P w =
      .ok (goInt s.size) (w.setRow g (cur.toList.take o ++ (bytes s).map byteV ++ cur.toList.drop (o + s.size)).toArray) := by
  have hst := run_storeCells_at P g o t ((bytes s).map byteV) 0 cur w hg (by simpa [bytes_len] using hfit) (by intro v hv; simp at hv; obtain ⟨_, _, rfl⟩ := hv; rfl)
  have hx : List.take s.size (List.map (fun b : UInt8 => Value.int .u8 (b.toNat : Int)) s.data.toList) = (bytes s).map byteV := by
    rw [List.take_of_length_le (by rw [List.length_map]; exact Nat.le_of_eq (bytes_len s))]
    rfl
  cases hq : P.info? elem with
  | none => simp [hq] at hs
  | some i =>
    have hi : i.size = 1 := by simpa [hq] using hs
    subst hn
    simp only [bytes_len, List.length_map] at hst
    simp [Builtin.copy_, run_underlying hu, Builtin.lenOf, Builtin.firstCells, sizeOf, typeInfo, hq, hi]
    rw [hx]
    simp [hst]
theorem wpList_copy_str {P : Program} {w : World} {ops : Array Oper} {rest : List Oper} {o : Oper} {a : Act} {Q : Exit → Act → World → Prop} (hgd : o.guard = none) (d s : Operand) (dT sT : TypeId)
    (ho : o.op = .call { callee := .builtin .copy, args := #[d, s], argTypes := #[dT, sT] }) (elem : TypeId) (hu : P.underlying dT = some (.slice elem)) (hsz : (P.info? elem).map (·.size) = some 1)
    (g off dLen dCap : Nat) (str : ByteArray) (hd : a.eval d = .slice (some ⟨g, off, none⟩) dLen dCap) (hs : a.eval s = .string str)
    (cur : Array Value) (t : TypeId) (hg : w.heap[g]? = some (.cells cur t (0, 0))) (hn : str.size = dLen) (hfit : off + str.size ≤ cur.size)
    (h : wpList P ops Q rest (a.put o.dst (goInt str.size)) (w.setRow g (cur.toList.take off ++ (bytes str).map byteV ++ cur.toList.drop (off + str.size)).toArray)) : wpList P ops Q (o :: rest) a w := by
  refine wpList_plain hgd fun K hK => ?_
  have hrun := run_copy_str (P := P) w dT sT o.type elem g off dLen dCap str cur t hu hsz hg hn hfit
  unfold Oper.wp
  simp [execOp, ho, resolve, invoke, builtin, hd, hs, hrun, Result.andThen]
  rw [List.append_assoc] at h
  exact hK _ _ h
/-- The bytes behind a write. -/
def wrote (mem : List UInt8) (at_ : Nat) (s : ByteArray) : List UInt8 := mem.take (at_ * 64) ++ bytes s ++ mem.drop (at_ * 64 + 64)
theorem wrote_len {mem : List UInt8} {n at_ : Nat} {s : ByteArray} (h : mem.length = n * 64) (ha : at_ < n) (hs : s.size = 64) : (wrote mem at_ s).length = n * 64 := by
  have := bytes_len s
  simp [wrote]; omega

theorem dev_copy {w : World} {b g n : Nat} {mem : List UInt8} {fuse : Int} {off : Bool} {wr : Int} (h : Dev w b g n mem fuse off wr) {at_ : Nat} {s : ByteArray} (h1 : at_ < n) (hs : s.size = 64) :
    Dev (w.setRow g ((mem.map byteV).toArray.toList.take (at_ * 64) ++ (bytes s).map byteV ++ (mem.map byteV).toArray.toList.drop (at_ * 64 + s.size)).toArray) b g n (wrote mem at_ s) fuse off wr ∧
    Mod (· = g) w (w.setRow g ((mem.map byteV).toArray.toList.take (at_ * 64) ++ (bytes s).map byteV ++ (mem.map byteV).toArray.toList.drop (at_ * 64 + s.size)).toArray) := by
  refine ⟨⟨(setRow_other w g b _ h.ne).trans h.dev, ?_, wrote_len h.len h1 hs, h.ne⟩, ⟨rfl, rfl, rfl, by simp [World.setRow], fun k hk hg => setRow_other w g k _ hg⟩⟩
  rw [setRow_heap w g _ _ _ _ h.row, hs]
  simp [wrote, List.map_take, List.map_drop]
theorem wpList_write_block {P : Program} {w : World} {ops : Array Oper} {rest : List Oper} {o : Oper} {a : Act} {Q : Exit → Act → World → Prop} (hgd : o.guard = none) (d s : Operand) (dT sT : TypeId)
    (ho : o.op = .call { callee := .builtin .copy, args := #[d, s], argTypes := #[dT, sT] }) (elem : TypeId) (hu : P.underlying dT = some (.slice elem)) (hsz : (P.info? elem).map (·.size) = some 1)
    {b g n : Nat} {mem : List UInt8} {fuse : Int} {off : Bool} {wr : Int} (hdev : Dev w b g n mem fuse off wr) {at_ : Nat} {str : ByteArray} (h1 : at_ < n) (hss : str.size = 64)
    (hd : a.eval d = .slice (some ⟨g, at_ * 64, none⟩) 64 64) (hs : a.eval s = .string str)
    (h : ∀ w', Dev w' b g n (wrote mem at_ str) fuse off wr → Mod (· = g) w w' → wpList P ops Q rest (a.put o.dst (goInt str.size)) w') : wpList P ops Q (o :: rest) a w := by
  have hl := hdev.len
  refine wpList_copy_str hgd d s dT sT ho elem hu hsz g (at_ * 64) 64 64 str hd hs _ 59 hdev.row hss (by simp; omega) ?_
  exact h _ (dev_copy hdev h1 hss).1 (dev_copy hdev h1 hss).2

section
variable {w : World} {b g n : Nat} {mem : List UInt8} {fuse : Int} {off : Bool} {wr : Int}
theorem write_arg1 (h : Dev w b g n mem fuse off wr) (at_ : Int) (s : ByteArray) (h0 : at_ < 0 ∨ (n : Int) ≤ at_) :
    Calls Try.prog 13 #[.pointer (some ⟨b, 0, none⟩), .int .i64 at_, .string s] w fun e w' => e = .returned (.int .i64 1) ∧ w = w' := by
  go_enter Try.func13, Try.ntmps13
  go_wp2_with (go_at_call 23; refine (has_no h _ h0).mono ?_; rintro e w' ⟨rfl, rfl⟩)
  go_ret
  exact ⟨rfl, rfl⟩
theorem write_arg2 (h : Dev w b g n mem fuse off wr) (at_ : Int) (s : ByteArray) (h0 : 0 ≤ at_) (h1 : at_ < n) (hs : s.size ≠ 64) :
    Calls Try.prog 13 #[.pointer (some ⟨b, 0, none⟩), .int .i64 at_, .string s] w fun e w' => e = .returned (.int .i64 1) ∧ w = w' := by
  have hs' : (((s.size : Nat) : Int) != 64) = true := by rw [bne_iff_ne]; omega
  go_enter Try.func13, Try.ntmps13
  go_wp2_with (go_at_call 23; refine (has_yes h _ h0 h1).mono ?_; rintro e w' ⟨rfl, rfl⟩)
  go_ret
  exact ⟨rfl, rfl⟩
theorem write_off (h : Dev w b g n mem fuse off wr) (at_ : Int) (s : ByteArray) (h0 : 0 ≤ at_) (h1 : at_ < n) (hs : s.size = 64) (ho : off = true ∨ fuse = 0) :
    Calls Try.prog 13 #[.pointer (some ⟨b, 0, none⟩), .int .i64 at_, .string s] w fun e w' => e = .returned (.int .i64 170) ∧ Dev w' b g n mem (-1) true wr ∧ Mod (· = b) w w' := by
  have hs' : (((s.size : Nat) : Int) != 64) = false := by rw [bne_eq_false_iff_eq]; omega
  have c1 := h.c1
  have f1 := h.f 1
  have c2 := h.c2
  have f2 := h.f 2
  clear hs
  cases off
  · obtain rfl : fuse = 0 := by simpa using ho
    clear ho
    go_enter Try.func13, Try.ntmps13
    go_wp2_with (go_at_call 23; refine (has_yes h _ h0 h1).mono ?_; rintro e w' ⟨rfl, rfl⟩)
    go_ret
    exact ⟨rfl, (h.set2 _).set1 _, ((Mod.refl _ _).setCell (by intro _; rfl) _).setCell (by intro _; rfl) _⟩
  · clear ho
    go_enter Try.func13, Try.ntmps13
    go_wp2_with (go_at_call 23; refine (has_yes h _ h0 h1).mono ?_; rintro e w' ⟨rfl, rfl⟩)
    go_ret
    exact ⟨rfl, (h.set2 _).set1 _, ((Mod.refl _ _).setCell (by intro _; rfl) _).setCell (by intro _; rfl) _⟩
theorem write_ok (h : Dev w b g n mem fuse false wr) (at_ : Nat) (s : ByteArray) (h1 : at_ < n) (hs : s.size = 64) (ho : fuse ≠ 0) (hw0 : 0 ≤ wr) (hw1 : wr < 4611686018427387904) (hf0 : -1 ≤ fuse) (hf1 : fuse ≤ 9223372036854775807) (hn : n ≤ 4096) :
    Calls Try.prog 13 #[.pointer (some ⟨b, 0, none⟩), .int .i64 at_, .string s] w fun e w' => e = .returned (.int .i64 0) ∧ Dev w' b g n (wrote mem at_ s) (if 0 < fuse then fuse - 1 else fuse) false (wr + 1) ∧ Mod (fun i => i = b ∨ i = g) w w' := by
  have hs' : (((s.size : Nat) : Int) != 64) = false := by rw [bne_eq_false_iff_eq]; omega
  have hf' : (fuse == 0) = false := by rw [beq_eq_false_iff_ne]; omega
  have h0' : (0 : Int) ≤ (at_ : Int) := by omega
  have h1' : (at_ : Int) < (n : Int) := by omega
  have HS := Lib.hid hs
  clear hs ho
  have c0 := h.c0
  have c1 := h.c1
  have f1 := h.f 1
  have c2 := h.c2
  have f2 := h.f 2
  have c3 := h.c3
  have f3 := h.f 3
  go_enter Try.func13, Try.ntmps13
  by_cases hfu : 0 < fuse
  · go_wp2_with (first | (go_at_call 23; refine (has_yes h _ h0' h1').mono ?_; rintro e w' ⟨rfl, rfl⟩) | (with_reducible refine wpList_write_block rfl (.tmp 43) (.tmp 44) 57 9 rfl 5 Try.underlying57 (by kernel_rfl) (h.set2 false) h1 HS.out rfl rfl ?_; intro w2 d2 m2; have c1' := d2.c1; have c3' := d2.c3; have f1' := d2.f 1; have f3' := d2.f 3))
    go_ret
    exact ⟨rfl, (d2.set3 _).set1 _, ((((Mod.refl (fun i => i = b ∨ i = g) _).setCell (by intro _; exact .inl rfl) _).trans m2 (U := fun i => i = b ∨ i = g) (fun _ e => e) (fun _ _ e => .inr e)).setCell (by intro _; exact .inl rfl) _).setCell (by intro _; exact .inl rfl) _⟩
  · go_wp2_with (first | (go_at_call 23; refine (has_yes h _ h0' h1').mono ?_; rintro e w' ⟨rfl, rfl⟩) | (with_reducible refine wpList_write_block rfl (.tmp 43) (.tmp 44) 57 9 rfl 5 Try.underlying57 (by kernel_rfl) (h.set2 false) h1 HS.out rfl rfl ?_; intro w2 d2 m2; have c1' := d2.c1; have c3' := d2.c3; have f1' := d2.f 1; have f3' := d2.f 3))
    go_ret
    exact ⟨rfl, d2.set3 _, (((Mod.refl (fun i => i = b ∨ i = g) _).setCell (by intro _; exact .inl rfl) _).trans m2 (U := fun i => i = b ∨ i = g) (fun _ e => e) (fun _ _ e => .inr e)).setCell (by intro _; exact .inl rfl) _⟩
/-- Block at_ of the bytes. -/
def blk (mem : List UInt8) (at_ : Nat) : ByteArray := ⟨((mem.drop (at_ * 64)).take 64).toArray⟩
theorem read_ok (h : Dev w b g n mem fuse false wr) (at_ : Nat) (h1 : at_ < n) (hn : n ≤ 4096) :
    Calls Try.prog 14 #[.pointer (some ⟨b, 0, none⟩), .int .i64 at_] w fun e w' => e = .returned (.tuple #[.string (blk mem at_), .int .i64 0]) ∧ w = w' := by
  have h0' : (0 : Int) ≤ (at_ : Int) := by omega
  have h1' : (at_ : Int) < (n : Int) := by omega
  have c0 := h.c0
  have c2 := h.c2
  have hl := h.len
  have hcv : (convert 57 9 (.slice (some ⟨g, at_ * 64, none⟩) 64 64)).run Try.prog w = .ok (.string (blk mem at_)) w := by
    have hr := run_convert_bytes_arg (P := Try.prog) (w := w) 57 5 Try.underlying57 Try.underlying5 g (at_ * 64) 64 64 (((mem.drop (at_ * 64)).take 64).map fun c => (c.toNat : Int)) (by simp; omega) (fun i hi => by
      have hx : (mem.map byteV).toArray[at_ * 64 + i]? = some (byteV (mem[at_ * 64 + i]'(by omega))) := by
        simp
        exact ⟨_, List.getElem?_eq_getElem (by omega), rfl⟩
      rw [blk_cell h.row hx]
      have h2 : at_ * 64 + i < mem.length := by omega
      simp [List.getD_eq_getElem?_getD, List.getElem?_map, List.getElem?_take, hi, List.getElem?_drop, List.getElem?_eq_getElem h2, byteV]) 9 Try.underlying9
    rw [hr]
    congr 2
    simp [strOfNums, blk, Function.comp_def]
  go_enter Try.func14, Try.ntmps14
  go_wp2_with (first | (go_at_call 23; refine (has_yes h _ h0' h1').mono ?_; rintro e w' ⟨rfl, rfl⟩))
  go_ret2
  exact ⟨rfl, rfl⟩
theorem read_arg (h : Dev w b g n mem fuse off wr) (at_ : Int) (h0 : at_ < 0 ∨ (n : Int) ≤ at_) :
    Calls Try.prog 14 #[.pointer (some ⟨b, 0, none⟩), .int .i64 at_] w fun e w' => e = .returned (.tuple #[.string ByteArray.empty, .int .i64 1]) ∧ w = w' := by
  go_enter Try.func14, Try.ntmps14
  go_wp2_with (first | (go_at_call 23; refine (has_no h _ h0).mono ?_; rintro e w' ⟨rfl, rfl⟩))
  go_ret2
  exact ⟨rfl, rfl⟩
theorem read_off (h : Dev w b g n mem fuse true wr) (at_ : Int) (h0 : 0 ≤ at_) (h1 : at_ < n) :
    Calls Try.prog 14 #[.pointer (some ⟨b, 0, none⟩), .int .i64 at_] w fun e w' => e = .returned (.tuple #[.string ByteArray.empty, .int .i64 170]) ∧ w = w' := by
  have c2 := h.c2
  go_enter Try.func14, Try.ntmps14
  go_wp2_with (first | (go_at_call 23; refine (has_yes h _ h0 h1).mono ?_; rintro e w' ⟨rfl, rfl⟩))
  go_ret2
  exact ⟨rfl, rfl⟩
end
end Go.Proofs.Ythamdkjcbbapkaa
