/- The device's contracts, fourth part: a device that nobody made; what must come. -/
import Derived.Test.YthamdkjcbbapkaaB3
namespace Go.Proofs.Ythamdkjcbbapkaa
open Go.RowKit
set_option linter.unusedSimpArgs false
set_option linter.unusedVariables false

/-- A device that nobody made. -/
def NG (w : World) (p : Value) : Prop := p = .pointer none ∨ ∃ b, p = .pointer (some ⟨b, 0, none⟩) ∧ w.heap[b]? = some (.cells #[.slice none 0 0, .int .i64 0, .bool false, .int .i64 0] 53 (0, 0))
theorem NG.kept {w w' : World} {p : Value} (h : NG w p) (m : Mod (fun _ => False) w w') : NG w' p := by
  rcases h with h | ⟨b, h, c⟩
  · exact .inl h
  · exact .inr ⟨b, h, m.blk c (fun e => e)⟩
theorem size_ng {w : World} {p : Value} (h : NG w p) : Calls Try.prog 22 #[p] w fun e w' => e = .returned (.int .i64 0) ∧ w = w' := by
  rcases h with h | ⟨b, h, c⟩
  · subst h; exact size_nil w
  · subst h
    have c0 := blk_cell c (o := 0) rfl
    go_enter Try.func22, Try.ntmps22
    go_wp2
    go_ret
    exact ⟨rfl, rfl⟩
theorem has_ng {w : World} {p : Value} (h : NG w p) (k : Int) : Calls Try.prog 23 #[p, .int .i64 k] w fun e w' => e = .returned (.bool false) ∧ w = w' := by
  by_cases h1 : k < 0
  · have hd : decide (0 ≤ k) = false := by simpa using h1
    clear h
    go_enter Try.func23, Try.ntmps23
    go_wp2
    go_ret
    exact ⟨rfl, rfl⟩
  · have hd : decide (k < 0) = false := by simp; omega
    have h2 : 0 ≤ k := by omega
    have H := Lib.hid h
    clear h
    go_enter Try.func23, Try.ntmps23
    go_wp2_with (go_at_call 22; refine (size_ng H.out).mono ?_; rintro e w' ⟨rfl, rfl⟩)
    go_ret
    exact ⟨rfl, rfl⟩
theorem write_ng {w : World} {p : Value} (h : NG w p) (k : Int) (s : ByteArray) : Calls Try.prog 13 #[p, .int .i64 k, .string s] w fun e w' => e = .returned (.int .i64 1) ∧ w = w' := by
  have H := Lib.hid h
  clear h
  go_enter Try.func13, Try.ntmps13
  go_wp2_with (go_at_call 23; refine (has_ng H.out _).mono ?_; rintro e w' ⟨rfl, rfl⟩)
  go_ret
  exact ⟨rfl, rfl⟩
theorem read_ng {w : World} {p : Value} (h : NG w p) (k : Int) : Calls Try.prog 14 #[p, .int .i64 k] w fun e w' => e = .returned (.tuple #[.string ByteArray.empty, .int .i64 1]) ∧ w = w' := by
  have H := Lib.hid h
  clear h
  go_enter Try.func14, Try.ntmps14
  go_wp2_with (go_at_call 23; refine (has_ng H.out _).mono ?_; rintro e w' ⟨rfl, rfl⟩)
  go_ret2
  exact ⟨rfl, rfl⟩
theorem fuse_ng {w : World} {p : Value} (h : NG w p) (k : Int) : Calls Try.prog 17 #[p, .int .i64 k] w fun e w' => e = .returned (.int .i64 1) ∧ w = w' := by
  have H := Lib.hid h
  clear h
  go_enter Try.func17, Try.ntmps17
  go_wp2_with (go_at_call 22; refine (size_ng H.out).mono ?_; rintro e w' ⟨rfl, rfl⟩)
  go_ret
  exact ⟨rfl, rfl⟩
theorem on_ng {w : World} {p : Value} (h : NG w p) : Calls Try.prog 19 #[p] w fun e w' => e = .returned (.int .i64 1) ∧ w = w' := by
  have H := Lib.hid h
  clear h
  go_enter Try.func19, Try.ntmps19
  go_wp2_with (go_at_call 22; refine (size_ng H.out).mono ?_; rintro e w' ⟨rfl, rfl⟩)
  go_ret
  exact ⟨rfl, rfl⟩
theorem off_ng {w : World} {p : Value} (h : NG w p) : Calls Try.prog 20 #[p] w fun e w' => e = .returned (.bool false) ∧ w = w' := by
  rcases h with h | ⟨b, h, c⟩
  · subst h
    go_enter Try.func20, Try.ntmps20
    go_wp2
    go_ret
    exact ⟨rfl, rfl⟩
  · subst h
    have c2 := blk_cell c (o := 2) rfl
    go_enter Try.func20, Try.ntmps20
    go_wp2
    go_ret
    exact ⟨rfl, rfl⟩
theorem writes_ng {w : World} {p : Value} (h : NG w p) : Calls Try.prog 21 #[p] w fun e w' => e = .returned (.int .i64 0) ∧ w = w' := by
  rcases h with h | ⟨b, h, c⟩
  · subst h
    go_enter Try.func21, Try.ntmps21
    go_wp2
    go_ret
    exact ⟨rfl, rfl⟩
  · subst h
    have c3 := blk_cell c (o := 3) rfl
    go_enter Try.func21, Try.ntmps21
    go_wp2
    go_ret
    exact ⟨rfl, rfl⟩
theorem blk_same {mem : List UInt8} {n k : Nat} {s : ByteArray} (hl : mem.length = n * 64) (hk : k < n) (hs : s.size = 64) : blk (wrote mem k s) k = s := by
  have hb := bytes_len s
  unfold blk wrote
  rw [List.append_assoc, List.drop_append_of_le_length (by simp; omega), List.drop_of_length_le (by simp; omega), List.nil_append]
  rw [List.take_append_of_le_length (by omega), List.take_of_length_le (by omega)]
  simp [bytes]
theorem blk_other {mem : List UInt8} {n k j : Nat} {s : ByteArray} (hl : mem.length = n * 64) (hk : k < n) (hj : j < n) (hs : s.size = 64) (hne : j ≠ k) : blk (wrote mem k s) j = blk mem j := by
  have hb := bytes_len s
  unfold blk
  congr 2
  apply List.ext_getElem?
  intro i
  by_cases hi : i < 64
  · simp only [List.getElem?_take, hi, if_true, List.getElem?_drop]
    unfold wrote
    by_cases hlt : j < k
    · rw [List.append_assoc, List.getElem?_append_left (by simp; omega), List.getElem?_take, if_pos (by omega)]
    · rw [List.getElem?_append_right (by simp; omega), List.getElem?_drop]
      congr 1
      simp
      omega
  · simp [List.getElem?_take, hi]
theorem blk_zero {n k : Nat} (hk : k < n) : blk (List.replicate (n * 64) 0) k = fill 0 := by
  unfold blk fill
  congr 2
  rw [List.drop_replicate, List.take_replicate]
  congr 1
  omega
theorem blk_size {mem : List UInt8} {n k : Nat} (hl : mem.length = n * 64) (hk : k < n) : (blk mem k).size = 64 := by
  show ((mem.drop (k * 64)).take 64).toArray.size = 64
  simp
  omega
set_option maxHeartbeats 1000000 in
theorem awake_any (w : World) : Calls Try.prog 10 #[] w fun e w' => e = .returned (.bool true) ∧ Mod (fun _ => False) w w' := by
  go_enter Try.func10, Try.ntmps10
  go_wp2_with fail
  refine (new_any 2 w (by omega) (by omega)).mono ?_
  rintro e w1 ⟨rfl, d1, m1⟩
  go_wp2_with fail
  refine (size_dev d1).mono ?_
  rintro e w2 ⟨rfl, rfl⟩
  go_wp2_with fail
  refine (fuse_dev d1 (by omega) _).mono ?_
  rintro e w2 ⟨rfl, d2, m2⟩
  go_wp2_with fail
  refine (filled_any 97 97 rfl _).mono ?_
  rintro e w3 ⟨rfl, m3⟩
  go_wp2_with fail
  have d3 := d2.kept m3 (fun e => e) (fun e => e)
  have hz : (List.replicate (2 * 64) (0 : UInt8)).length = 2 * 64 := by simp
  have hmx : max (1 : Int) (-1) = 1 := rfl
  rw [hmx] at d3
  clear hmx
  refine (write_ok d3 0 _ (by omega) (fill_size _) (by omega) (by omega) (by omega) (by omega) (by omega) (by omega)).mono ?_
  rintro e w4 ⟨rfl, d4, m4⟩
  go_wp2_with fail
  refine (filled_any 98 98 rfl _).mono ?_
  rintro e w5 ⟨rfl, m5⟩
  have d5 := d4.kept m5 (fun e => e) (fun e => e)
  go_wp2_with fail
  refine (write_off d5 1 _ (by omega) (by omega) (fill_size _) (by simp)).mono ?_
  rintro e w6 ⟨rfl, d6, m6⟩
  go_wp2_with fail
  refine (off_dev d6).mono ?_
  rintro e w7 ⟨rfl, rfl⟩
  go_wp2_with fail
  refine (on_dev d6 (by omega)).mono ?_
  rintro e w7 ⟨rfl, d7, m7⟩
  go_wp2_with fail
  refine (read_ok d7 0 (by omega) (by omega)).mono ?_
  rintro e w8 ⟨rfl, rfl⟩
  rw [blk_same hz (by omega) (fill_size _)]
  go_wp2_with fail
  refine (read_ok d7 1 (by omega) (by omega)).mono ?_
  rintro e w8 ⟨rfl, rfl⟩
  rw [blk_other hz (by omega) (by omega) (fill_size _) (by omega), blk_zero (by omega)]
  go_wp2_with fail
  refine (filled_any 97 97 rfl _).mono ?_
  rintro e w8 ⟨rfl, m8⟩
  go_wp2_with fail
  have d8 := d7.kept m8 (fun e => e) (fun e => e)
  refine (filled_any 0 0 rfl _).mono ?_
  rintro e w9 ⟨rfl, m9⟩
  have d9 := d8.kept m9 (fun e => e) (fun e => e)
  go_wp2_with fail
  refine (writes_dev d9).mono ?_
  rintro e w10 ⟨rfl, rfl⟩
  go_wp2_with fail
  go_ret
  have nw : ∀ i, i = w.heap.size + 1 ∨ i = w.heap.size → w.heap.size ≤ i := by intro i h; omega
  exact ⟨rfl, ((((((((m1.new m2 (fun i e => nw i (.inl e))).tr m3).new m4 nw).tr m5).new m6 (fun i e => nw i (.inl e))).new m7 (fun i e => nw i (.inl e))).tr m8).tr m9)⟩
end Go.Proofs.Ythamdkjcbbapkaa
