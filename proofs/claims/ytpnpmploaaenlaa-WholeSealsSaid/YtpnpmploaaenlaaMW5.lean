/- A row of bytes that the call builds up. The reference: bytes four by four the other way round. The reference: words as bytes, the highest byte first. -/
import Derived.Test.YtpnpmploaaenlaaMW4
import Derived.Lib.BufferRead
namespace Go.Proofs.Ytpnpmploaaenlaa.Wd
open Go.RowKit
set_option linter.unusedSimpArgs false
set_option linter.unusedVariables false

theorem info5 : (Try.prog.info? 5).map (fun i => (i.zero, i.size, i.bytes)) = some (some (.int .u8 0), 1, 1) := by kernel_rfl
/-- v is the call's own row, its bytes l; nothing elder is touched. -/
def Acc (W w : World) (v : Value) (l : List UInt8) : Prop := w.ownsRow W.heap.size 5 1 v l.length (Lib.byteCells l) ∧ Mod (fun _ => False) W w
theorem Acc.nil (W : World) : Acc W W (.slice none 0 0) [] := ⟨World.ownsRow_nil _ _ _ _, Mod.refl _ _⟩
theorem Acc.drew {W w : World} {v : Value} {l : List UInt8} (h : Acc W w v l) : Acc W w.drew v l := ⟨h.1, h.2.drew⟩
theorem Acc.mod {W w w' : World} {v : Value} {l : List UInt8} (h : Acc W w v l) (m : Mod (fun _ => False) w w') : Acc W w' v l := ⟨own_mod m h.1 (fun _ _ e => e), h.2.tr m⟩
theorem acc_push {W w : World} {v : Value} {l : List UInt8} (h : Acc W w v l) (hl : l.length ≤ 1000000) (b : UInt8) (c : Int) (hc : c = (b.toNat : Int)) (w1 : World) (hw1 : w1 = w.alloc (.cells #[.int .u8 c] 5) ∨ w1 = (w.alloc (.cells #[.int .u8 c] 5)).drew) :
    ∃ v' w', (Builtin.append_ #[33, 33] 33 #[v, .slice (some ⟨w.heap.size, 0, none⟩) 1 1]).run Try.prog w1 = .ok v' w' ∧ Acc W w' v' (l ++ [b]) := by
  obtain ⟨i0, hi, hz0, hz1, hz2⟩ := info_parts info5
  subst hc
  have own1 : w1.ownsRow W.heap.size 5 1 v l.length (Lib.byteCells l) := by
    rcases hw1 with rfl | rfl
    · exact h.1.alloc _
    · exact h.1.alloc (w := w) _
  have m1 : Mod (fun _ => False) W w1 := by
    rcases hw1 with rfl | rfl
    · exact h.2.alloc _
    · exact (h.2.alloc _).drew
  have c1 : w1.cell? ⟨w.heap.size, 0, none⟩ = some (.int .u8 (b.toNat : Int)) := by
    rcases hw1 with rfl | rfl
    · exact cell_new w _ _ _ _ rfl
    · exact cell_new w _ _ _ _ rfl
  have hs := m1.size
  obtain ⟨v', w3, hrun, hown, hgrow, _⟩ := run_append_own (P := Try.prog) (w := w1) W.heap.size 33 33 5 i0 (.int .u8 0) 1 1 Try.underlying33 hi hz0 hz1 hz2 rfl (by decide) _ _ _ own1 ⟨w.heap.size, 0, none⟩ 1 1 [.int .u8 (b.toNat : Int)] rfl
    (by intro j u hj
        match j, hj with
        | 0, hj => simp at hj; subst hj; exact c1) (by intro u hu; simp at hu; subst hu; rfl) (by unfold maxLen; omega) (by omega) hs
  refine ⟨v', w3, hrun, ?_, own_grown m1 own1 hgrow⟩
  rw [Lib.byteCells_append, List.length_append]
  exact hown
theorem wpList_push {W w : World} {ops : Array Oper} {rest : List Oper} {o : Oper} {a : Act} {Q : Exit → Act → World → Prop} (hgd : o.guard = none) (s x : Operand) (hty : o.type = 33)
    (ho : o.op = .call { callee := .builtin .append, args := #[s, x], argTypes := #[33, 33] }) {v : Value} {l : List UInt8} (hs : a.eval s = v) (h : Acc W w v l) (hl : l.length ≤ 1000000) (b : UInt8) (c : Int) (hc : c = (b.toNat : Int))
    (hx : a.eval x = .slice (some ⟨w.heap.size, 0, none⟩) 1 1)
    (hk : ∀ v' w', Acc W w' v' (l ++ [b]) → wpList Try.prog ops Q rest (a.put o.dst v') w') : wpList Try.prog ops Q (o :: rest) a (w.alloc (.cells #[.int .u8 c] 5)) := by
  obtain ⟨v', w', hrun, hA⟩ := acc_push h hl b c hc _ (.inl rfl)
  refine wpList_plain hgd fun K hK => ?_
  unfold Oper.wp execOp
  simp only [ho, hty, resolve, invoke, builtin, Sem.run_bind, Sem.run_pure, Result.andThen_ok, List.map_toArray, List.map_cons, List.map_nil, hs, hx, hrun]
  exact hK _ _ (hk v' w' hA)
theorem Acc.str {W w : World} {v : Value} {l : List UInt8} (h : Acc W w v l) : (convert 33 9 v).run Try.prog w = .ok (.string ⟨l.toArray⟩) w := by
  rcases h.1.2 with ⟨hv, hn⟩ | ⟨g, cap, cur, hv, hg, hh, hc1, hc2, hsz, htk⟩
  · obtain rfl : l = [] := List.eq_nil_of_length_eq_zero hn
    subst hv
    exact Lib.run_convert_nil_bytes w 33 9 5 0 Try.underlying33 Try.underlying5 Try.underlying9
  · subst hv
    exact run_convert_bytes_back w 33 9 5 ⟨g, 0, none⟩ cap l Try.underlying33 Try.underlying5 Try.underlying9 (Lib.bytes_of_row hh (by simpa using htk))
end Go.Proofs.Ytpnpmploaaenlaa.Wd
namespace Go.Proofs.Ytpnpmploaaenlaa.Wd
open Go.RowKit
set_option linter.unusedSimpArgs false
set_option linter.unusedVariables false

def byteU (s : ByteArray) (i : Nat) : UInt8 := (bytes s).getD i 0
theorem byteU_at (s : ByteArray) (i : Nat) : (byteU s i).toNat = byteAt s i := rfl
def rev4 (s : ByteArray) (k : Nat) : List UInt8 := (List.range k).flatMap fun j => [byteU s (4 * j + 3), byteU s (4 * j + 2), byteU s (4 * j + 1), byteU s (4 * j)]
theorem rev4_succ (s : ByteArray) (k : Nat) : rev4 s (k + 1) = rev4 s k ++ [byteU s (4 * k + 3), byteU s (4 * k + 2), byteU s (4 * k + 1), byteU s (4 * k)] := by
  unfold rev4; rw [List.range_succ, List.flatMap_append]; simp
theorem rev4_length (s : ByteArray) (k : Nat) : (rev4 s k).length = 4 * k := by
  induction k with
  | zero => rfl
  | succ k ih => rw [rev4_succ]; simp [ih]; omega
set_option maxRecDepth 100000 in
set_option maxHeartbeats 4000000 in
theorem turned_any (s : ByteArray) (w : World) (hs : s.size ≤ 100000) (m : Nat) (hm : s.size = 4 * m) :
    Calls Try.prog 53 #[.string s] w fun e w' => e = .returned (.string ⟨(rev4 s m).toArray⟩) ∧ Mod (fun _ => False) w w' := by
  have HM := Lib.hid hm
  clear hm
  go_enter Try.func53, Try.ntmps53
  go_wp2_with fail
  go_loopw [3, 4] (fun v i wr => ∃ k j : Nat, k ≤ m ∧ j = 4 * k ∧ i = .int .i64 (j : Int) ∧ Acc w wr v (rev4 s k)) (fun _ i _ => s.size - (intOf i).toNat)
  case atStart => exact ⟨0, 0, by omega, rfl, rfl, Acc.nil _⟩
  case round =>
    obtain ⟨k, j, hk, hj, rfl, acc⟩ := hrel
    have hjs : (j : Int) ≤ 100000 := by have := HM.out; omega
    have hi0 : (0 : Int) ≤ (j : Int) := by omega
    have wr1 : wrap64 ((j : Int) + 1) = (j : Int) + 1 := by simp only [wrap64]; omega
    have wr2 : wrap64 ((j : Int) + 2) = (j : Int) + 2 := by simp only [wrap64]; omega
    have wr3 : wrap64 ((j : Int) + 3) = (j : Int) + 3 := by simp only [wrap64]; omega
    have wr4 : wrap64 ((j : Int) + 4) = (j : Int) + 4 := by simp only [wrap64]; omega
    have HJ := Lib.hid hj
    clear hj
    by_cases hlt : k < m
    · have hb4 : j + 4 ≤ s.size := by have := HM.out; have := HJ.out; omega
      have hlt2 : (j : Int) + 3 < ((s.size : Nat) : Int) := by omega
      have HL := Lib.hid (rev4_succ s k)
      have HN := Lib.hid (rev4_length s k)
      go_wp2_with (at_builtin; refine wpList_push rfl (.tmp 12) (.tmp 17) rfl rfl rfl acc ?hl (byteU s (4 * k + 3)) _ ?c1 rfl ?_)
      case c1 => rw [byteU_at]; first | (rw [byteAt_get s (j + 3) (by omega), HJ.out]; done) | (rw [byteAt_int s _ (4 * k + 3) (by have := HJ.out; omega)]; done)
      case hl => try simp only [List.length_append, List.length_cons, List.length_nil]
                 have := HN.out; have := HJ.out; omega
      clear acc
      intro v0 w0 acc
      go_wp2_with (at_builtin; refine wpList_push rfl (.tmp 19) (.tmp 24) rfl rfl rfl acc ?hl (byteU s (4 * k + 2)) _ ?c1 rfl ?_)
      case c1 => rw [byteU_at]; first | (rw [byteAt_get s (j + 2) (by omega), HJ.out]; done) | (rw [byteAt_int s _ (4 * k + 2) (by have := HJ.out; omega)]; done)
      case hl => try simp only [List.length_append, List.length_cons, List.length_nil]
                 have := HN.out; have := HJ.out; omega
      clear acc
      intro v1 w1 acc
      go_wp2_with (at_builtin; refine wpList_push rfl (.tmp 26) (.tmp 31) rfl rfl rfl acc ?hl (byteU s (4 * k + 1)) _ ?c1 rfl ?_)
      case c1 => rw [byteU_at]; first | (rw [byteAt_get s (j + 1) (by omega), HJ.out]; done) | (rw [byteAt_int s _ (4 * k + 1) (by have := HJ.out; omega)]; done)
      case hl => try simp only [List.length_append, List.length_cons, List.length_nil]
                 have := HN.out; have := HJ.out; omega
      clear acc
      intro v2 w2 acc
      go_wp2_with (at_builtin; refine wpList_push rfl (.tmp 33) (.tmp 37) rfl rfl rfl acc ?hl (byteU s (4 * k)) _ ?c1 rfl ?_)
      case c1 => rw [byteU_at]; first | (rw [byteAt_get s (j) (by omega), HJ.out]; done) | (rw [byteAt_int s _ (4 * k) (by have := HJ.out; omega)]; done)
      case hl => try simp only [List.length_append, List.length_cons, List.length_nil]
                 have := HN.out; have := HJ.out; omega
      clear acc
      intro v3 w3 acc
      rw [← HL.out] at acc
      go_wp2_with fail
      go_roundw
      case rel => exact ⟨k + 1, j + 4, by omega, by have := HJ.out; omega, by go_num, acc⟩
      case measure => simp [intOf]; omega
    · obtain rfl : k = m := by omega
      have hge : ¬ ((j : Int) + 3 < ((s.size : Nat) : Int)) := by have := HM.out; have := HJ.out; omega
      have HS := Lib.hid acc.str
      have hcv := HS.out
      go_wp2_with fail
      go_ret
      exact ⟨rfl, acc.2⟩
end Go.Proofs.Ytpnpmploaaenlaa.Wd
namespace Go.Proofs.Ytpnpmploaaenlaa.Wd
open Go.RowKit
set_option linter.unusedSimpArgs false
set_option linter.unusedVariables false

theorem wordN_lt' (x : Int) : wordN x < 4294967296 := by unfold wordN; omega
/-- The four bytes of a number's word, the highest first. -/
def b4 (x : Int) : List UInt8 := [UInt8.ofNat (wordN x / 16777216), UInt8.ofNat (wordN x / 65536), UInt8.ofNat (wordN x / 256), UInt8.ofNat (wordN x)]
def putL (z : Nat → Int) (k : Nat) : List UInt8 := (List.range k).flatMap fun j => b4 (z j)
theorem putL_succ (z : Nat → Int) (k : Nat) : putL z (k + 1) = putL z k ++ b4 (z k) := by
  unfold putL; rw [List.range_succ, List.flatMap_append]; simp
theorem putL_length (z : Nat → Int) (k : Nat) : (putL z k).length = 4 * k := by
  induction k with
  | zero => rfl
  | succ k ih => rw [putL_succ]; simp [ih, b4]; omega
set_option maxRecDepth 100000 in
set_option maxHeartbeats 4000000 in
theorem rputbig_any (a : Option Addr) (n cap : Nat) (z : Nat → Int) (w : World) (hn : n ≤ 10000) (hz : Ints w a n z) :
    Calls Try.prog 54 #[.slice a n cap] w fun e w' => e = .returned (.string ⟨(putL z n).toArray⟩) ∧ Mod (fun _ => False) w w' := by
  go_enter Try.func54, Try.ntmps54
  go_wp2_with fail
  go_loopw [3, 4] (fun v i wr => ∃ k : Nat, k ≤ n ∧ i = .int .i64 (k : Int) ∧ Acc w wr v (putL z k)) (fun _ i _ => n - (intOf i).toNat)
  case atStart => exact ⟨0, by omega, rfl, Acc.nil _⟩
  case round =>
    obtain ⟨k, hk, rfl, acc⟩ := hrel
    by_cases hlt : k < n
    · have hi0 : (0 : Int) ≤ (k : Int) := by omega
      have hlt2 : (k : Int) < (n : Int) := by omega
      obtain ⟨b1, o1, rfl, c1⟩ := (hz.kept acc.2) k hlt
      have HL := Lib.hid (putL_succ z k)
      have HN := Lib.hid (putL_length z k)
      have HZ := Lib.hid hz
      clear hz
      go_wp2_with fail
      refine (word_any _ _).mono ?_
      rintro e w2 ⟨rfl, rfl⟩
      have hx := wordN_lt' (z k)
      have HX : Hid (z k % 4294967296 = (wordN (z k) : Int)) := by
        show _ = _
        unfold wordN; omega
      rw [HX.out]
      clear c1
      generalize hX : wordN (z k) = X at *
      have HB : Hid (b4 (z k) = [UInt8.ofNat (X / 16777216), UInt8.ofNat (X / 65536), UInt8.ofNat (X / 256), UInt8.ofNat X]) := by rw [← hX]; rfl
      go_wp2_with (at_builtin; refine wpList_push rfl (.tmp 17) (.tmp 21) rfl rfl rfl acc ?hl (UInt8.ofNat (X / 16777216)) _ ?c1 rfl ?_)
      case c1 => simp only [UInt8.toNat_ofNat', i64_and255, IntKind.wrap_u8]; first | done | omega
      case hl =>
        try simp only [List.length_append, List.length_cons, List.length_nil]
        have := HN.out; omega
      clear acc
      intro v0 w0 acc
      go_wp2_with (at_builtin; refine wpList_push rfl (.tmp 23) (.tmp 28) rfl rfl rfl acc ?hl (UInt8.ofNat (X / 65536)) _ ?c1 rfl ?_)
      case c1 => simp only [UInt8.toNat_ofNat', i64_and255, IntKind.wrap_u8]; first | done | omega
      case hl =>
        try simp only [List.length_append, List.length_cons, List.length_nil]
        have := HN.out; omega
      clear acc
      intro v1 w1 acc
      go_wp2_with (at_builtin; refine wpList_push rfl (.tmp 30) (.tmp 35) rfl rfl rfl acc ?hl (UInt8.ofNat (X / 256)) _ ?c1 rfl ?_)
      case c1 => simp only [UInt8.toNat_ofNat', i64_and255, IntKind.wrap_u8]; first | done | omega
      case hl =>
        try simp only [List.length_append, List.length_cons, List.length_nil]
        have := HN.out; omega
      clear acc
      intro v2 w2 acc
      go_wp2_with (at_builtin; refine wpList_push rfl (.tmp 37) (.tmp 41) rfl rfl rfl acc ?hl (UInt8.ofNat (X)) _ ?c1 rfl ?_)
      case c1 => simp only [UInt8.toNat_ofNat', i64_and255, IntKind.wrap_u8]; first | done | omega
      case hl =>
        try simp only [List.length_append, List.length_cons, List.length_nil]
        have := HN.out; omega
      clear acc
      intro v3 w3 acc
      have acc2 : Acc w w3 v3 (putL z (k + 1)) := by
        rw [HL.out, HB.out]
        simpa using acc
      go_wp2_with fail
      go_roundw
      case rel => exact ⟨k + 1, by omega, by go_num, acc2⟩
      case measure => simp [intOf]; omega
    · obtain rfl : k = n := by omega
      have HS := Lib.hid acc.str
      have hcv := HS.out
      go_wp2_with fail
      go_ret
      exact ⟨rfl, acc.2⟩
end Go.Proofs.Ytpnpmploaaenlaa.Wd
