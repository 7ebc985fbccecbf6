/- The digits of bytes; rows that a call builds up: the walk. -/
import Derived.Test.YtfmfopbcgohdgaaQ5
namespace Go.Proofs.Ytfmfopbcgohdgaa
open Go.RowKit
set_option linter.unusedSimpArgs false
set_option linter.unusedVariables false

theorem own_ge {w : World} {base size n : Nat} {e : TypeId} {v : Value} {xs : List Value} (h : w.ownsRow base e size v n xs) (k : Nat) (hk : some k = v.ownBlock) : base ≤ k := by
  rcases h.2 with ⟨h2, _⟩ | ⟨g, cap, cur, hv, hg, _⟩
  · subst h2; simp [Value.ownBlock] at hk
  · subst hv; simp [Value.ownBlock] at hk; omega
theorem own_grown {W w2 w3 : World} {size n : Nat} {e : TypeId} {v : Value} {xs : List Value} (hm : Mod (fun _ => False) W w2) (own : w2.ownsRow W.heap.size e size v n xs) (g : w2.grownBy w3 v.ownBlock) : Mod (fun _ => False) W w3 :=
  hm.new (S := fun k => some k = v.ownBlock) ⟨g.os, g.tape, g.output, g.size, fun k hk hs => g.block k hk hs⟩ (fun i e => own_ge own i e)
theorem own_mod {S : Nat → Prop} {w w' : World} {base size n : Nat} {e : TypeId} {v : Value} {xs : List Value} (m : Mod S w w') (h : w.ownsRow base e size v n xs) (hs : ∀ g, base ≤ g → S g → False) : w'.ownsRow base e size v n xs := by
  obtain ⟨h1, h2⟩ := h
  refine ⟨h1, ?_⟩
  rcases h2 with h2 | ⟨g, cap, cur, hv, hg, hh, r⟩
  · exact .inl h2
  · exact .inr ⟨g, cap, cur, hv, hg, m.blk hh (fun s => hs g hg s), r⟩
theorem own_form {w : World} {base size n : Nat} {e : TypeId} {v : Value} {xs : List Value} (h : w.ownsRow base e size v n xs) : ∃ a cap, v = .slice a n cap := by
  rcases h.2 with ⟨h2, hn⟩ | ⟨g, cap, cur, hv, _⟩
  · subst hn; exact ⟨_, _, h2⟩
  · exact ⟨_, _, hv⟩
theorem info5 : (Try.prog.info? 5).map (fun i => (i.zero, i.size, i.bytes)) = some (some (.int .u8 0), 1, 1) := by kernel_rfl
/-- v is the call's own row, its bytes l; nothing elder is touched. -/
def Acc (W w : World) (v : Value) (l : List UInt8) : Prop := w.ownsRow W.heap.size 5 1 v l.length (Lib.byteCells l) ∧ Mod (fun _ => False) W w
theorem Acc.nil (W : World) : Acc W W (.slice none 0 0) [] := ⟨World.ownsRow_nil _ _ _ _, Mod.refl _ _⟩
theorem Acc.drew {W w : World} {v : Value} {l : List UInt8} (h : Acc W w v l) : Acc W w.drew v l := ⟨h.1, h.2.drew⟩
theorem Acc.mod {W w w' : World} {v : Value} {l : List UInt8} (h : Acc W w v l) (m : Mod (fun _ => False) w w') : Acc W w' v l := ⟨own_mod m h.1 (fun _ _ e => e), h.2.tr m⟩
theorem acc_push {W w : World} {v : Value} {l : List UInt8} (h : Acc W w v l) (hl : l.length ≤ 1000000) (b : UInt8) (c : Int) (hc : c = (b.toNat : Int)) (w1 : World) (hw1 : w1 = w.alloc (.cells #[.int .u8 c] 5) ∨ w1 = (w.alloc (.cells #[.int .u8 c] 5)).drew) :
    ∃ v' w', (Builtin.append_ #[29, 29] 29 #[v, .slice (some ⟨w.heap.size, 0, none⟩) 1 1]).run Try.prog w1 = .ok v' w' ∧ Acc W w' v' (l ++ [b]) := by
  obtain ⟨i0, hi, hz0, hz1, hz2⟩ := info_parts info5
  subst hc
  have own1 : w1.ownsRow W.heap.size 5 1 v l.length (Lib.byteCells l) := by
    rcases hw1 with rfl | rfl
    · exact h.1.alloc _
    · exact h.1.alloc (w := w) _
  have m1 : Mod (fun _ => False) W w1 := by
    rcases hw1 with rfl | rfl
    · exact h.2.alloc _
    · exact (h.2.alloc _).drew
  have c1 : w1.cell? ⟨w.heap.size, 0, none⟩ = some (.int .u8 (b.toNat : Int)) := by
    rcases hw1 with rfl | rfl
    · exact cell_new w _ _ _ _ rfl
    · exact cell_new w _ _ _ _ rfl
  have hs := m1.size
  obtain ⟨v', w3, hrun, hown, hgrow, _⟩ := run_append_own (P := Try.prog) (w := w1) W.heap.size 29 29 5 i0 (.int .u8 0) 1 1 Try.underlying29 hi hz0 hz1 hz2 rfl (by decide) _ _ _ own1 ⟨w.heap.size, 0, none⟩ 1 1 [.int .u8 (b.toNat : Int)] rfl
    (by intro j u hj
        match j, hj with
        | 0, hj => simp at hj; subst hj; exact c1) (by intro u hu; simp at hu; subst hu; rfl) (by unfold maxLen; omega) (by omega) hs
  refine ⟨v', w3, hrun, ?_, own_grown m1 own1 hgrow⟩
  rw [Lib.byteCells_append, List.length_append]
  exact hown
theorem wpList_push {W w : World} {ops : Array Oper} {rest : List Oper} {o : Oper} {a : Act} {Q : Exit → Act → World → Prop} (hgd : o.guard = none) (s x : Operand) (hty : o.type = 29)
    (ho : o.op = .call { callee := .builtin .append, args := #[s, x], argTypes := #[29, 29] }) {v : Value} {l : List UInt8} (hs : a.eval s = v) (h : Acc W w v l) (hl : l.length ≤ 1000000) (b : UInt8) (c : Int) (hc : c = (b.toNat : Int))
    (hx : a.eval x = .slice (some ⟨w.heap.size, 0, none⟩) 1 1)
    (hk : ∀ v' w', Acc W w' v' (l ++ [b]) → wpList Try.prog ops Q rest (a.put o.dst v') w') : wpList Try.prog ops Q (o :: rest) a (w.alloc (.cells #[.int .u8 c] 5)) := by
  obtain ⟨v', w', hrun, hA⟩ := acc_push h hl b c hc _ (.inl rfl)
  refine wpList_plain hgd fun K hK => ?_
  unfold Oper.wp execOp
  simp only [ho, hty, resolve, invoke, builtin, Sem.run_bind, Sem.run_pure, Result.andThen_ok, List.map_toArray, List.map_cons, List.map_nil, hs, hx, hrun]
  exact hK _ _ (hk v' w' hA)
theorem Acc.str {W w : World} {v : Value} {l : List UInt8} (h : Acc W w v l) : (convert 29 9 v).run Try.prog w = .ok (.string ⟨l.toArray⟩) w := by
  rcases h.1.2 with ⟨hv, hn⟩ | ⟨g, cap, cur, hv, hg, hh, hc1, hc2, hsz, htk⟩
  · obtain rfl : l = [] := List.eq_nil_of_length_eq_zero hn
    subst hv
    exact Lib.run_convert_nil_bytes w 29 9 5 0 Try.underlying29 Try.underlying5 Try.underlying9
  · subst hv
    exact run_convert_bytes_back w 29 9 5 ⟨g, 0, none⟩ cap l Try.underlying29 Try.underlying5 Try.underlying9 (Lib.bytes_of_row hh (by simpa using htk))

def dgL (s : ByteArray) (k : Nat) : List Value := (List.range k).map fun j => .int .i64 ((byteAt s j : Nat) : Int)
theorem dgL_succ (s : ByteArray) (k : Nat) : dgL s (k + 1) = dgL s k ++ [.int .i64 ((byteAt s k : Nat) : Int)] := by
  unfold dgL; rw [List.range_succ]; simp
theorem own_dg {w : World} {base n cap : Nat} {a : Option Addr} {xs : List Value} (h : w.ownsRow base 3 1 (.slice a n cap) n xs) (hn : 0 < n) : ∃ g, a = some ⟨g, 0, none⟩ ∧ base ≤ g ∧ ∀ k v, k < n → xs[k]? = some v → w.cell? ⟨g, k, none⟩ = some v := by
  rcases h.2 with ⟨h2, hn'⟩ | ⟨g, cap', cur, hv, hg, hh, hc1, hc2, hsz, htk⟩
  · omega
  · simp at hv
    obtain ⟨rfl, rfl⟩ := hv
    refine ⟨g, rfl, hg, fun k v hk hv => ?_⟩
    refine blk_cell hh ?_
    have h3 : (cur.toList.take (n * 1))[k]? = some v := by rw [htk]; exact hv
    rw [List.getElem?_take, if_pos (by omega)] at h3
    simpa using h3
theorem dgL_dg {w : World} {base n cap : Nat} {a : Option Addr} {s : ByteArray} (h : w.ownsRow base 3 1 (.slice a n cap) n (dgL s n)) (hn : 0 < n) : ∃ g, a = some ⟨g, 0, none⟩ ∧ base ≤ g ∧ Dg w g n (byteAt s) := by
  obtain ⟨g, e, hg, hc⟩ := own_dg h hn
  refine ⟨g, e, hg, fun k hk => hc k _ hk ?_⟩
  unfold dgL
  rw [List.getElem?_map, List.getElem?_range hk]
  rfl
set_option maxRecDepth 100000 in
set_option maxHeartbeats 4000000 in
theorem digits_any (s : ByteArray) (w : World) (hs : s.size ≤ 100000) :
    Calls Try.prog 20 #[.string s] w fun e w' => ∃ v, e = .returned v ∧ w'.ownsRow w.heap.size 3 1 v s.size (dgL s s.size) ∧ Mod (fun _ => False) w w' := by
  obtain ⟨i0, hi, hz0, hz1, hz2⟩ := info_parts info3
  go_enter Try.func20, Try.ntmps20
  go_wp2_with fail
  go_loopw [3, 4] (fun v i wr => ∃ k : Nat, k ≤ s.size ∧ i = .int .i64 (k : Int) ∧ wr.ownsRow w.heap.size 3 1 v k (dgL s k) ∧ Mod (fun _ => False) w wr) (fun _ i _ => s.size - (intOf i).toNat)
  case atStart => exact ⟨0, by omega, rfl, World.ownsRow_nil _ _ _ _, Mod.refl _ _⟩
  case round =>
    obtain ⟨k, hk, rfl, own, hmr⟩ := hrel
    by_cases hlt : k < s.size
    · have hi0 : (0 : Int) ≤ (k : Int) := by omega
      have hi1 : (k : Int) < ((s.size : Nat) : Int) := by omega
      have hget : s[k].toNat = byteAt s k := byteAt_get s k hlt
      have HL := Lib.hid (dgL_succ s k)
      have hxb := byteAt_lt s k
      have hw2 := hmr.size
      generalize byteAt s k = x at *
      go_wp2_with (at_builtin; refine wpList_append_own _ rfl (.tmp 11) (.tmp 16) 40 rfl w.heap.size 3 i0 (.int .i64 0) 1 8 Try.underlying40 hi hz0 hz1 hz2 rfl (by decide) _ _ _ rfl (own.alloc _) ⟨wr.heap.size, 0, none⟩ 1 1 [.int .i64 (x : Int)] rfl rfl ?c1 ?c2 ?c3 ?c4 ?c5 ?_)
      case c1 =>
        intro j u hj
        match j, hj with
        | 0, hj => simp at hj; subst hj; simp [Addr.add]
      case c2 => intro u hu; simp at hu; subst hu; rfl
      case c3 => unfold maxLen; omega
      case c4 => omega
      case c5 => simp; omega
      intro v' w3 hown hgrow _
      have hm3 := own_grown (hmr.alloc _) (own.alloc (.cells #[.int .i64 (x : Int)] 3)) hgrow
      rw [← HL.out] at hown
      clear own hgrow hmr
      go_wp2_with fail
      go_roundw
      case rel => exact ⟨k + 1, by omega, by go_num, hown, hm3⟩
      case measure => simp [intOf]; omega
    · obtain rfl : k = s.size := by omega
      have HO := Lib.hid own
      clear own
      go_wp2_with fail
      go_ret
      exact ⟨_, rfl, HO.out, hmr⟩
theorem digits_dg (s : ByteArray) (w : World) (hs : s.size ≤ 100000) (h0 : 0 < s.size) :
    Calls Try.prog 20 #[.string s] w fun e w' => (∃ g c, e = .returned (.slice (some ⟨g, 0, none⟩) s.size c) ∧ Dg w' g s.size (byteAt s)) ∧ Mod (fun _ => False) w w' := by
  refine (digits_any s w hs).mono ?_
  rintro e w' ⟨v, rfl, own, m⟩
  obtain ⟨a, c, rfl⟩ := own_form own
  obtain ⟨g, rfl, _, hd⟩ := dgL_dg own h0
  exact ⟨⟨g, c, rfl, hd⟩, m⟩
end Go.Proofs.Ytfmfopbcgohdgaa
