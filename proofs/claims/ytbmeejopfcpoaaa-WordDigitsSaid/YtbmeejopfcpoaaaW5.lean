/- A row of bytes that the call builds up. -/
import Derived.Test.YtbmeejopfcpoaaaW4
import Derived.Lib.BufferRead
namespace Go.Proofs.Ytbmeejopfcpoaaa
open Go.RowKit
set_option linter.unusedSimpArgs false
set_option linter.unusedVariables false

theorem info5 : (Try.prog.info? 5).map (fun i => (i.zero, i.size, i.bytes)) = some (some (.int .u8 0), 1, 1) := by kernel_rfl
/-- v is the call's own row, its bytes l; nothing elder is touched. -/
def Acc (W w : World) (v : Value) (l : List UInt8) : Prop := w.ownsRow W.heap.size 5 1 v l.length (Lib.byteCells l) ∧ Mod (fun _ => False) W w
theorem Acc.nil (W : World) : Acc W W (.slice none 0 0) [] := ⟨World.ownsRow_nil _ _ _ _, Mod.refl _ _⟩
theorem Acc.drew {W w : World} {v : Value} {l : List UInt8} (h : Acc W w v l) : Acc W w.drew v l := ⟨h.1, h.2.drew⟩
theorem Acc.mod {W w w' : World} {v : Value} {l : List UInt8} (h : Acc W w v l) (m : Mod (fun _ => False) w w') : Acc W w' v l := ⟨own_mod m h.1 (fun _ _ e => e), h.2.tr m⟩
theorem acc_push {W w : World} {v : Value} {l : List UInt8} (h : Acc W w v l) (hl : l.length ≤ 1000000) (b : UInt8) (c : Int) (hc : c = (b.toNat : Int)) (w1 : World) (hw1 : w1 = w.alloc (.cells #[.int .u8 c] 5) ∨ w1 = (w.alloc (.cells #[.int .u8 c] 5)).drew) :
    ∃ v' w', (Builtin.append_ #[44, 44] 44 #[v, .slice (some ⟨w.heap.size, 0, none⟩) 1 1]).run Try.prog w1 = .ok v' w' ∧ Acc W w' v' (l ++ [b]) := by
  obtain ⟨i0, hi, hz0, hz1, hz2⟩ := info_parts info5
  subst hc
  have own1 : w1.ownsRow W.heap.size 5 1 v l.length (Lib.byteCells l) := by
    rcases hw1 with rfl | rfl
    · exact h.1.alloc _
    · exact h.1.alloc (w := w) _
  have m1 : Mod (fun _ => False) W w1 := by
    rcases hw1 with rfl | rfl
    · exact h.2.alloc _
    · exact (h.2.alloc _).drew
  have c1 : w1.cell? ⟨w.heap.size, 0, none⟩ = some (.int .u8 (b.toNat : Int)) := by
    rcases hw1 with rfl | rfl
    · exact cell_new w _ _ _ _ rfl
    · exact cell_new w _ _ _ _ rfl
  have hs := m1.size
  obtain ⟨v', w3, hrun, hown, hgrow, _⟩ := run_append_own (P := Try.prog) (w := w1) W.heap.size 44 44 5 i0 (.int .u8 0) 1 1 Try.underlying44 hi hz0 hz1 hz2 rfl (by decide) _ _ _ own1 ⟨w.heap.size, 0, none⟩ 1 1 [.int .u8 (b.toNat : Int)] rfl
    (by intro j u hj
        match j, hj with
        | 0, hj => simp at hj; subst hj; exact c1) (by intro u hu; simp at hu; subst hu; rfl) (by unfold maxLen; omega) (by omega) hs
  refine ⟨v', w3, hrun, ?_, own_grown m1 own1 hgrow⟩
  rw [Lib.byteCells_append, List.length_append]
  exact hown
theorem wpList_push {W w : World} {ops : Array Oper} {rest : List Oper} {o : Oper} {a : Act} {Q : Exit → Act → World → Prop} (hgd : o.guard = none) (s x : Operand) (hty : o.type = 44)
    (ho : o.op = .call { callee := .builtin .append, args := #[s, x], argTypes := #[44, 44] }) {v : Value} {l : List UInt8} (hs : a.eval s = v) (h : Acc W w v l) (hl : l.length ≤ 1000000) (b : UInt8) (c : Int) (hc : c = (b.toNat : Int))
    (hx : a.eval x = .slice (some ⟨w.heap.size, 0, none⟩) 1 1)
    (hk : ∀ v' w', Acc W w' v' (l ++ [b]) → wpList Try.prog ops Q rest (a.put o.dst v') w') : wpList Try.prog ops Q (o :: rest) a (w.alloc (.cells #[.int .u8 c] 5)) := by
  obtain ⟨v', w', hrun, hA⟩ := acc_push h hl b c hc _ (.inl rfl)
  refine wpList_plain hgd fun K hK => ?_
  unfold Oper.wp execOp
  simp only [ho, hty, resolve, invoke, builtin, Sem.run_bind, Sem.run_pure, Result.andThen_ok, List.map_toArray, List.map_cons, List.map_nil, hs, hx, hrun]
  exact hK _ _ (hk v' w' hA)
theorem Acc.str {W w : World} {v : Value} {l : List UInt8} (h : Acc W w v l) : (convert 44 9 v).run Try.prog w = .ok (.string ⟨l.toArray⟩) w := by
  rcases h.1.2 with ⟨hv, hn⟩ | ⟨g, cap, cur, hv, hg, hh, hc1, hc2, hsz, htk⟩
  · obtain rfl : l = [] := List.eq_nil_of_length_eq_zero hn
    subst hv
    exact Lib.run_convert_nil_bytes w 44 9 5 0 Try.underlying44 Try.underlying5 Try.underlying9
  · subst hv
    exact run_convert_bytes_back w 44 9 5 ⟨g, 0, none⟩ cap l Try.underlying44 Try.underlying5 Try.underlying9 (Lib.bytes_of_row hh (by simpa using htk))
end Go.Proofs.Ytbmeejopfcpoaaa
