/- The library's strings.Builder, at a builder that the call has made. -/
import Derived.Test.YtbmeejopfcpoaaaW5
import Derived.Lib.Builder
import Derived.Test.YtbmeejopfcpoaaaShelf
namespace Go.Proofs.Ytbmeejopfcpoaaa
open Go.RowKit
set_option linter.unusedSimpArgs false
set_option linter.unusedVariables false

theorem info47 : (Try.prog.info? 47).map (fun i => i.size) = some 2 := by kernel_rfl
theorem lies47 : liesAt Try.prog Try.prog.depth 47 (2 / Try.prog.cellsOf 47) 0 47 1 = true := by kernel_rfl
theorem copy_used (b : Nat) (w : World) (h0 : w.cell? ⟨b, 0, none⟩ = some (.pointer (some ⟨b, 0, none⟩))) :
    Calls Try.prog 42 #[.pointer (some ⟨b, 0, none⟩)] w fun e w' => e = .returned (.tuple #[]) ∧ w' = w := by
  obtain ⟨j, hj, _⟩ := Option.map_eq_some_iff.1 info47
  have hq := fun W => Lib.run_neq_ptr_same (P := Try.prog) W (⟨b, 0, none⟩ : Addr) Try.underlying45 hj
  go_enter Try.func42, Try.ntmps42
  go_wp2
  go_end0
  exact ⟨rfl, rfl⟩
theorem copy_fresh (b : Nat) (w : World) (h0 : w.cell? ⟨b, 0, none⟩ = some (.pointer none)) (hsh : w.shape? b = some (47, 2)) (hfz : w.frozen? ⟨b, 0, none⟩ = false) :
    Calls Try.prog 42 #[.pointer (some ⟨b, 0, none⟩)] w fun e w' => e = .returned (.tuple #[]) ∧ w' = w.setCell ⟨b, 0, none⟩ (.pointer (some ⟨b, 0, none⟩)) := by
  obtain ⟨j, hj, hjs⟩ := Option.map_eq_some_iff.1 info47
  have hto := Lib.run_to_unsafe w (P := Try.prog) ⟨b, 0, none⟩ Try.underlying45 Try.underlying60 hj (by rw [hjs]; decide) hsh (Nat.zero_lt_succ 1)
  have hfr := Lib.run_from_unsafe w (P := Try.prog) ⟨b, 0, none⟩ Try.underlying60 Try.underlying45 hj hsh lies47
  go_enter Try.func42, Try.ntmps42
  go_wp2
  rw [run_callFunc_extern Try.func44 (by kernel_rfl) (by kernel_rfl) (by kernel_rfl) (e := Extern.AbiNoEscape.same) (by kernel_rfl)]
  rw [Lib.run_noEscape]
  simp only [Result.andThen]
  rw [Oper.upon_value]
  go_wp2
  go_end0
  exact ⟨rfl, rfl⟩
/-- The call's own builder, in block b, its bytes l; nothing elder is touched. -/
def Bld (W w : World) (b : Nat) (l : List UInt8) : Prop := (∃ p, (p = .pointer none ∨ p = .pointer (some ⟨b, 0, none⟩)) ∧ Lib.BuilderAt 47 5 W.heap.size b p (Lib.byteCells l) w) ∧ Mod (fun _ => False) W w
def Used (W w : World) (b : Nat) (l : List UInt8) : Prop := Lib.BuilderAt 47 5 W.heap.size b (.pointer (some ⟨b, 0, none⟩)) (Lib.byteCells l) w ∧ Mod (fun _ => False) W w
theorem Used.bld {W w : World} {b : Nat} {l : List UInt8} (h : Used W w b l) : Bld W w b l := ⟨⟨_, .inr rfl, h.1⟩, h.2⟩
theorem bld_fresh (W : World) : Bld W (W.alloc (.cells #[.pointer none, .slice none 0 0] 47)) W.heap.size [] := by
  refine ⟨⟨_, .inl rfl, ?_⟩, (Mod.refl _ _).alloc _⟩
  rcases Lib.fresh_isBuilder 47 5 W with h | h
  · exact h
  · obtain ⟨_, v, hb, r⟩ := h
    refine ⟨Nat.le_refl _, .slice none 0 0, by show (W.heap.push _)[W.heap.size]? = _; simp, World.ownsRow_nil _ _ _ _, by simp [Value.ownBlock]⟩
theorem copy_any (W w : World) (b : Nat) (l : List UInt8) (h : Bld W w b l) :
    Calls Try.prog 42 #[.pointer (some ⟨b, 0, none⟩)] w fun e w' => e = .returned (.tuple #[]) ∧ Used W w' b l ∧ w.heap.size ≤ w'.heap.size ∧ ∀ k, k ≠ b → w'.heap[k]? = w.heap[k]? := by
  obtain ⟨⟨p, hp, hb⟩, hm⟩ := h
  rcases hp with rfl | rfl
  · refine (copy_fresh b w hb.cell0 hb.shape hb.frozen0).mono ?_
    rintro e w' ⟨rfl, rfl⟩
    exact ⟨rfl, ⟨hb.used _, hm.setCell (fun hlt => absurd hlt (Nat.not_lt.mpr hb.1)) _⟩, by simp [World.setCell], fun k hk => Below.heap_setCell _ _ _ _ (fun e => hk e)⟩
  · refine (copy_used b w hb.cell0).mono ?_
    rintro e w' ⟨rfl, rfl⟩
    exact ⟨rfl, ⟨hb, hm⟩, Nat.le_refl _, fun _ _ => rfl⟩
theorem Bld.mod {W w w' : World} {b : Nat} {l : List UInt8} (h : Bld W w b l) (m : Mod (fun _ => False) w w') : Bld W w' b l := by
  obtain ⟨⟨p, hp, hB, v, hb, own, hne⟩, hm⟩ := h
  exact ⟨⟨p, hp, hB, v, m.blk hb (fun e => e), own_mod m own (fun _ _ e => e), hne⟩, hm.tr m⟩
theorem ne47 : (47 : TypeId) ≠ 5 := by decide
/-- The builder's row grown by bytes: what a write stores. -/
theorem used_put {W w w2 : World} {b : Nat} {l : List UInt8} {v v' : Value} (hB : W.heap.size ≤ b) (hm : Mod (fun _ => False) W w) (hbk : w.heap[b]? = some (.cells #[.pointer (some ⟨b, 0, none⟩), v] 47 (0, 0)))
    (hown : w.ownsRow W.heap.size 5 1 v l.length (Lib.byteCells l)) (hne : v.ownBlock ≠ some b) {o : Option Obj} {w1 : World} (hw1 : Mod (fun _ => False) w w1) (hgrow : w1.grownBy w2 v.ownBlock) (l' : List UInt8)
    (hown' : w2.ownsRow W.heap.size 5 1 v' l'.length (Lib.byteCells l')) :
    w2.heap[b]? = some (.cells #[.pointer (some ⟨b, 0, none⟩), v] 47 (0, 0)) ∧ Used W (w2.setCell ⟨b, 1, none⟩ v') b l' := by
  have h1 := hw1.blk hbk (fun e => e)
  have hb2 : w2.heap[b]? = some (.cells #[.pointer (some ⟨b, 0, none⟩), v] 47 (0, 0)) := (hgrow.block b (lt_of_block h1) (fun e => hne e.symm)).trans h1
  refine ⟨hb2, ?_, ?_⟩
  · have := Lib.BuilderAt.put (T := 47) (e := 5) hB hb2 (bs' := Lib.byteCells l') (v' := v') (by rw [Lib.byteCells_length]; exact hown') ne47
    exact this
  · exact (own_grown (hm.tr hw1) (own_mod hw1 hown (fun _ _ e => e)) hgrow).setCell (fun hlt => absurd hlt (Nat.not_lt.mpr hB)) _
end Go.Proofs.Ytbmeejopfcpoaaa
