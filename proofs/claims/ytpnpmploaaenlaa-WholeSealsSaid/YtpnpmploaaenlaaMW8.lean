/- The library's strings.Builder, at a builder that the call has made. Write, WriteByte and String of a builder that the call has made. -/
import Derived.Test.YtpnpmploaaenlaaMW5
import Derived.Lib.Builder
import Derived.Test.YtpnpmploaaenlaaMShelf
import Derived.Lib.BufferWrite
namespace Go.Proofs.Ytpnpmploaaenlaa.Wd
open Go.RowKit
set_option linter.unusedSimpArgs false
set_option linter.unusedVariables false

theorem info47 : (Try.prog.info? 35).map (fun i => i.size) = some 2 := by kernel_rfl
theorem lies47 : liesAt Try.prog Try.prog.depth 35 (2 / Try.prog.cellsOf 35) 0 35 1 = true := by kernel_rfl
theorem copy_used (b : Nat) (w : World) (h0 : w.cell? ⟨b, 0, none⟩ = some (.pointer (some ⟨b, 0, none⟩))) :
    Calls Try.prog 36 #[.pointer (some ⟨b, 0, none⟩)] w fun e w' => e = .returned (.tuple #[]) ∧ w' = w := by
  obtain ⟨j, hj, _⟩ := Option.map_eq_some_iff.1 info47
  have hq := fun W => Lib.run_neq_ptr_same (P := Try.prog) W (⟨b, 0, none⟩ : Addr) Try.underlying32 hj
  go_enter Try.func36, Try.ntmps36
  go_wp2
  go_end0
  exact ⟨rfl, rfl⟩
theorem copy_fresh (b : Nat) (w : World) (h0 : w.cell? ⟨b, 0, none⟩ = some (.pointer none)) (hsh : w.shape? b = some (35, 2)) (hfz : w.frozen? ⟨b, 0, none⟩ = false) :
    Calls Try.prog 36 #[.pointer (some ⟨b, 0, none⟩)] w fun e w' => e = .returned (.tuple #[]) ∧ w' = w.setCell ⟨b, 0, none⟩ (.pointer (some ⟨b, 0, none⟩)) := by
  obtain ⟨j, hj, hjs⟩ := Option.map_eq_some_iff.1 info47
  have hto := Lib.run_to_unsafe w (P := Try.prog) ⟨b, 0, none⟩ Try.underlying32 Try.underlying87 hj (by rw [hjs]; decide) hsh (Nat.zero_lt_succ 1)
  have hfr := Lib.run_from_unsafe w (P := Try.prog) ⟨b, 0, none⟩ Try.underlying87 Try.underlying32 hj hsh lies47
  go_enter Try.func36, Try.ntmps36
  go_wp2
  rw [run_callFunc_extern Try.func66 (by kernel_rfl) (by kernel_rfl) (by kernel_rfl) (e := Extern.AbiNoEscape.same) (by kernel_rfl)]
  rw [Lib.run_noEscape]
  simp only [Result.andThen]
  rw [Oper.upon_value]
  go_wp2
  go_end0
  exact ⟨rfl, rfl⟩
/-- The call's own builder, in block b, its bytes l; nothing elder is touched. -/
def Bld (W w : World) (b : Nat) (l : List UInt8) : Prop := (∃ p, (p = .pointer none ∨ p = .pointer (some ⟨b, 0, none⟩)) ∧ Lib.BuilderAt 35 5 W.heap.size b p (Lib.byteCells l) w) ∧ Mod (fun _ => False) W w
def Used (W w : World) (b : Nat) (l : List UInt8) : Prop := Lib.BuilderAt 35 5 W.heap.size b (.pointer (some ⟨b, 0, none⟩)) (Lib.byteCells l) w ∧ Mod (fun _ => False) W w
theorem Used.bld {W w : World} {b : Nat} {l : List UInt8} (h : Used W w b l) : Bld W w b l := ⟨⟨_, .inr rfl, h.1⟩, h.2⟩
theorem bld_fresh (W : World) : Bld W (W.alloc (.cells #[.pointer none, .slice none 0 0] 35)) W.heap.size [] := by
  refine ⟨⟨_, .inl rfl, ?_⟩, (Mod.refl _ _).alloc _⟩
  rcases Lib.fresh_isBuilder 35 5 W with h | h
  · exact h
  · obtain ⟨_, v, hb, r⟩ := h
    refine ⟨Nat.le_refl _, .slice none 0 0, by show (W.heap.push _)[W.heap.size]? = _; simp, World.ownsRow_nil _ _ _ _, by simp [Value.ownBlock]⟩
theorem copy_any (W w : World) (b : Nat) (l : List UInt8) (h : Bld W w b l) :
    Calls Try.prog 36 #[.pointer (some ⟨b, 0, none⟩)] w fun e w' => e = .returned (.tuple #[]) ∧ Used W w' b l ∧ w.heap.size ≤ w'.heap.size ∧ ∀ k, k ≠ b → w'.heap[k]? = w.heap[k]? := by
  obtain ⟨⟨p, hp, hb⟩, hm⟩ := h
  rcases hp with rfl | rfl
  · refine (copy_fresh b w hb.cell0 hb.shape hb.frozen0).mono ?_
    rintro e w' ⟨rfl, rfl⟩
    exact ⟨rfl, ⟨hb.used _, hm.setCell (fun hlt => absurd hlt (Nat.not_lt.mpr hb.1)) _⟩, by simp [World.setCell], fun k hk => Below.heap_setCell _ _ _ _ (fun e => hk e)⟩
  · refine (copy_used b w hb.cell0).mono ?_
    rintro e w' ⟨rfl, rfl⟩
    exact ⟨rfl, ⟨hb, hm⟩, Nat.le_refl _, fun _ _ => rfl⟩
theorem Bld.mod {W w w' : World} {b : Nat} {l : List UInt8} (h : Bld W w b l) (m : Mod (fun _ => False) w w') : Bld W w' b l := by
  obtain ⟨⟨p, hp, hB, v, hb, own, hne⟩, hm⟩ := h
  exact ⟨⟨p, hp, hB, v, m.blk hb (fun e => e), own_mod m own (fun _ _ e => e), hne⟩, hm.tr m⟩
theorem ne47 : (35 : TypeId) ≠ 5 := by decide
/-- The builder's row grown by bytes: what a write stores. -/
theorem used_put {W w w2 : World} {b : Nat} {l : List UInt8} {v v' : Value} (hB : W.heap.size ≤ b) (hm : Mod (fun _ => False) W w) (hbk : w.heap[b]? = some (.cells #[.pointer (some ⟨b, 0, none⟩), v] 35 (0, 0)))
    (hown : w.ownsRow W.heap.size 5 1 v l.length (Lib.byteCells l)) (hne : v.ownBlock ≠ some b) {o : Option Obj} {w1 : World} (hw1 : Mod (fun _ => False) w w1) (hgrow : w1.grownBy w2 v.ownBlock) (l' : List UInt8)
    (hown' : w2.ownsRow W.heap.size 5 1 v' l'.length (Lib.byteCells l')) :
    w2.heap[b]? = some (.cells #[.pointer (some ⟨b, 0, none⟩), v] 35 (0, 0)) ∧ Used W (w2.setCell ⟨b, 1, none⟩ v') b l' := by
  have h1 := hw1.blk hbk (fun e => e)
  have hb2 : w2.heap[b]? = some (.cells #[.pointer (some ⟨b, 0, none⟩), v] 35 (0, 0)) := (hgrow.block b (lt_of_block h1) (fun e => hne e.symm)).trans h1
  refine ⟨hb2, ?_, ?_⟩
  · have := Lib.BuilderAt.put (T := 35) (e := 5) hB hb2 (bs' := Lib.byteCells l') (v' := v') (by rw [Lib.byteCells_length]; exact hown') ne47
    exact this
  · exact (own_grown (hm.tr hw1) (own_mod hw1 hown (fun _ _ e => e)) hgrow).setCell (fun hlt => absurd hlt (Nat.not_lt.mpr hB)) _
end Go.Proofs.Ytpnpmploaaenlaa.Wd
namespace Go.Proofs.Ytpnpmploaaenlaa.Wd
open Go.RowKit
set_option linter.unusedSimpArgs false
set_option linter.unusedVariables false

theorem string_any (W w : World) (b : Nat) (l : List UInt8) (h : Bld W w b l) :
    Calls Try.prog 20 #[.pointer (some ⟨b, 0, none⟩)] w fun e w' => e = .returned (.string ⟨l.toArray⟩) ∧ Mod (fun _ => False) W w' := by
  obtain ⟨⟨p, hp, hb⟩, hm⟩ := h
  have hI : Lib.IsBuilder 35 5 W.heap.size b (Lib.byteCells l) w := by
    rcases hp with rfl | rfl
    · exact .inl hb
    · exact .inr hb
  refine (Try.Builder_String_any W.heap.size b l w hI hm.size).mono ?_
  rintro e w' ⟨rfl, h2⟩
  exact ⟨rfl, h2.os.trans hm.os, h2.tape.trans hm.tape, h2.output.trans hm.output, Nat.le_trans hm.size h2.size, fun k hk hs => (h2.block k hk).trans (hm.block k hk hs)⟩
set_option maxHeartbeats 2000000 in
theorem write_any (W w : World) (b : Nat) (l : List UInt8) (h : Bld W w b l) (q : List UInt8) (g0 : Nat) (n cap : Nat) (hn : q.length = n) (had : g0 ≠ b) (hcells : ∀ j u, (Lib.byteCells q)[j]? = some u → w.cell? ((⟨g0, 0, none⟩ : Addr).add j) = some u) (hq : n ≤ 1000000) (hl : l.length ≤ 1000000) (hq0 : 0 < n) :
    Calls Try.prog 70 #[.pointer (some ⟨b, 0, none⟩), .slice (some ⟨g0, 0, none⟩) n cap] w fun e w' => (∃ v, e = .returned v) ∧ Used W w' b (l ++ q) := by
  obtain ⟨i0, hi, hz0, hz1, hz2⟩ := info_parts info5
  have HC := Lib.hid hcells
  have HQ := Lib.hid hn
  clear hcells hn
  go_enter Try.func70, Try.ntmps70
  go_wp2_with fail
  refine (copy_any W _ b l h).mono ?_
  rintro e w1 ⟨rfl, ⟨⟨hB, v, hbk, hown, hne⟩, hm⟩, hsz, hkp⟩
  rw [Lib.byteCells_length] at hown
  have HC1 : Hid (∀ j u, (Lib.byteCells q)[j]? = some u → w1.cell? ((⟨g0, 0, none⟩ : Addr).add j) = some u) := by
    show ∀ j u, _
    intro j u hj
    rw [← HC.out j u hj]
    exact World.cell?_of_block (a := (⟨g0, 0, none⟩ : Addr).add j) (by simp only [Addr.add]; split <;> exact hkp g0 had)
  clear hkp hsz
  have c0 : w1.cell? ⟨b, 0, none⟩ = some (.pointer (some ⟨b, 0, none⟩)) := by rw [Lib.cell_of_heap hbk]; rfl
  have c1 : w1.cell? ⟨b, 1, none⟩ = some v := by rw [Lib.cell_of_heap hbk]; rfl
  have hw := hm.size
  go_wp2_with (at_builtin; refine wpList_append_own _ rfl _ _ 33 rfl W.heap.size 5 i0 (.int .u8 0) 1 1 Try.underlying33 hi hz0 hz1 hz2 rfl (by decide) _ _ _ rfl hown ⟨g0, 0, none⟩ n cap (Lib.byteCells q) rfl ?c0 HC1.out (Lib.byteCells_one _) ?c3 ?c4 ?c5 ?_)
  case c0 => rw [Lib.byteCells_length, HQ.out, Nat.mul_one]
  case c3 => unfold maxLen; omega
  case c4 => omega
  case c5 => exact hw
  intro v' w2 hown' hgrow _
  obtain ⟨hb2, hU⟩ := used_put (o := none) hB hm hbk hown hne (Mod.refl _ _) hgrow (l ++ q) (v' := v') (by rw [Lib.byteCells_append, List.length_append, HQ.out]; exact hown')
  have d0 : w2.cell? ⟨b, 0, none⟩ = some (.pointer (some ⟨b, 0, none⟩)) := by rw [Lib.cell_of_heap hb2]; rfl
  have d1 : w2.cell? ⟨b, 1, none⟩ = some v := by rw [Lib.cell_of_heap hb2]; rfl
  have f1 : w2.frozen? ⟨b, 1, none⟩ = false := Lib.frozen_of_heap hb2 1
  obtain ⟨g, cap, rfl⟩ : ∃ g cap, v' = .slice (some ⟨g, 0, none⟩) (l.length + n) cap := by
    rcases hown'.2 with ⟨_, h0⟩ | ⟨g, cap, cur, hv, _⟩
    · omega
    · exact ⟨g, cap, hv⟩
  go_wp2
  go_ret2
  exact ⟨⟨_, rfl⟩, hU⟩
end Go.Proofs.Ytpnpmploaaenlaa.Wd
