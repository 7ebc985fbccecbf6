/- Write, WriteByte and String of a builder that the call has made. -/
import Derived.Test.YtbmeejopfcpoaaaW8
import Derived.Lib.BufferWrite
namespace Go.Proofs.Ytbmeejopfcpoaaa
open Go.RowKit
set_option linter.unusedSimpArgs false
set_option linter.unusedVariables false

theorem string_any (W w : World) (b : Nat) (l : List UInt8) (h : Bld W w b l) :
    Calls Try.prog 37 #[.pointer (some ⟨b, 0, none⟩)] w fun e w' => e = .returned (.string ⟨l.toArray⟩) ∧ Mod (fun _ => False) W w' := by
  obtain ⟨⟨p, hp, hb⟩, hm⟩ := h
  have hI : Lib.IsBuilder 47 5 W.heap.size b (Lib.byteCells l) w := by
    rcases hp with rfl | rfl
    · exact .inl hb
    · exact .inr hb
  refine (Try.Builder_String_any W.heap.size b l w hI hm.size).mono ?_
  rintro e w' ⟨rfl, h2⟩
  exact ⟨rfl, h2.os.trans hm.os, h2.tape.trans hm.tape, h2.output.trans hm.output, Nat.le_trans hm.size h2.size, fun k hk hs => (h2.block k hk).trans (hm.block k hk hs)⟩
set_option maxHeartbeats 2000000 in
theorem wbyte_any (W w : World) (b : Nat) (l : List UInt8) (h : Bld W w b l) (x : UInt8) (c : Int) (hc : c = (x.toNat : Int)) (hl : l.length ≤ 1000000) :
    Calls Try.prog 36 #[.pointer (some ⟨b, 0, none⟩), .int .u8 c] w fun e w' => e = .returned .nilIface ∧ Used W w' b (l ++ [x]) := by
  obtain ⟨i0, hi, hz0, hz1, hz2⟩ := info_parts info5
  subst hc
  go_enter Try.func36, Try.ntmps36
  go_wp2_with fail
  refine (copy_any W _ b l h).mono ?_
  rintro e w1 ⟨rfl, ⟨⟨hB, v, hbk, hown, hne⟩, hm⟩, hsz, hkp⟩
  clear hkp hsz
  rw [Lib.byteCells_length] at hown
  have c0 : w1.cell? ⟨b, 0, none⟩ = some (.pointer (some ⟨b, 0, none⟩)) := by rw [Lib.cell_of_heap hbk]; rfl
  have c1 : w1.cell? ⟨b, 1, none⟩ = some v := by rw [Lib.cell_of_heap hbk]; rfl
  have hw := hm.size
  go_wp2_with (at_builtin; refine wpList_append_own _ rfl _ _ 44 rfl W.heap.size 5 i0 (.int .u8 0) 1 1 Try.underlying44 hi hz0 hz1 hz2 rfl (by decide) _ _ _ rfl (hown.alloc _) ⟨w1.heap.size, 0, none⟩ 1 1 [.int .u8 (x.toNat : Int)] rfl rfl ?c1 ?c2 ?c3 ?c4 ?c5 ?_)
  case c1 =>
    intro j u hj
    match j, hj with
    | 0, hj => simp at hj; subst hj; simp [Addr.add]
  case c2 => intro u hu; simp at hu; subst hu; rfl
  case c3 => unfold maxLen; omega
  case c4 => omega
  case c5 => simp; omega
  intro v' w2 hown' hgrow _
  obtain ⟨hb2, hU⟩ := used_put (o := none) hB hm hbk hown hne ((Mod.refl _ _).alloc _) hgrow (l ++ [x]) (v' := v') (by rw [Lib.byteCells_append, List.length_append]; exact hown')
  have d0 : w2.cell? ⟨b, 0, none⟩ = some (.pointer (some ⟨b, 0, none⟩)) := by rw [Lib.cell_of_heap hb2]; rfl
  have d1 : w2.cell? ⟨b, 1, none⟩ = some v := by rw [Lib.cell_of_heap hb2]; rfl
  have f1 : w2.frozen? ⟨b, 1, none⟩ = false := Lib.frozen_of_heap hb2 1
  obtain ⟨g, cap, rfl⟩ : ∃ g cap, v' = .slice (some ⟨g, 0, none⟩) (l.length + 1) cap := by
    rcases hown'.2 with ⟨_, h0⟩ | ⟨g, cap, cur, hv, _⟩
    · omega
    · exact ⟨g, cap, hv⟩
  go_wp2
  go_ret
  exact ⟨rfl, hU⟩
set_option maxHeartbeats 2000000 in
theorem write_any (W w : World) (b : Nat) (l : List UInt8) (h : Bld W w b l) (q : List UInt8) (g0 : Nat) (n cap : Nat) (hn : q.length = n) (had : g0 ≠ b) (hcells : ∀ j u, (Lib.byteCells q)[j]? = some u → w.cell? ((⟨g0, 0, none⟩ : Addr).add j) = some u) (hq : n ≤ 1000000) (hl : l.length ≤ 1000000) (hq0 : 0 < n) :
    Calls Try.prog 40 #[.pointer (some ⟨b, 0, none⟩), .slice (some ⟨g0, 0, none⟩) n cap] w fun e w' => (∃ v, e = .returned v) ∧ Used W w' b (l ++ q) := by
  obtain ⟨i0, hi, hz0, hz1, hz2⟩ := info_parts info5
  have HC := Lib.hid hcells
  have HQ := Lib.hid hn
  clear hcells hn
  go_enter Try.func40, Try.ntmps40
  go_wp2_with fail
  refine (copy_any W _ b l h).mono ?_
  rintro e w1 ⟨rfl, ⟨⟨hB, v, hbk, hown, hne⟩, hm⟩, hsz, hkp⟩
  rw [Lib.byteCells_length] at hown
  have HC1 : Hid (∀ j u, (Lib.byteCells q)[j]? = some u → w1.cell? ((⟨g0, 0, none⟩ : Addr).add j) = some u) := by
    show ∀ j u, _
    intro j u hj
    rw [← HC.out j u hj]
    exact World.cell?_of_block (a := (⟨g0, 0, none⟩ : Addr).add j) (by simp only [Addr.add]; split <;> exact hkp g0 had)
  clear hkp hsz
  have c0 : w1.cell? ⟨b, 0, none⟩ = some (.pointer (some ⟨b, 0, none⟩)) := by rw [Lib.cell_of_heap hbk]; rfl
  have c1 : w1.cell? ⟨b, 1, none⟩ = some v := by rw [Lib.cell_of_heap hbk]; rfl
  have hw := hm.size
  go_wp2_with (at_builtin; refine wpList_append_own _ rfl _ _ 44 rfl W.heap.size 5 i0 (.int .u8 0) 1 1 Try.underlying44 hi hz0 hz1 hz2 rfl (by decide) _ _ _ rfl hown ⟨g0, 0, none⟩ n cap (Lib.byteCells q) rfl ?c0 HC1.out (Lib.byteCells_one _) ?c3 ?c4 ?c5 ?_)
  case c0 => rw [Lib.byteCells_length, HQ.out, Nat.mul_one]
  case c3 => unfold maxLen; omega
  case c4 => omega
  case c5 => exact hw
  intro v' w2 hown' hgrow _
  obtain ⟨hb2, hU⟩ := used_put (o := none) hB hm hbk hown hne (Mod.refl _ _) hgrow (l ++ q) (v' := v') (by rw [Lib.byteCells_append, List.length_append, HQ.out]; exact hown')
  have d0 : w2.cell? ⟨b, 0, none⟩ = some (.pointer (some ⟨b, 0, none⟩)) := by rw [Lib.cell_of_heap hb2]; rfl
  have d1 : w2.cell? ⟨b, 1, none⟩ = some v := by rw [Lib.cell_of_heap hb2]; rfl
  have f1 : w2.frozen? ⟨b, 1, none⟩ = false := Lib.frozen_of_heap hb2 1
  obtain ⟨g, cap, rfl⟩ : ∃ g cap, v' = .slice (some ⟨g, 0, none⟩) (l.length + n) cap := by
    rcases hown'.2 with ⟨_, h0⟩ | ⟨g, cap, cur, hv, _⟩
    · omega
    · exact ⟨g, cap, hv⟩
  go_wp2
  go_ret2
  exact ⟨⟨_, rfl⟩, hU⟩
end Go.Proofs.Ytbmeejopfcpoaaa
