/- An argument that is a list of whole numbers: its cells. -/
import Derived.Test.YtbmeejopfcpoaaaW3
import Derived.ProofKit
namespace Go.Proofs.Ytbmeejopfcpoaaa
open Go.ChangeShapes Go.WideShapes Go.RowKit

theorem addr_add (b off i : Nat) : (Addr.add ⟨b, off, none⟩ i) = ⟨b, off + i, none⟩ := by
  unfold Addr.add
  split
  · subst_vars; rfl
  · rfl
theorem ints_of {H : Type} {enc : TypeId × Value → H} {W : World} {base : Nat} {spare : Nat → Bool} {held : Bool} {a : Option Addr} {n cap : Nat} {d : DataW H} {p : List MemPlace}
    (h : DataW.Trod enc Try.prog W base spare held 26 (.slice a n cap) d p) : n ≤ 9223372036854775807 ∧ ∃ z, Ints W a n z := by
  obtain ⟨fuel, hf⟩ := h
  rcases open_ints Try.underlying26 Try.underlying3 (by kernel_rfl) hf with ⟨hcs, _⟩ | ⟨a', len, cap', zs, hcs, _, hl, hm, hz, _, hc, _⟩
  · simp [Value.cells] at hcs
    obtain ⟨rfl, rfl, rfl⟩ := hcs
    exact ⟨by omega, fun _ => 0, fun k hk => by omega⟩
  · simp [Value.cells] at hcs
    obtain ⟨rfl, rfl, rfl⟩ := hcs
    have hle : n ≤ zs.length := by rw [hz]; split <;> omega
    refine ⟨by unfold maxLen at hm; omega, fun k => zs.getD k 0, fun k hk => ?_⟩
    have c := hc k (by omega)
    have c0 := hc 0 (by omega)
    obtain ⟨b, off, spot⟩ := a'
    cases spot with
    | some s =>
      exfalso
      simp [Addr.add, World.cell?] at c0
      split at c0 <;> simp at c0
    | none =>
      rw [addr_add] at c
      exact ⟨b, off, rfl, c⟩
end Go.Proofs.Ytbmeejopfcpoaaa
