/- An argument that is a list of calls: its cells. -/
import Derived.Test.YthamdkjcbbapkaaC3
import Derived.Deep.Slices
import Derived.Deep.Fields
import Derived.ChangeSame
import Derived.ProofKit
namespace Go.Proofs.Ythamdkjcbbapkaa
open Go.ChangeShapes Go.WideShapes Go.Deep Go.RowKit
set_option linter.unusedSimpArgs false
section
variable {H : Type} {enc : TypeId × Value → H} {P : Program} {w : World} {base : Nat} {spare : Nat → Bool} {held : Bool}
theorem open_slice_fields {t e : TypeId} {fs : Array Field} {fuel : Nat} {cs : List Value} {x : DataW H × List MemPlace} (ht : P.underlying t = some (.slice e)) (he : P.underlying e = some (.struct fs))
    (hone : oneCellFields P fs = true) (hC : P.cellsOf e = fs.size) (h : DataW.trod enc P w base spare held fuel t cs = some x) :
    (cs = [.slice none 0 0] ∧ x = (.nil, [])) ∨
    ∃ (a : Addr) (len cap m : Nat) (D : Nat → DataW H) (Pl : Nat → List MemPlace), cs = [.slice (some a) len cap] ∧ base ≤ a.block ∧ len ≤ cap ∧ cap ≤ maxLen ∧ m = (if spare a.block then cap else len) ∧
      x = (.slice ((List.range len).map D) ((List.range (m - len)).map fun j => D (len + j)), MemPlace.row a (m * fs.size) ++ (List.range m).flatMap Pl) ∧
      ∀ i, i < m → ∃ (ys : List (DataW H × List MemPlace)) (n : Nat), D i = .agg (ys.map (·.1)) ∧ Pl i = ys.flatMap (·.2) ∧ ys.length = fs.size ∧
        ∀ (j : Nat) (f : Field), fs[j]? = some f → ∃ (v : Value) (y : DataW H × List MemPlace), w.cell? (a.add (i * fs.size + j)) = some v ∧ ys[j]? = some y ∧ DataW.trod enc P w base spare held n f.type [v] = some y := by
  rcases open_slice ht h with h0 | ⟨a, len, cap, m, n, D, Pl, hcs, hb, hl, hm, hmm, hx, hi⟩
  · exact .inl h0
  · refine .inr ⟨a, len, cap, m, D, Pl, hcs, hb, hl, hm, hmm, by rw [hC] at hx; exact hx, fun i him => ?_⟩
    obtain ⟨cs', hc, ht'⟩ := hi i him
    rw [hC] at hc
    obtain ⟨ys, n', hn', hy, hlen, hyl, hf⟩ := DataW.trod_struct he ht'
    obtain ⟨_, hcl, hat⟩ := World.cells?_some hc
    simp only [Prod.mk.injEq] at hy
    refine ⟨ys, n', hy.1, hy.2, hyl, fun j f hj => ?_⟩
    obtain ⟨ho, hk⟩ := hone_of hone j f hj
    have hjl : j < fs.size := (Array.getElem?_eq_some_iff.1 hj).1
    have hcell := hat j hjl
    have hv : cs'[j]? = some (cs'[j]'(by omega)) := List.getElem?_eq_getElem (by omega)
    have h1 := hf j f hj
    rw [ho, hk] at h1
    have hone' : (cs'.drop j).take 1 = [cs'[j]'(by omega)] := by
      rw [List.drop_eq_getElem_cons (by omega)]
      rfl
    rw [hone'] at h1
    have hys : ys[j]? = some (ys[j]'(by omega)) := List.getElem?_eq_getElem (by omega)
    refine ⟨_, _, ?_, hys, h1.trans hys⟩
    rw [← Go.Deep.add_add, hcell, hv]
end

/-- A call: kind, at, byte, text. -/
structure ActD where
  kind : Int
  at_ : Int
  c : UInt8
  s : ByteArray
def ActAt (w : World) (b o : Nat) (q : ActD) : Prop := w.cell? ⟨b, o, none⟩ = some (.int .i64 q.kind) ∧ w.cell? ⟨b, o + 1, none⟩ = some (.int .i64 q.at_) ∧ w.cell? ⟨b, o + 2, none⟩ = some (.int .u8 (q.c.toNat : Int)) ∧ w.cell? ⟨b, o + 3, none⟩ = some (.string q.s) ∧ q.s.size ≤ maxLen ∧ (Lit.int .i64 q.at_).wf = true
theorem ActAt.kept {w w' : World} {b o : Nat} {q : ActD} (h : ActAt w b o q) (m : Mod (fun _ => False) w w') : ActAt w' b o q := ⟨m.at h.1, m.at h.2.1, m.at h.2.2.1, m.at h.2.2.2.1, h.2.2.2.2⟩
def Acts (w : World) (a : Option Addr) (n : Nat) (z : Nat → ActD) : Prop := ∀ k, k < n → ∃ b off, a = some ⟨b, off, none⟩ ∧ ActAt w b (off + k * 4) (z k)
theorem Acts.kept {w w' : World} {a : Option Addr} {n : Nat} {z : Nat → ActD} (h : Acts w a n z) (m : Mod (fun _ => False) w w') : Acts w' a n z := fun k hk => by
  obtain ⟨b, off, e, h⟩ := h k hk
  exact ⟨b, off, e, h.kept m⟩
theorem acts_of {H : Type} {enc : TypeId × Value → H} {W : World} {base : Nat} {spare : Nat → Bool} {held : Bool} {a : Option Addr} {n cap : Nat} {d : DataW H} {p : List MemPlace}
    (h : DataW.Trod enc Try.prog W base spare held 22 (.slice a n cap) d p) : n ≤ 9223372036854775807 ∧ ∃ z, Acts W a n z := by
  obtain ⟨fuel, hf⟩ := h
  rcases open_slice_fields Try.underlying22 Try.underlying34 (by kernel_rfl) (by kernel_rfl) hf with ⟨hcs, _⟩ | ⟨a', len, cap', m, D, Pl, hcs, _, hl, hm, hmm, _, hi⟩
  · simp [Value.cells] at hcs
    obtain ⟨rfl, rfl, rfl⟩ := hcs
    exact ⟨by omega, fun _ => ⟨0, 0, 0, ByteArray.empty⟩, fun k hk => by omega⟩
  · simp [Value.cells] at hcs
    obtain ⟨rfl, rfl, rfl⟩ := hcs
    refine ⟨by unfold maxLen at hm; omega, ?_⟩
    have hle : n ≤ m := by rw [hmm]; split <;> omega
    have h2 : ∀ k, ∃ q : ActD, k < n → ∃ b off, some a' = some (⟨b, off, none⟩ : Addr) ∧ ActAt W b (off + k * 4) q := by
      intro k
      by_cases hk : k < n
      · obtain ⟨ys, n', _, _, _, hf⟩ := hi k (by omega)
        obtain ⟨v0, y0, c0, _, t0⟩ := hf 0 _ rfl
        obtain ⟨v1, y1, c1, _, t1⟩ := hf 1 _ rfl
        obtain ⟨v2, y2, c2, _, t2⟩ := hf 2 _ rfl
        obtain ⟨v3, y3, c3, _, t3⟩ := hf 3 _ rfl
        obtain ⟨x0, e0, _, _⟩ := DataW.trod_int Try.underlying3 t0
        obtain ⟨x1, e1, _, w1⟩ := DataW.trod_int Try.underlying3 t1
        obtain ⟨x2, e2, _, w2⟩ := DataW.trod_int Try.underlying5 t2
        obtain ⟨x3, e3, _, w3⟩ := DataW.trod_string Try.underlying9 t3
        simp at e0 e1 e2 e3
        subst e0 e1 e2 e3
        have hb : 0 ≤ x2 ∧ x2 ≤ 255 := by simp only [Lit.wf, IntKind.min, IntKind.max, IntKind.signed, IntKind.bits, Bool.and_eq_true, decide_eq_true_eq] at w2; simpa using w2
        have hx2 : x2 = ((UInt8.ofNat x2.toNat).toNat : Int) := by rw [UInt8.toNat_ofNat']; omega
        obtain ⟨b, off, spot⟩ := a'
        have a0 : ∀ i, (Addr.add ⟨b, off, none⟩ i) = ⟨b, off + i, none⟩ := by
          intro i
          unfold Addr.add
          split
          · subst_vars; rfl
          · rfl
        cases spot with
        | some s =>
          exfalso
          obtain ⟨_, _, _, _, _, hf0⟩ := hi 0 (by omega)
          obtain ⟨_, _, c, _, _⟩ := hf0 0 _ rfl
          simp [Addr.add, World.cell?] at c
          split at c <;> simp at c
        | none =>
          rw [a0] at c0 c1 c2 c3
          rw [hx2] at c2
          exact ⟨⟨x0, x1, UInt8.ofNat x2.toNat, x3⟩, fun _ => ⟨b, off, rfl, c0, by simpa [Nat.add_assoc] using c1, by simpa [Nat.add_assoc] using c2, by simpa [Nat.add_assoc] using c3, w3, w1⟩⟩
      · exact ⟨⟨0, 0, 0, ByteArray.empty⟩, fun h => absurd h hk⟩
    exact ⟨fun k => (h2 k).choose, fun k hk => (h2 k).choose_spec hk⟩
end Go.Proofs.Ythamdkjcbbapkaa
