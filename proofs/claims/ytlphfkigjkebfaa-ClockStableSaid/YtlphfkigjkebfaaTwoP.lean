/- ClockTwo: what its rounds keep. -/
import Derived.Test.YtlphfkigjkebfaaRises
import Derived.Laws.OwnMore
namespace Go.Proofs.Ytlphfkigjkebfaa
open Go.RowKit
set_option linter.unusedSimpArgs false
set_option linter.unusedVariables false

theorem Mod.tr {a b c : World} (h : Mod (fun _ => False) a b) (k : Mod (fun _ => False) b c) : Mod (fun _ => False) a c := h.trans k (fun _ e => e) (fun _ _ e => e)
theorem Mod.new {S : Nat → Prop} {a b c : World} (h : Mod (fun _ => False) a b) (k : Mod S b c) (hs : ∀ i, S i → a.heap.size ≤ i) : Mod (fun _ => False) a c :=
  h.trans k (fun _ e => e) (fun i hi e => by have := hs i e; omega)

def flat (zs : List (Int × Int)) : List Value := zs.flatMap fun z => [.int .i64 z.1, .int .i64 z.2]
theorem flat_len (zs : List (Int × Int)) : (flat zs).length = zs.length * 2 := by
  induction zs with
  | nil => rfl
  | cons z zs ih => simp [flat] at *; omega
theorem flat_at : ∀ (zs : List (Int × Int)) (j : Nat) (h : j < zs.length), (flat zs)[j * 2]? = some (.int .i64 (zs[j]).1) ∧ (flat zs)[j * 2 + 1]? = some (.int .i64 (zs[j]).2)
  | z :: zs, 0, h => ⟨rfl, rfl⟩
  | z :: zs, j + 1, h => by
    have := flat_at zs j (by simpa using h)
    have e : flat (z :: zs) = .int .i64 z.1 :: .int .i64 z.2 :: flat zs := rfl
    rw [e, show (j + 1) * 2 = j * 2 + 1 + 1 by omega, show j * 2 + 1 + 1 + 1 = (j * 2 + 1) + 1 + 1 by omega]
    simpa using this
theorem flat_snoc (zs : List (Int × Int)) (a b : Int) : flat zs ++ [.int .i64 a, .int .i64 b] = flat (zs ++ [(a, b)]) := by simp [flat]

theorem own_mod {S : Nat → Prop} {w w' : World} {base size n : Nat} {e : TypeId} {v : Value} {xs : List Value} (m : Mod S w w') (h : w.ownsRow base e size v n xs) (hs : ∀ g, base ≤ g → S g → False) : w'.ownsRow base e size v n xs := by
  obtain ⟨h1, h2⟩ := h
  refine ⟨h1, ?_⟩
  rcases h2 with h2 | ⟨g, cap, cur, hv, hg, hh, r⟩
  · exact .inl h2
  · exact .inr ⟨g, cap, cur, hv, hg, m.blk hh (fun s => hs g hg s), r⟩
theorem own_form {w : World} {base size n : Nat} {e : TypeId} {v : Value} {xs : List Value} (h : w.ownsRow base e size v n xs) : ∃ a cap, v = .slice a n cap := by
  rcases h.2 with ⟨h2, hn⟩ | ⟨g, cap, cur, hv, _⟩
  · subst hn; exact ⟨_, _, h2⟩
  · exact ⟨_, _, hv⟩
theorem own_at {w : World} {base n cap : Nat} {a : Option Addr} {zs : List (Int × Int)} (h : w.ownsRow base 23 2 (.slice a n cap) n (flat zs)) (j : Nat) (hj : j < n) :
    zs.length = n ∧ ∃ g z, a = some ⟨g, 0, none⟩ ∧ base ≤ g ∧ zs[j]? = some z ∧ w.cell? ⟨g, j * 2, none⟩ = some (.int .i64 z.1) ∧ w.cell? ⟨g, j * 2 + 1, none⟩ = some (.int .i64 z.2) := by
  have hl : zs.length = n := by have := h.1; rw [flat_len] at this; omega
  refine ⟨hl, ?_⟩
  rcases h.2 with ⟨h2, hn⟩ | ⟨g, cap', cur, hv, hg, hh, hc1, hc2, hsz, htk⟩
  · omega
  · simp at hv
    obtain ⟨rfl, rfl⟩ := hv
    have hf := flat_at zs j (by omega)
    rw [← htk] at hf
    have e0 : ∀ q, q < n * 2 → ∀ u, (cur.toList.take (n * 2))[q]? = some u → w.cell? ⟨g, q, none⟩ = some u := by
      intro q hq u hu
      rw [List.getElem?_take, if_pos hq] at hu
      exact blk_cell hh (by simpa using hu)
    exact ⟨g, _, rfl, hg, List.getElem?_eq_getElem (by omega), e0 _ (by omega) _ hf.1, e0 _ (by omega) _ hf.2⟩

/-- Two clocks, the list of both, the last stamp, and all stamps. -/
structure Two (N : Nat) (w wr : World) (T : Nat → Int) (lt lw : Int) (v : Value) (n : Nat) (zs : List (Int × Int)) : Prop where
  clk : ∀ j, j < 2 → Clk wr (N + j) (j + 1) (T j)
  arr : wr.heap[N + 2]? = some (.cells #[.pointer (some ⟨N, 0, none⟩), .pointer (some ⟨N + 1, 0, none⟩)] 48 (0, 0))
  last : wr.heap[N + 3]? = some (.cells #[.int .i64 lt, .int .i64 lw] 23 (0, 0))
  own : wr.ownsRow (N + 4) 23 2 v n (flat zs)
  mod : Mod (fun _ => False) w wr
  base : N = w.heap.size
theorem Two.kept {N : Nat} {w wr wr' : World} {T : Nat → Int} {lt lw : Int} {v : Value} {n : Nat} {zs : List (Int × Int)} (h : Two N w wr T lt lw v n zs) (m : Mod (fun _ => False) wr wr') : Two N w wr' T lt lw v n zs :=
  ⟨fun j hj => (h.clk j hj).kept m (fun e => e), m.blk h.arr (fun e => e), m.blk h.last (fun e => e), own_mod m h.own (fun _ _ e => e), h.mod.tr m, h.base⟩
def upd (T : Nat → Int) (k : Nat) (x : Int) : Nat → Int := fun j => if j = k then x else T j
theorem Two.tick {N : Nat} {w wr wr' : World} {T : Nat → Int} {lt lw : Int} {v : Value} {n : Nat} {zs : List (Int × Int)} (h : Two N w wr T lt lw v n zs) {k : Nat} {x : Int} (hk : k < 2) (c : Clk wr' (N + k) (k + 1) x) (m : Mod (· = N + k) wr wr') : Two N w wr' (upd T k x) lt lw v n zs := by
  refine ⟨fun j hj => ?_, m.blk h.arr (fun e => by omega), m.blk h.last (fun e => by omega), own_mod m h.own (fun _ hb e => by omega), h.mod.new m (fun i e => by have := h.base; omega), h.base⟩
  unfold upd
  by_cases e : j = k
  · subst e; rw [if_pos rfl]; exact c
  · rw [if_neg e]; exact (h.clk j hj).kept m (fun q => by omega)
theorem Two.ptr {N : Nat} {w wr : World} {T : Nat → Int} {lt lw : Int} {v : Value} {n : Nat} {zs : List (Int × Int)} (h : Two N w wr T lt lw v n zs) {k : Nat} (hk : k < 2) : wr.cell? ⟨N + 2, k, none⟩ = some (.pointer (some ⟨N + k, 0, none⟩)) := by
  have h2 : k = 0 ∨ k = 1 := by omega
  rcases h2 with rfl | rfl
  · exact blk_cell h.arr rfl
  · exact blk_cell h.arr rfl
theorem Two.set {N : Nat} {w wr : World} {T : Nat → Int} {lt lw : Int} {v : Value} {n : Nat} {zs : List (Int × Int)} (h : Two N w wr T lt lw v n zs) (a b : Int) : Two N w ((wr.setCell ⟨N + 3, 0, none⟩ (.int .i64 a)).setCell ⟨N + 3, 1, none⟩ (.int .i64 b)) T a b v n zs := by
  have m : Mod (· = N + 3) wr ((wr.setCell ⟨N + 3, 0, none⟩ (.int .i64 a)).setCell ⟨N + 3, 1, none⟩ (.int .i64 b)) := ((Mod.refl _ _).setCell (by intro _; rfl) _).setCell (by intro _; rfl) _
  exact ⟨fun j hj => (h.clk j hj).kept m (fun e => by omega), m.blk h.arr (fun e => by omega), set_block (set_block h.last _) _, own_mod m h.own (fun _ hb e => by omega), h.mod.new m (fun i e => by have := h.base; omega), h.base⟩
theorem Two.app {N : Nat} {w wr wr' : World} {T : Nat → Int} {lt lw : Int} {v v' : Value} {n n' : Nat} {zs : List (Int × Int)} {a b : Int} (h : Two N w wr T lt lw v n zs) (g : wr.grownBy wr' v.ownBlock) (o : wr'.ownsRow (N + 4) 23 2 v' n' (flat zs ++ [.int .i64 a, .int .i64 b])) : Two N w wr' T lt lw v' n' (zs ++ [(a, b)]) := by
  have hv : ∀ k, some k = v.ownBlock → N + 4 ≤ k := by
    intro k hk
    rcases h.own.2 with ⟨h2, _⟩ | ⟨g, cap, cur, hv, hg, _⟩
    · subst h2; simp [Value.ownBlock] at hk
    · subst hv; simp [Value.ownBlock] at hk; omega
  have m : Mod (fun k => some k = v.ownBlock) wr wr' := ⟨g.os, g.tape, g.output, g.size, fun k hk hs => g.block k hk hs⟩
  exact ⟨fun j hj => (h.clk j hj).kept m (fun e => by have := hv _ e; omega), m.blk h.arr (fun e => by have := hv _ e; omega), m.blk h.last (fun e => by have := hv _ e; omega), by rw [← flat_snoc]; exact o, h.mod.new m (fun i e => by have := h.base; have := hv _ e; omega), h.base⟩
end Go.Proofs.Ytlphfkigjkebfaa
