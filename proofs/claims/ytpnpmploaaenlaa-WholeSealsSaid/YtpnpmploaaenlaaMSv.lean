/- The values of a round, in the reference's numbers. -/
import Derived.Test.YtpnpmploaaenlaaMS8
namespace Go.Proofs.Ytpnpmploaaenlaa
open Go.RowKit Wd
set_option linter.unusedSimpArgs false
set_option linter.unusedVariables false
theorem wrap64_small (x : Int) (h0 : 0 ≤ x) (h1 : x < 1000000000000) : wrap64 x = x := by unfold wrap64; omega
theorem sb_r (x a b c : Nat) (hx : x < 4294967296) : bits BinOp.xor IntKind.i64 (bits BinOp.xor IntKind.i64 (rotN x a : Int) (rotN x b : Int)) (rotN x c : Int) = ((rotN x a ^^^ rotN x b ^^^ rotN x c : Nat) : Int) := by
  rw [i64_xor_nat _ _ (rotN_lt x a hx) (rotN_lt x b hx), i64_xor_nat _ _ (xorl (rotN_lt x a hx) (rotN_lt x b hx)) (rotN_lt x c hx)]
theorem not_r (e : Nat) (he : e < 4294967296) : bits BinOp.xor IntKind.i64 (-1) (e : Int) % 4294967296 = ((4294967295 - e : Nat) : Int) := by
  have h2 : (BitVec.ofInt 64 (e : Int)).toNat = e := by
    rw [BitVec.ofInt_natCast, BitVec.toNat_ofNat]; exact Nat.mod_eq_of_lt (by omega)
  have h3 : BitVec.ofInt 64 (-1) = BitVec.allOnes 64 := by decide
  show IntKind.i64.wrap ((BitVec.ofInt 64 (-1) ^^^ BitVec.ofInt 64 (e : Int)).toNat : Int) % 4294967296 = _
  rw [h3, BitVec.allOnes_xor, BitVec.toNat_not, h2, IntKind.wrap_i64]
  omega
theorem ch_r (e f g : Nat) (he : e < 4294967296) (hf : f < 4294967296) (hg : g < 4294967296) : bits BinOp.xor IntKind.i64 (bits BinOp.and IntKind.i64 (e : Int) (f : Int)) (bits BinOp.and IntKind.i64 (bits BinOp.xor IntKind.i64 (-1) (e : Int) % 4294967296) (g : Int)) = ((chN e f g : Nat) : Int) := by
  rw [not_r e he, i64_and_nat _ _ he hf, i64_and_nat _ _ (by omega) hg, i64_xor_nat _ _ (andl he) (andl (by omega))]
  rfl
theorem maj_r (a b c : Nat) (ha : a < 4294967296) (hb : b < 4294967296) (hc : c < 4294967296) : bits BinOp.xor IntKind.i64 (bits BinOp.xor IntKind.i64 (bits BinOp.and IntKind.i64 (a : Int) (b : Int)) (bits BinOp.and IntKind.i64 (a : Int) (c : Int))) (bits BinOp.and IntKind.i64 (b : Int) (c : Int)) = ((majN a b c : Nat) : Int) := by
  rw [i64_and_nat _ _ ha hb, i64_and_nat _ _ ha hc, i64_and_nat _ _ hb hc, i64_xor_nat _ _ (andl ha) (andl ha), i64_xor_nat _ _ (xorl (andl ha) (andl ha)) (andl hb)]
  rfl
theorem sum5 (E A C K X : Nat) (h0 : E < 4294967296) (h1 : A < 4294967296) (h2 : C < 4294967296) (h3 : K < 4294967296) (h4 : X < 4294967296) :
    wrap64 (wrap64 (wrap64 (wrap64 ((E : Int) + (A : Int)) + (C : Int)) + (K : Int)) + (X : Int)) % 4294967296 = (((E + A + C + K + X) % 4294967296 : Nat) : Int) := by
  rw [wrap64_small ((E : Int) + (A : Int)) (by omega) (by omega), wrap64_small ((E : Int) + (A : Int) + (C : Int)) (by omega) (by omega), wrap64_small ((E : Int) + (A : Int) + (C : Int) + (K : Int)) (by omega) (by omega), wrap64_small ((E : Int) + (A : Int) + (C : Int) + (K : Int) + (X : Int)) (by omega) (by omega), ← mod32]
  congr 1
theorem sum2 (E A : Nat) (h0 : E < 4294967296) (h1 : A < 4294967296) : wrap64 ((E : Int) + (A : Int)) % 4294967296 = (((E + A) % 4294967296 : Nat) : Int) := by
  rw [wrap64_small ((E : Int) + (A : Int)) (by omega) (by omega), ← mod32]
  congr 1
theorem sum2w (E A : Nat) (h0 : E < 4294967296) (h1 : A < 4294967296) : IntKind.i64.wrap ((E : Int) + (A : Int)) % 4294967296 = (((E + A) % 4294967296 : Nat) : Int) := by
  rw [wrap_small ((E : Int) + (A : Int)) (by omega) (by omega), ← mod32]
  congr 1
theorem t_r (y : Nat → Nat) (KK X : Nat) (hk : KK < 4294967296) (hx : X < 4294967296) (y4 : y 4 < 4294967296) (y5 : y 5 < 4294967296) (y6 : y 6 < 4294967296) (y7 : y 7 < 4294967296) :
    wrap64 (wrap64 (wrap64 (wrap64 ((y 7 : Int) + bits BinOp.xor IntKind.i64 (bits BinOp.xor IntKind.i64 (rotN (y 4) 26 : Int) (rotN (y 4) 21 : Int)) (rotN (y 4) 7 : Int)) + bits BinOp.xor IntKind.i64 (bits BinOp.and IntKind.i64 (y 4 : Int) (y 5 : Int)) (bits BinOp.and IntKind.i64 (bits BinOp.xor IntKind.i64 (-1) (y 4 : Int) % 4294967296) (y 6 : Int))) + (KK : Int)) + (X : Int)) % 4294967296 = ((rndT y KK X % 4294967296 : Nat) : Int) := by
  rw [sb_r (y 4) 26 21 7 y4, ch_r (y 4) (y 5) (y 6) y4 y5 y6]
  exact sum5 _ _ _ _ _ y7 (xorl (xorl (rotN_lt _ _ y4) (rotN_lt _ _ y4)) (rotN_lt _ _ y4)) (xorl (andl y4) (andl (by omega))) hk hx
theorem u_r (y : Nat → Nat) (y0 : y 0 < 4294967296) (y1 : y 1 < 4294967296) (y2 : y 2 < 4294967296) :
    wrap64 (bits BinOp.xor IntKind.i64 (bits BinOp.xor IntKind.i64 (rotN (y 0) 30 : Int) (rotN (y 0) 19 : Int)) (rotN (y 0) 10 : Int) + bits BinOp.xor IntKind.i64 (bits BinOp.xor IntKind.i64 (bits BinOp.and IntKind.i64 (y 0 : Int) (y 1 : Int)) (bits BinOp.and IntKind.i64 (y 0 : Int) (y 2 : Int))) (bits BinOp.and IntKind.i64 (y 1 : Int) (y 2 : Int))) % 4294967296 = ((rndU y % 4294967296 : Nat) : Int) := by
  rw [sb_r (y 0) 30 19 10 y0, maj_r (y 0) (y 1) (y 2) y0 y1 y2]
  exact sum2 _ _ (xorl (xorl (rotN_lt _ _ y0) (rotN_lt _ _ y0)) (rotN_lt _ _ y0)) (xorl (xorl (andl y0) (andl y0)) (andl y1))
theorem pick8_int (a0 a1 a2 a3 a4 a5 a6 a7 : Nat) : (#[.int .i64 (a0 : Int), .int .i64 (a1 : Int), .int .i64 (a2 : Int), .int .i64 (a3 : Int), .int .i64 (a4 : Int), .int .i64 (a5 : Int), .int .i64 (a6 : Int), .int .i64 (a7 : Int)] : Array Value) = (natL 8 (pick8 a0 a1 a2 a3 a4 a5 a6 a7)).toArray := rfl
theorem pushI0 {W w : World} {v : Value} {n : Nat} {z : Nat → Nat} (h : AccI W w v n z) (hl : n ≤ 1000000) (c : Int) (hc : c = (z n : Int)) :
    ∃ v' w', (Builtin.append_ #[47, 47] 47 #[v, .slice (some ⟨w.heap.size, 0, none⟩) 1 1]).run Try.prog (w.alloc (.cells #[.int .i64 c] 3)) = .ok v' w' ∧ AccI W w' v' (n + 1) z := by
  obtain ⟨i0, hi, hz0, hz1, hz2⟩ := info_parts Wd.info3
  subst hc
  have hm := h.2.size
  obtain ⟨v', w', hrun, hown, hgrow, _⟩ := run_append_own (P := Try.prog) (w := w.alloc (.cells #[.int .i64 (z n : Int)] 3)) W.heap.size 47 47 3 i0 (.int .i64 0) 1 8 Try.underlying47 hi hz0 hz1 hz2 rfl (by decide) _ _ _ (h.1.alloc _) ⟨w.heap.size, 0, none⟩ 1 1 [.int .i64 (z n : Int)] rfl
    (by intro j u hj
        match j, hj with
        | 0, hj => simp at hj; subst hj; exact cell_new w _ _ _ _ rfl) (by intro u hu; simp at hu; subst hu; rfl) (by unfold maxLen; omega) (by omega) (by simp; omega)
  rw [← natL_succ] at hown
  exact ⟨v', w', hrun, hown, own_grown (h.2.alloc _) (h.1.alloc _) hgrow⟩
theorem AccI.ints {W w : World} {n cap : Nat} {a : Option Addr} {z : Nat → Nat} (h : AccI W w (.slice a n cap) n z) (hn : 0 < n) : Wd.Ints w a n (fun j => (z j : Int)) := by
  obtain ⟨g, rfl, _, hd⟩ := h.dg hn
  exact fun k hk => ⟨g, 0, rfl, by rw [Nat.zero_add]; exact hd k hk⟩
end Go.Proofs.Ytpnpmploaaenlaa
