/- The reference's words: right, rows of numbers that a call builds up, the schedule: the walks. -/
import Derived.Test.YtpnpmploaaenlaaMS6
import Derived.Test.YtpnpmploaaenlaaMQ5
import Derived.Test.YtpnpmploaaenlaaMWp
import Derived.ArgAppend
import Derived.Deep.DeepAppendRoom
namespace Go.Proofs.Ytpnpmploaaenlaa
open Go.RowKit
set_option linter.unusedSimpArgs false
set_option linter.unusedVariables false

theorem wp_still_tail_any {P : Program} {id : Nat} {Q : Exit → Act → World → Prop} {a : Act} {w : World} {l : List Oper} (n : Nat) (hm : P.follows .mixedOrders = true) (hB : Region.lexTailB .any l.toArray n = true)
    (h : ∀ wd, w.drew = wd → wpStill P l.toArray wd (fun a' => wpList P l.toArray Q (l.drop n) a' wd) (l.take n) a) : (Code.region id l.toArray true).wp P Q a w := wp_still_tail n _ rfl hm hB (h _ rfl)
theorem i64_xor_nat (a b : Nat) (ha : a < 4294967296) (hb : b < 4294967296) : bits .xor .i64 (a : Int) (b : Int) = ((a ^^^ b : Nat) : Int) := by
  have hx : a ^^^ b < 2 ^ 32 := Nat.xor_lt_two_pow (by omega) (by omega)
  have h1 : (BitVec.ofInt 64 (a : Int)).toNat = a := by
    rw [BitVec.ofInt_natCast, BitVec.toNat_ofNat]; exact Nat.mod_eq_of_lt (by omega)
  have h2 : (BitVec.ofInt 64 (b : Int)).toNat = b := by
    rw [BitVec.ofInt_natCast, BitVec.toNat_ofNat]; exact Nat.mod_eq_of_lt (by omega)
  show IntKind.i64.wrap ((BitVec.ofInt 64 (a : Int) ^^^ BitVec.ofInt 64 (b : Int)).toNat : Int) = _
  rw [BitVec.toNat_xor, h1, h2, IntKind.wrap_i64]
  omega
theorem i64_and_nat (a b : Nat) (ha : a < 4294967296) (hb : b < 4294967296) : bits .and .i64 (a : Int) (b : Int) = ((a &&& b : Nat) : Int) :=
  (bits_nat .i64 63 (by decide) (fun n h0 h1 => by rw [IntKind.wrap_i64]; omega) a b (by omega) (by omega)).1
open Wd in
theorem rrot_q (x n : Int) (w : World) :
    Calls Try.prog 88 #[.int .i64 x, .int .i64 n] w fun e w' => e = .returned (.int .i64 (rotN (wordN x) (turnN n))) ∧ ∃ m, w' = w.drewN m := by
  obtain ⟨X, hX, hX2, hX3⟩ : ∃ X : Nat, x % 4294967296 = (X : Int) ∧ X < 4294967296 ∧ wordN x = X := ⟨(x % 4294967296).toNat, by omega, by omega, rfl⟩
  obtain ⟨k, hk, hk2, hk4⟩ : ∃ k : Nat, bits BinOp.and IntKind.i64 n 31 = (k : Int) ∧ k < 32 ∧ turnN n = k := ⟨(n % 32).toNat, by rw [i64_and31]; omega, by omega, rfl⟩
  rw [hX3, hk4]
  clear hX3 hk4
  go_enter Try.func88, Try.ntmps88
  go_wp2_with fail
  go_quiet ((go_at_call 77; exact Calls.quiet_of_same (word_same _ _)))
  go_wp2
  go_ret
  exact ⟨ret_i64 (rrot_val X k hX2 hk2), _, rfl⟩
theorem rright_q (X : Nat) (hX : X < 4294967296) (n : Int) (m : Nat) (h1 : 1 ≤ n ∧ n ≤ 31) (hm : 32 - n.toNat = m) (w : World) :
    Calls Try.prog 92 #[.int .i64 (X : Int), .int .i64 n] w fun e w' => e = .returned (.int .i64 (Wd.rotN X m : Nat)) ∧ ∃ k, w' = w.drewN k := by
  have hw : IntKind.i64.wrap (32 - n) = 32 - n := by rw [IntKind.wrap_i64]; omega
  have hr := rrot_q (X : Int) (32 - n) w
  rw [wordN_nat X hX, show Wd.turnN (32 - n) = m by unfold Wd.turnN; omega] at hr
  go_enter Try.func92, Try.ntmps92
  go_wp2_with (go_at_call 88; refine hr.mono ?_; rintro e w' ⟨rfl, k, rfl⟩)
  go_ret
  exact ⟨rfl, k, rfl⟩
theorem wrap_small (x : Int) (h0 : 0 ≤ x) (h1 : x < 1000000000000) : IntKind.i64.wrap x = x := by rw [IntKind.wrap_i64]; omega
theorem mod32 (n : Nat) : (n : Int) % 4294967296 = ((n % 4294967296 : Nat) : Int) := by omega
theorem sch_r (x0 A x9 B : Nat) (h0 : x0 < 4294967296) (h1 : A < 4294967296) (h2 : x9 < 4294967296) (h3 : B < 4294967296) : IntKind.i64.wrap (IntKind.i64.wrap (IntKind.i64.wrap ((x0 : Int) + (A : Int)) + (x9 : Int)) + (B : Int)) % 4294967296 = (((x0 + A + x9 + B) % 4294967296 : Nat) : Int) := by
  rw [wrap_small ((x0 : Int) + (A : Int)) (by omega) (by omega), wrap_small ((x0 : Int) + (A : Int) + (x9 : Int)) (by omega) (by omega), wrap_small ((x0 : Int) + (A : Int) + (x9 : Int) + (B : Int)) (by omega) (by omega), ← mod32]
  congr 1
theorem rright_c (X : Nat) (hX : X < 4294967296) (n : Int) (h1 : 1 ≤ n ∧ n ≤ 31) (w : World) :
    Calls Try.prog 92 #[.int .i64 (X : Int), .int .i64 n] w fun e w' => e = .returned (.int .i64 (Wd.rotN X (32 - n.toNat) : Nat)) ∧ ∃ k, w' = w.drewN k := rright_q X hX n _ h1 rfl w
theorem sg0_r (x : Nat) (hx : x < 4294967296) : bits BinOp.xor IntKind.i64 (bits BinOp.xor IntKind.i64 (Wd.rotN x 25 : Int) (Wd.rotN x 14 : Int)) ((x : Int) / 8) = ((sg0 x : Nat) : Int) := by
  rw [i64_xor_nat _ _ (Wd.rotN_lt x 25 hx) (Wd.rotN_lt x 14 hx), show (x : Int) / 8 = ((x / 8 : Nat) : Int) by simp, i64_xor_nat _ _ (xor_lt32 (Wd.rotN_lt x 25 hx) (Wd.rotN_lt x 14 hx)) (by omega)]
  rfl
theorem sg1_r (x : Nat) (hx : x < 4294967296) : bits BinOp.xor IntKind.i64 (bits BinOp.xor IntKind.i64 (Wd.rotN x 15 : Int) (Wd.rotN x 13 : Int)) ((x : Int) / 1024) = ((sg1 x : Nat) : Int) := by
  rw [i64_xor_nat _ _ (Wd.rotN_lt x 15 hx) (Wd.rotN_lt x 13 hx), show (x : Int) / 1024 = ((x / 1024 : Nat) : Int) by simp, i64_xor_nat _ _ (xor_lt32 (Wd.rotN_lt x 15 hx) (Wd.rotN_lt x 13 hx)) (by omega)]
  rfl
/-- Rows of numbers that a call builds up. -/
def natL (n : Nat) (z : Nat → Nat) : List Value := (List.range n).map fun j => .int .i64 ((z j : Nat) : Int)
theorem natL_succ (n : Nat) (z : Nat → Nat) : natL (n + 1) z = natL n z ++ [.int .i64 ((z n : Nat) : Int)] := by
  unfold natL; rw [List.range_succ]; simp
theorem natL_get (n : Nat) (z : Nat → Nat) (k : Nat) (hk : k < n) : (natL n z)[k]? = some (.int .i64 ((z k : Nat) : Int)) := by
  unfold natL; rw [List.getElem?_map, List.getElem?_range hk]; rfl
def AccI (W w : World) (v : Value) (n : Nat) (z : Nat → Nat) : Prop := w.ownsRow W.heap.size 3 1 v n (natL n z) ∧ Mod (fun _ => False) W w
theorem AccI.nil (W : World) (z : Nat → Nat) : AccI W W (.slice none 0 0) 0 z := ⟨World.ownsRow_nil _ _ _ _, Mod.refl _ _⟩
theorem AccI.drewN {W w : World} {v : Value} {n : Nat} {z : Nat → Nat} (h : AccI W w v n z) (m : Nat) : AccI W (w.drewN m) v n z := ⟨h.1, h.2.tr (Mod.drewN w m)⟩
theorem AccI.drew {W w : World} {v : Value} {n : Nat} {z : Nat → Nat} (h : AccI W w v n z) : AccI W w.drew v n z := ⟨h.1, h.2.drew⟩
theorem AccI.mod {W w w' : World} {v : Value} {n : Nat} {z : Nat → Nat} (h : AccI W w v n z) (m : Mod (fun _ => False) w w') : AccI W w' v n z := ⟨own_mod m h.1 (fun _ _ e => e), h.2.tr m⟩
theorem AccI.dg {W w : World} {n cap : Nat} {a : Option Addr} {z : Nat → Nat} (h : AccI W w (.slice a n cap) n z) (hn : 0 < n) : ∃ g, a = some ⟨g, 0, none⟩ ∧ W.heap.size ≤ g ∧ Dg w g n z := by
  obtain ⟨g, e, hg, hc⟩ := own_dg h.1 hn
  exact ⟨g, e, hg, fun k hk => hc k _ hk (natL_get n z k hk)⟩
theorem wpList_pushI {W w : World} {ops : Array Oper} {rest : List Oper} {o : Oper} {a : Act} {Q : Exit → Act → World → Prop} (hgd : o.guard = none) (s x : Operand) (hty : o.type = 47)
    (ho : o.op = .call { callee := .builtin .append, args := #[s, x], argTypes := #[47, 47] }) {v : Value} {n : Nat} {z : Nat → Nat} (hs : a.eval s = v) (h : AccI W w v n z) (hl : n ≤ 1000000) (c : Int) (hc : c = (z n : Int))
    (hx : a.eval x = .slice (some ⟨w.heap.size, 0, none⟩) 1 1)
    (hk : ∀ v' w', AccI W w' v' (n + 1) z → wpList Try.prog ops Q rest (a.put o.dst v') w') : wpList Try.prog ops Q (o :: rest) a (w.alloc (.cells #[.int .i64 c] 3)) := by
  obtain ⟨i0, hi, hz0, hz1, hz2⟩ := info_parts Wd.info3
  subst hc
  have hm := h.2.size
  obtain ⟨v', w', hrun, hown, hgrow, _⟩ := run_append_own (P := Try.prog) (w := w.alloc (.cells #[.int .i64 (z n : Int)] 3)) W.heap.size 47 47 3 i0 (.int .i64 0) 1 8 Try.underlying47 hi hz0 hz1 hz2 rfl (by decide) _ _ _ (h.1.alloc _) ⟨w.heap.size, 0, none⟩ 1 1 [.int .i64 (z n : Int)] rfl
    (by intro j u hj
        match j, hj with
        | 0, hj => simp at hj; subst hj; exact cell_new w _ _ _ _ rfl) (by intro u hu; simp at hu; subst hu; rfl) (by unfold maxLen; omega) (by omega) (by simp; omega)
  rw [← natL_succ] at hown
  refine wpList_plain hgd fun K hK => ?_
  unfold Oper.wp execOp
  simp only [ho, hty, resolve, invoke, builtin, Sem.run_bind, Sem.run_pure, Result.andThen_ok, List.map_toArray, List.map_cons, List.map_nil, hs, hx, hrun]
  exact hK _ _ (hk v' w' ⟨hown, own_grown (h.2.alloc _) (h.1.alloc _) hgrow⟩)
theorem own_base {w : World} {base base' size n : Nat} {e : TypeId} {v : Value} {xs : List Value} (h : w.ownsRow base e size v n xs) (hb : base' ≤ base) : w.ownsRow base' e size v n xs := by
  obtain ⟨h1, h2⟩ := h
  refine ⟨h1, ?_⟩
  rcases h2 with h2 | ⟨g, cap, cur, hv, hg, r⟩
  · exact .inl h2
  · exact .inr ⟨g, cap, cur, hv, Nat.le_trans hb hg, r⟩
theorem Dg.mod {w w' : World} {g n : Nat} {z : Nat → Nat} (h : Dg w g n z) (m : Mod (fun _ => False) w w') : Dg w' g n z := fun k hk => m.at (h k hk)
/-- One number more: the elder numbers stay where they were, too. -/
theorem pushI {W w : World} {n cap g : Nat} {z : Nat → Nat} (h : AccI W w (.slice (some ⟨g, 0, none⟩) n cap) n z) (hn : 0 < n) (hl : n ≤ 1000000) (c : Int) (hc : c = (z n : Int)) :
    ∃ v' w', (Builtin.append_ #[47, 47] 47 #[.slice (some ⟨g, 0, none⟩) n cap, .slice (some ⟨w.heap.size, 0, none⟩) 1 1]).run Try.prog (w.alloc (.cells #[.int .i64 c] 3)) = .ok v' w' ∧ AccI W w' v' (n + 1) z ∧ Dg w' g n z := by
  obtain ⟨i0, hi, hz0, hz1, hz2⟩ := info_parts Wd.info3
  subst hc
  have hm := h.2.size
  have hnews : ∀ j u, [Value.int .i64 (z n : Int)][j]? = some u → (w.alloc (.cells #[.int .i64 (z n : Int)] 3)).cell? ((⟨w.heap.size, 0, none⟩ : Addr).add j) = some u := by
    intro j u hj
    match j, hj with
    | 0, hj => simp at hj; subst hj; exact cell_new w _ _ _ _ rfl
  have h1 : ∀ u ∈ [Value.int .i64 (z n : Int)], u.oneCell' = true := by intro u hu; simp at hu; subst hu; rfl
  obtain ⟨g', e, hg, hd⟩ := h.dg hn
  obtain rfl : g = g' := by injection e with e; injection e
  have hda : Dg (w.alloc (.cells #[.int .i64 (z n : Int)] 3)) g n z := hd.mod ((Mod.refl _ w).alloc _)
  have hma := h.2.alloc (.cells #[.int .i64 (z n : Int)] 3)
  by_cases hroom : n + 1 ≤ cap
  · obtain ⟨w', hrun, hown, hgrow⟩ := run_append_own_spare (P := Try.prog) (w := w.alloc (.cells #[.int .i64 (z n : Int)] 3)) W.heap.size 47 47 3 i0 1 Try.underlying47 hi hz1 g n cap _ (h.1.alloc _) ⟨w.heap.size, 0, none⟩ 1 1 [.int .i64 (z n : Int)] rfl hnews h1 hroom
    rw [← natL_succ] at hown
    refine ⟨_, w', hrun, ⟨hown, own_grown hma (h.1.alloc _) hgrow⟩, ?_⟩
    obtain ⟨g2, e2, _, hc2⟩ := own_dg hown (by omega)
    obtain rfl : g = g2 := by injection e2 with e2; injection e2
    exact fun k hk => hc2 k _ (by omega) (natL_get (n + 1) z k (by omega))
  · obtain ⟨v', w', hrun, hown, hgrow⟩ := run_append_arg_grows (P := Try.prog) (w := w.alloc (.cells #[.int .i64 (z n : Int)] 3)) 47 47 3 i0 (.int .i64 0) 1 8 Try.underlying47 hi hz0 hz1 hz2 rfl (by decide) ⟨g, 0, none⟩ n cap (natL n z) (by simp [natL])
      (fun j u hj => by
        have hjn : j < n := by
          have := (List.getElem?_eq_some_iff.1 hj).1
          simpa [natL] using this
        have e : ((⟨g, 0, none⟩ : Addr).add j) = ⟨g, j, none⟩ := by unfold Addr.add; split <;> simp_all
        rw [natL_get n z j hjn] at hj
        rw [e, hda j hjn, hj]) ⟨w.heap.size, 0, none⟩ 1 1 [.int .i64 (z n : Int)] rfl hnews (by omega) (by unfold maxLen; omega) (by omega)
    rw [← natL_succ] at hown
    have hmod : Mod (fun _ => False) (w.alloc (.cells #[.int .i64 (z n : Int)] 3)) w' := ⟨hgrow.os, hgrow.tape, hgrow.output, hgrow.size, fun k hk _ => hgrow.block k hk (by simp)⟩
    exact ⟨v', w', hrun, ⟨own_base hown (by have := hma.size; exact this), hma.tr hmod⟩, hda.mod hmod⟩
theorem wp_region_held_any {P : Program} {ops : Array Oper} {Q : Exit → Act → World → Prop} {S : World → Prop} {id : Nat} {a : Act} {w : World} (hm : P.follows .mixedOrders = true)
    (h : ∀ wd, w.drew = wd → S wd ∧ (S wd → wpAnyH P .any ops Q S ops.size (Array.replicate ops.size false) a wd)) : (Code.region id ops true).wp P Q a w :=
  wp_region_held_drew (S := S) hm (h _ rfl).1 (h _ rfl).2
theorem wp_world {P : Program} {c : Code} {Q : Exit → Act → World → Prop} {a : Act} {w : World} (h : ∀ w', w = w' → c.wp P Q a w') : c.wp P Q a w := h w rfl
end Go.Proofs.Ytpnpmploaaenlaa
