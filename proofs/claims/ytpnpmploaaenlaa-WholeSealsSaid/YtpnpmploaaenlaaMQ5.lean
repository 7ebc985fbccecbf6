/- A number modulo 2^130 - 5: the reference's walk. The digits of bytes; rows that a call builds up: the walk. -/
import Derived.Test.YtpnpmploaaenlaaMQ4
namespace Go.Proofs.Ytpnpmploaaenlaa
open Go.RowKit
set_option linter.unusedSimpArgs false
set_option linter.unusedVariables false

theorem dgt_255 (V k : Nat) : dgt V k ≤ 255 := by have := dgt_lt V k; omega
theorem five_dg (w : World) : Dg (w.alloc (.cells #[.int .i64 5] 3)) w.heap.size 1 (fun _ => 5) := fun k hk => by
  obtain rfl : k = 0 := by omega
  exact cell_new w #[.int .i64 5] 3 0 _ rfl
theorem le_five : le (fun _ => 5) 1 = 5 := rfl
theorem lt_35_40 (V : Nat) (h : V < 256 ^ 35) : V < 256 ^ 40 := Nat.lt_of_lt_of_le h (Nat.pow_le_pow_right (by decide) (by decide))
theorem lt_T_17 (V : Nat) : V % T130 < 256 ^ 17 := Nat.lt_trans (Nat.mod_lt _ (by decide +kernel)) T130_17
set_option maxRecDepth 100000 in
set_option maxHeartbeats 4000000 in
theorem reduced_any (b c V0 : Nat) (hV : V0 < 256 ^ 35) (w : World) (hd : Dg w b 35 (dgt V0)) :
    Calls Try.prog 50 #[.slice (some ⟨b, 0, none⟩) 35 c] w fun e w' => (∃ g, e = .returned (.slice (some ⟨g, 0, none⟩) 17 17) ∧ IRow w' g 17 (dgt (V0 % P130))) ∧ Mod (fun _ => False) w w' := by
  have HD := Lib.hid hd
  have HV := Lib.hid hV
  clear hd hV
  go_enter Try.func50, Try.ntmps50
  go_wp2_with fail
  go_loopw [0, 3] (fun l v wr => ∃ i n b c V : Nat, i ≤ 3 ∧ v = .int .i64 (i : Int) ∧ l = .slice (some ⟨b, 0, none⟩) n c ∧ Dg wr b n (dgt V) ∧ 17 ≤ n ∧ n ≤ 40 ∧ Hid (V < 256 ^ n) ∧ Hid (V < rbd i) ∧ Hid (V % P130 = V0 % P130) ∧ Mod (fun _ => False) w wr) (fun _ v _ => 40 - (intOf v).toNat)
  case atStart => exact ⟨0, 35, b, c, V0, by omega, rfl, rfl, HD.out, by omega, by omega, HV.out, HV.out, rfl, Mod.refl _ _⟩
  case round =>
    obtain ⟨i, n, b, c, V, hi3, rfl, rfl, dg, hn17, hn40, HVn, HVb, HVp, hm⟩ := hrel
    have HDG := Lib.hid dg
    have HM := Lib.hid hm
    clear dg hm
    have hi0 : (0 : Int) ≤ (i : Int) := by omega
    have hi40 : (i : Int) < 40 := by omega
    have HH : Hid (V / T130 < 256 ^ n) := Nat.lt_of_le_of_lt (Nat.div_le_self _ _) HVn.out
    by_cases hbig : V < T130
    · have HBIG := Lib.hid hbig
      have HZ0 : Hid (decide (V / T130 = 0) = true) := decide_eq_true ((high_zero V).2 hbig)
      have HV5 : Hid (V + 5 < 256 ^ 40) := by
        show V + 5 < 256 ^ 40
        have h1 : T130 + 5 < 256 ^ 40 := by decide +kernel
        exact Nat.lt_trans (Nat.add_lt_add_right hbig 5) h1
      have HV40 : Hid (V < 256 ^ 40) := Nat.lt_of_le_of_lt (Nat.le_add_right V 5) HV5.out
      clear hbig
      go_wp2_with fail
      refine (high_any b n c V (by omega) (by omega) HVn.out _ HDG.out).mono ?_
      rintro e w2 ⟨⟨g2, rfl, row2, hge2⟩, m2⟩
      have HD2 := Lib.hid row2.dg
      have HM2 := Lib.hid (HM.out.tr m2)
      have HDG2 := Lib.hid (HDG.out.kept m2)
      clear row2 m2 hge2
      go_wp2_with fail
      refine (zero_any g2 n n (V / T130) (by omega) HH.out _ HD2.out true HZ0.out).mono ?_
      rintro e w3 ⟨rfl, m3⟩
      have HM3 := Lib.hid (HM2.out.tr m3)
      have HDG3 := Lib.hid (HDG2.out.kept m3)
      clear m3
      go_wp2_with fail
      have m4 := (Mod.refl (fun _ => False) w3).alloc (.cells #[.int .i64 5] 3)
      refine (radd_any b n c w3.heap.size 1 1 40 (dgt V) (fun _ => 5) (by omega) (fun k _ => dgt_255 V k) (fun _ _ => by omega) (by omega) (by omega) _ (HDG3.out.kept m4) (five_dg w3)).mono ?_
      rintro e w5 ⟨⟨g5, rfl, row5, hge5⟩, m5⟩
      rw [le_zx_dgt V n 40 HVn.out HV40.out, le_zx_ge 1 (fun _ => 5) 40 (by omega), le_five] at row5
      have HD5 := Lib.hid row5.dg
      have HM5 := Lib.hid (HM3.out.tr (m4.tr m5))
      have HDG5 := Lib.hid (HDG3.out.kept (m4.tr m5))
      clear row5 m5 m4 hge5
      go_wp2_with fail
      refine (high_any g5 40 40 (V + 5) (by omega) (by omega) HV5.out _ HD5.out).mono ?_
      rintro e w6 ⟨⟨g6, rfl, row6, hge6⟩, m6⟩
      have HD6 := Lib.hid row6.dg
      have HM6 := Lib.hid (HM5.out.tr m6)
      have HDG6 := Lib.hid (HDG5.out.kept m6)
      have HD56 := Lib.hid (HD5.out.kept m6)
      clear row6 m6 hge6
      by_cases hmore : V + 5 < T130
      · have HZ1 : Hid (decide ((V + 5) / T130 = 0) = true) := decide_eq_true ((high_zero (V + 5)).2 hmore)
        have HFIN := Lib.hid ((red_less V HBIG.out hmore).trans HVp.out)
        clear hmore
        go_wp2_with fail
        refine (zero_any g6 40 40 ((V + 5) / T130) (by omega) (Nat.lt_of_le_of_lt (Nat.div_le_self _ _) HV5.out) _ HD6.out true HZ1.out).mono ?_
        rintro e w7 ⟨rfl, m7⟩
        have HM7 := Lib.hid (HM6.out.tr m7)
        have HDG7 := Lib.hid (HDG6.out.kept m7)
        clear m7
        go_wp2_with fail
        refine (low_any b n c V (by omega) (by omega) _ HDG7.out).mono ?_
        rintro e w8 ⟨⟨g8, rfl, row8, hge8⟩, m8⟩
        rw [HFIN.out] at row8
        have HD8 := Lib.hid row8
        have HM8 := Lib.hid (HM7.out.tr m8)
        clear row8 m8 hge8
        go_wp2_with fail
        go_ret
        exact ⟨⟨_, rfl, HD8.out⟩, HM8.out⟩
      · have HZ1 : Hid (decide ((V + 5) / T130 = 0) = false) := decide_eq_false (fun e => hmore ((high_zero (V + 5)).1 e))
        have HFIN := Lib.hid ((red_more V HBIG.out (Nat.le_of_not_lt hmore)).trans HVp.out)
        clear hmore
        go_wp2_with fail
        refine (zero_any g6 40 40 ((V + 5) / T130) (by omega) (Nat.lt_of_le_of_lt (Nat.div_le_self _ _) HV5.out) _ HD6.out false HZ1.out).mono ?_
        rintro e w7 ⟨rfl, m7⟩
        have HM7 := Lib.hid (HM6.out.tr m7)
        have HD57 := Lib.hid (HD56.out.kept m7)
        clear m7
        go_wp2_with fail
        refine (low_any g5 40 40 (V + 5) (by omega) (by omega) _ HD57.out).mono ?_
        rintro e w8 ⟨⟨g8, rfl, row8, hge8⟩, m8⟩
        rw [HFIN.out] at row8
        have HD8 := Lib.hid row8
        have HM8 := Lib.hid (HM7.out.tr m8)
        clear row8 m8 hge8
        go_wp2_with fail
        go_ret
        exact ⟨⟨_, rfl, HD8.out⟩, HM8.out⟩
    · have hi2 : i < 3 := by
        by_cases e : i = 3
        · subst e; exact absurd HVb.out hbig
        · omega
      have HZ0 : Hid (decide (V / T130 = 0) = false) := decide_eq_false (fun e => hbig ((high_zero V).1 e))
      have HNB := Lib.hid (rbd_step i V hi2 HVb.out (Nat.le_of_not_lt hbig))
      have HNP := Lib.hid ((fold_mod V).trans HVp.out)
      have H5H : Hid (5 * (V / T130) < 256 ^ 40) := by
        show 5 * (V / T130) < 256 ^ 40
        exact Nat.lt_of_le_of_lt (Nat.le_add_left _ _) (lt_35_40 _ (rbd_le _ _ HNB.out))
      have H5N : Hid (5 * (V / T130) < 256 ^ (n + 2)) := by
        show 5 * (V / T130) < 256 ^ (n + 2)
        have h1 := HH.out
        rw [Nat.pow_add]
        have : 5 * (V / T130) < 5 * 256 ^ n := Nat.mul_lt_mul_of_pos_left h1 (by decide)
        refine Nat.lt_of_lt_of_le this ?_
        rw [Nat.mul_comm]
        exact Nat.mul_le_mul_left _ (by decide)
      clear hbig
      go_wp2_with fail
      refine (high_any b n c V (by omega) (by omega) HVn.out _ HDG.out).mono ?_
      rintro e w2 ⟨⟨g2, rfl, row2, hge2⟩, m2⟩
      have HD2 := Lib.hid row2.dg
      have HM2 := Lib.hid (HM.out.tr m2)
      have HDG2 := Lib.hid (HDG.out.kept m2)
      clear row2 m2 hge2
      go_wp2_with fail
      refine (zero_any g2 n n (V / T130) (by omega) HH.out _ HD2.out false HZ0.out).mono ?_
      rintro e w3 ⟨rfl, m3⟩
      have HM3 := Lib.hid (HM2.out.tr m3)
      have HDG3 := Lib.hid (HDG2.out.kept m3)
      clear m3
      go_wp2_with fail
      refine (low_any b n c V (by omega) (by omega) _ HDG3.out).mono ?_
      rintro e w4 ⟨⟨g4, rfl, row4, hge4⟩, m4⟩
      have HD4 := Lib.hid row4.dg
      have HM4 := Lib.hid (HM3.out.tr m4)
      have HDG4 := Lib.hid (HDG3.out.kept m4)
      clear row4 m4 hge4
      go_wp2_with fail
      have ma := (Mod.refl (fun _ => False) w4).alloc (.cells #[.int .i64 5] 3)
      have H5 := Lib.hid (five_dg w4)
      have HD4' := Lib.hid (HD4.out.kept ma)
      have HM4' := Lib.hid (HM4.out.tr ma)
      refine (high_any b n c V (by omega) (by omega) HVn.out _ (HDG4.out.kept ma)).mono ?_
      clear ma
      rintro e w5 ⟨⟨g5, rfl, row5, hge5⟩, m5⟩
      have HD5 := Lib.hid row5.dg
      have HM5 := Lib.hid (HM4'.out.tr m5)
      have H55 := Lib.hid (H5.out.kept m5)
      have HD45 := Lib.hid (HD4'.out.kept m5)
      clear row5 m5 hge5
      go_wp2_with fail
      refine (rtimes_any w4.heap.size 1 1 g5 n n (fun _ => 5) (dgt (V / T130)) (fun _ _ => by omega) (fun k _ => dgt_255 _ k) (by omega) (by omega) _ H55.out HD5.out).mono ?_
      rintro e w6 ⟨⟨g6, rfl, row6, hge6⟩, m6⟩
      rw [le_five, show le (dgt (V / T130)) n = V / T130 by rw [le_dgt, Nat.mod_eq_of_lt HH.out]] at row6
      have HD6 := Lib.hid row6.dg
      have HM6 := Lib.hid (HM5.out.tr m6)
      have HD46 := Lib.hid (HD45.out.kept m6)
      clear row6 m6 hge6
      go_wp2_with fail
      refine (radd_any g4 17 17 g6 (1 + n + 1) (1 + n + 1) 40 (dgt (V % T130)) (dgt (5 * (V / T130))) (by omega) (fun k _ => dgt_255 _ k) (fun k _ => dgt_255 _ k) (by omega) (by omega) _ HD46.out HD6.out).mono ?_
      rintro e w7 ⟨⟨g7, rfl, row7, hge7⟩, m7⟩
      rw [le_zx_dgt (V % T130) 17 40 (lt_T_17 V) (Nat.lt_of_lt_of_le (lt_T_17 V) (Nat.pow_le_pow_right (by decide) (by decide))), le_zx_dgt (5 * (V / T130)) (1 + n + 1) 40 (by rw [show 1 + n + 1 = n + 2 by omega]; exact H5N.out) H5H.out] at row7
      have HD7 := Lib.hid row7.dg
      have HM7 := Lib.hid (HM6.out.tr m7)
      clear row7 m7 hge7
      go_wp2_with fail
      go_roundw
      case rel => exact ⟨i + 1, 40, g7, 40, V % T130 + 5 * (V / T130), by omega, by go_num, rfl, HD7.out, by omega, by omega, lt_35_40 _ (rbd_le _ _ HNB.out), HNB.out, HNP.out, HM7.out⟩
      case measure => simp [intOf]; omega
end Go.Proofs.Ytpnpmploaaenlaa
namespace Go.Proofs.Ytpnpmploaaenlaa
open Go.RowKit
set_option linter.unusedSimpArgs false
set_option linter.unusedVariables false

theorem own_ge {w : World} {base size n : Nat} {e : TypeId} {v : Value} {xs : List Value} (h : w.ownsRow base e size v n xs) (k : Nat) (hk : some k = v.ownBlock) : base ≤ k := by
  rcases h.2 with ⟨h2, _⟩ | ⟨g, cap, cur, hv, hg, _⟩
  · subst h2; simp [Value.ownBlock] at hk
  · subst hv; simp [Value.ownBlock] at hk; omega
theorem own_grown {W w2 w3 : World} {size n : Nat} {e : TypeId} {v : Value} {xs : List Value} (hm : Mod (fun _ => False) W w2) (own : w2.ownsRow W.heap.size e size v n xs) (g : w2.grownBy w3 v.ownBlock) : Mod (fun _ => False) W w3 :=
  hm.new (S := fun k => some k = v.ownBlock) ⟨g.os, g.tape, g.output, g.size, fun k hk hs => g.block k hk hs⟩ (fun i e => own_ge own i e)
theorem own_mod {S : Nat → Prop} {w w' : World} {base size n : Nat} {e : TypeId} {v : Value} {xs : List Value} (m : Mod S w w') (h : w.ownsRow base e size v n xs) (hs : ∀ g, base ≤ g → S g → False) : w'.ownsRow base e size v n xs := by
  obtain ⟨h1, h2⟩ := h
  refine ⟨h1, ?_⟩
  rcases h2 with h2 | ⟨g, cap, cur, hv, hg, hh, r⟩
  · exact .inl h2
  · exact .inr ⟨g, cap, cur, hv, hg, m.blk hh (fun s => hs g hg s), r⟩
theorem own_form {w : World} {base size n : Nat} {e : TypeId} {v : Value} {xs : List Value} (h : w.ownsRow base e size v n xs) : ∃ a cap, v = .slice a n cap := by
  rcases h.2 with ⟨h2, hn⟩ | ⟨g, cap, cur, hv, _⟩
  · subst hn; exact ⟨_, _, h2⟩
  · exact ⟨_, _, hv⟩
theorem info5 : (Try.prog.info? 5).map (fun i => (i.zero, i.size, i.bytes)) = some (some (.int .u8 0), 1, 1) := by kernel_rfl
/-- v is the call's own row, its bytes l; nothing elder is touched. -/
def Acc (W w : World) (v : Value) (l : List UInt8) : Prop := w.ownsRow W.heap.size 5 1 v l.length (Lib.byteCells l) ∧ Mod (fun _ => False) W w
theorem Acc.nil (W : World) : Acc W W (.slice none 0 0) [] := ⟨World.ownsRow_nil _ _ _ _, Mod.refl _ _⟩
theorem Acc.drew {W w : World} {v : Value} {l : List UInt8} (h : Acc W w v l) : Acc W w.drew v l := ⟨h.1, h.2.drew⟩
theorem Acc.mod {W w w' : World} {v : Value} {l : List UInt8} (h : Acc W w v l) (m : Mod (fun _ => False) w w') : Acc W w' v l := ⟨own_mod m h.1 (fun _ _ e => e), h.2.tr m⟩
theorem acc_push {W w : World} {v : Value} {l : List UInt8} (h : Acc W w v l) (hl : l.length ≤ 1000000) (b : UInt8) (c : Int) (hc : c = (b.toNat : Int)) (w1 : World) (hw1 : w1 = w.alloc (.cells #[.int .u8 c] 5) ∨ w1 = (w.alloc (.cells #[.int .u8 c] 5)).drew) :
    ∃ v' w', (Builtin.append_ #[33, 33] 33 #[v, .slice (some ⟨w.heap.size, 0, none⟩) 1 1]).run Try.prog w1 = .ok v' w' ∧ Acc W w' v' (l ++ [b]) := by
  obtain ⟨i0, hi, hz0, hz1, hz2⟩ := info_parts info5
  subst hc
  have own1 : w1.ownsRow W.heap.size 5 1 v l.length (Lib.byteCells l) := by
    rcases hw1 with rfl | rfl
    · exact h.1.alloc _
    · exact h.1.alloc (w := w) _
  have m1 : Mod (fun _ => False) W w1 := by
    rcases hw1 with rfl | rfl
    · exact h.2.alloc _
    · exact (h.2.alloc _).drew
  have c1 : w1.cell? ⟨w.heap.size, 0, none⟩ = some (.int .u8 (b.toNat : Int)) := by
    rcases hw1 with rfl | rfl
    · exact cell_new w _ _ _ _ rfl
    · exact cell_new w _ _ _ _ rfl
  have hs := m1.size
  obtain ⟨v', w3, hrun, hown, hgrow, _⟩ := run_append_own (P := Try.prog) (w := w1) W.heap.size 33 33 5 i0 (.int .u8 0) 1 1 Try.underlying33 hi hz0 hz1 hz2 rfl (by decide) _ _ _ own1 ⟨w.heap.size, 0, none⟩ 1 1 [.int .u8 (b.toNat : Int)] rfl
    (by intro j u hj
        match j, hj with
        | 0, hj => simp at hj; subst hj; exact c1) (by intro u hu; simp at hu; subst hu; rfl) (by unfold maxLen; omega) (by omega) hs
  refine ⟨v', w3, hrun, ?_, own_grown m1 own1 hgrow⟩
  rw [Lib.byteCells_append, List.length_append]
  exact hown
theorem wpList_push {W w : World} {ops : Array Oper} {rest : List Oper} {o : Oper} {a : Act} {Q : Exit → Act → World → Prop} (hgd : o.guard = none) (s x : Operand) (hty : o.type = 33)
    (ho : o.op = .call { callee := .builtin .append, args := #[s, x], argTypes := #[33, 33] }) {v : Value} {l : List UInt8} (hs : a.eval s = v) (h : Acc W w v l) (hl : l.length ≤ 1000000) (b : UInt8) (c : Int) (hc : c = (b.toNat : Int))
    (hx : a.eval x = .slice (some ⟨w.heap.size, 0, none⟩) 1 1)
    (hk : ∀ v' w', Acc W w' v' (l ++ [b]) → wpList Try.prog ops Q rest (a.put o.dst v') w') : wpList Try.prog ops Q (o :: rest) a (w.alloc (.cells #[.int .u8 c] 5)) := by
  obtain ⟨v', w', hrun, hA⟩ := acc_push h hl b c hc _ (.inl rfl)
  refine wpList_plain hgd fun K hK => ?_
  unfold Oper.wp execOp
  simp only [ho, hty, resolve, invoke, builtin, Sem.run_bind, Sem.run_pure, Result.andThen_ok, List.map_toArray, List.map_cons, List.map_nil, hs, hx, hrun]
  exact hK _ _ (hk v' w' hA)
theorem Acc.str {W w : World} {v : Value} {l : List UInt8} (h : Acc W w v l) : (convert 33 9 v).run Try.prog w = .ok (.string ⟨l.toArray⟩) w := by
  rcases h.1.2 with ⟨hv, hn⟩ | ⟨g, cap, cur, hv, hg, hh, hc1, hc2, hsz, htk⟩
  · obtain rfl : l = [] := List.eq_nil_of_length_eq_zero hn
    subst hv
    exact Lib.run_convert_nil_bytes w 33 9 5 0 Try.underlying33 Try.underlying5 Try.underlying9
  · subst hv
    exact run_convert_bytes_back w 33 9 5 ⟨g, 0, none⟩ cap l Try.underlying33 Try.underlying5 Try.underlying9 (Lib.bytes_of_row hh (by simpa using htk))

def dgL (s : ByteArray) (k : Nat) : List Value := (List.range k).map fun j => .int .i64 ((byteAt s j : Nat) : Int)
theorem dgL_succ (s : ByteArray) (k : Nat) : dgL s (k + 1) = dgL s k ++ [.int .i64 ((byteAt s k : Nat) : Int)] := by
  unfold dgL; rw [List.range_succ]; simp
theorem own_dg {w : World} {base n cap : Nat} {a : Option Addr} {xs : List Value} (h : w.ownsRow base 3 1 (.slice a n cap) n xs) (hn : 0 < n) : ∃ g, a = some ⟨g, 0, none⟩ ∧ base ≤ g ∧ ∀ k v, k < n → xs[k]? = some v → w.cell? ⟨g, k, none⟩ = some v := by
  rcases h.2 with ⟨h2, hn'⟩ | ⟨g, cap', cur, hv, hg, hh, hc1, hc2, hsz, htk⟩
  · omega
  · simp at hv
    obtain ⟨rfl, rfl⟩ := hv
    refine ⟨g, rfl, hg, fun k v hk hv => ?_⟩
    refine blk_cell hh ?_
    have h3 : (cur.toList.take (n * 1))[k]? = some v := by rw [htk]; exact hv
    rw [List.getElem?_take, if_pos (by omega)] at h3
    simpa using h3
theorem dgL_dg {w : World} {base n cap : Nat} {a : Option Addr} {s : ByteArray} (h : w.ownsRow base 3 1 (.slice a n cap) n (dgL s n)) (hn : 0 < n) : ∃ g, a = some ⟨g, 0, none⟩ ∧ base ≤ g ∧ Dg w g n (byteAt s) := by
  obtain ⟨g, e, hg, hc⟩ := own_dg h hn
  refine ⟨g, e, hg, fun k hk => hc k _ hk ?_⟩
  unfold dgL
  rw [List.getElem?_map, List.getElem?_range hk]
  rfl
set_option maxRecDepth 100000 in
set_option maxHeartbeats 4000000 in
theorem digits_any (s : ByteArray) (w : World) (hs : s.size ≤ 100000) :
    Calls Try.prog 49 #[.string s] w fun e w' => ∃ v, e = .returned v ∧ w'.ownsRow w.heap.size 3 1 v s.size (dgL s s.size) ∧ Mod (fun _ => False) w w' := by
  obtain ⟨i0, hi, hz0, hz1, hz2⟩ := info_parts info3
  go_enter Try.func49, Try.ntmps49
  go_wp2_with fail
  go_loopw [3, 4] (fun v i wr => ∃ k : Nat, k ≤ s.size ∧ i = .int .i64 (k : Int) ∧ wr.ownsRow w.heap.size 3 1 v k (dgL s k) ∧ Mod (fun _ => False) w wr) (fun _ i _ => s.size - (intOf i).toNat)
  case atStart => exact ⟨0, by omega, rfl, World.ownsRow_nil _ _ _ _, Mod.refl _ _⟩
  case round =>
    obtain ⟨k, hk, rfl, own, hmr⟩ := hrel
    by_cases hlt : k < s.size
    · have hi0 : (0 : Int) ≤ (k : Int) := by omega
      have hi1 : (k : Int) < ((s.size : Nat) : Int) := by omega
      have hget : s[k].toNat = byteAt s k := byteAt_get s k hlt
      have HL := Lib.hid (dgL_succ s k)
      have hxb := byteAt_lt s k
      have hw2 := hmr.size
      generalize byteAt s k = x at *
      go_wp2_with (at_builtin; refine wpList_append_own _ rfl (.tmp 11) (.tmp 16) 47 rfl w.heap.size 3 i0 (.int .i64 0) 1 8 Try.underlying47 hi hz0 hz1 hz2 rfl (by decide) _ _ _ rfl (own.alloc _) ⟨wr.heap.size, 0, none⟩ 1 1 [.int .i64 (x : Int)] rfl rfl ?c1 ?c2 ?c3 ?c4 ?c5 ?_)
      case c1 =>
        intro j u hj
        match j, hj with
        | 0, hj => simp at hj; subst hj; simp [Addr.add]
      case c2 => intro u hu; simp at hu; subst hu; rfl
      case c3 => unfold maxLen; omega
      case c4 => omega
      case c5 => simp; omega
      intro v' w3 hown hgrow _
      have hm3 := own_grown (hmr.alloc _) (own.alloc (.cells #[.int .i64 (x : Int)] 3)) hgrow
      rw [← HL.out] at hown
      clear own hgrow hmr
      go_wp2_with fail
      go_roundw
      case rel => exact ⟨k + 1, by omega, by go_num, hown, hm3⟩
      case measure => simp [intOf]; omega
    · obtain rfl : k = s.size := by omega
      have HO := Lib.hid own
      clear own
      go_wp2_with fail
      go_ret
      exact ⟨_, rfl, HO.out, hmr⟩
theorem digits_dg (s : ByteArray) (w : World) (hs : s.size ≤ 100000) (h0 : 0 < s.size) :
    Calls Try.prog 49 #[.string s] w fun e w' => (∃ g c, e = .returned (.slice (some ⟨g, 0, none⟩) s.size c) ∧ Dg w' g s.size (byteAt s)) ∧ Mod (fun _ => False) w w' := by
  refine (digits_any s w hs).mono ?_
  rintro e w' ⟨v, rfl, own, m⟩
  obtain ⟨a, c, rfl⟩ := own_form own
  obtain ⟨g, rfl, _, hd⟩ := dgL_dg own h0
  exact ⟨⟨g, c, rfl, hd⟩, m⟩
end Go.Proofs.Ytpnpmploaaenlaa
