/- ClockStable: the time up to which nothing can come any more. -/
import Derived.Test.YtlphfkigjkebfaaApp
namespace Go.Proofs.Ytlphfkigjkebfaa
open Go.RowKit
set_option linter.unusedSimpArgs false
set_option linter.unusedVariables false

theorem new2_at (w : World) (a b : Value) (T : TypeId) (j : Nat) (u : Value) (h : [a, b][j]? = some u) : (w.alloc (.cells #[a, b] T)).cell? ((⟨w.heap.size, 0, none⟩ : Addr).add j) = some u := by
  match j, h with
  | 0, h => simp at h; subst h; simp [Addr.add]
  | 1, h => simp at h; subst h; simp [Addr.add]
theorem own_below {w : World} {base size n : Nat} {e : TypeId} {v : Value} {xs : List Value} (h : w.ownsRow base e size v n xs) : ∀ g, some g = v.ownBlock → g < w.heap.size := by
  intro g hg
  rcases h.2 with ⟨h2, _⟩ | ⟨g', cap, cur, hv, _, hh, _⟩
  · subst h2; simp [Value.ownBlock] at hg
  · subst hv; simp [Value.ownBlock] at hg; subst hg; exact lt_of_block hh
theorem own_apart {w : World} {v v' : Value} {B size n : Nat} {e : TypeId} {xs : List Value} (h : ∀ g, some g = v.ownBlock → g < B) (h' : w.ownsRow B e size v' n xs) : v'.ownBlock = none ∨ v'.ownBlock ≠ v.ownBlock := by
  cases hb : v'.ownBlock with
  | none => exact .inl rfl
  | some g =>
    refine .inr (fun e => ?_)
    have h1 := h g e
    have h2 := own_ge h' g hb.symm
    omega
theorem own_old {w : World} {v : Value} {B size n b : Nat} {e : TypeId} {xs : List Value} (h : w.ownsRow B e size v n xs) (hb : b < B) : some b ≠ v.ownBlock := fun e => by have := own_ge h b e; omega
theorem own_cell {w w' : World} {row : Option Nat} (g : w.grownBy w' row) {p : Addr} {v : Value} (h : w.cell? p = some v) (hb : some p.block ≠ row) : w'.cell? p = some v :=
  (World.cell?_of_block (w := w) (g.block p.block (World.block_lt_of_cell? w _ h) hb)).trans h
theorem wpList_append_own_g {P : Program} {w : World} {ops : Array Oper} {rest : List Oper} {o : Oper} {a : Act} {Q : Exit → Act → World → Prop} (hw : Region.wanted o (yielded ops a.tmps) = true) (s x : Operand) (t : TypeId)
    (ho : o.op = .call { callee := .builtin .append, args := #[s, x], argTypes := #[t, t] })
    (base : Nat) (e : TypeId) (i : TypeInfo) (z : Value) (size bytes : Nat) (ht : P.underlying t = some (.slice e)) (hi : P.info? e = some i) (hz : i.zero = some z)
    (hsize : i.size = size) (hby : i.bytes = bytes) (hzs : z.cells.size = size) (hsz : 0 < size)
    (v : Value) (n : Nat) (xs : List Value) (hs : a.eval s = v) (hown : w.ownsRow base e size v n xs)
    (ad : Addr) (m c : Nat) (news : List Value) (hx : a.eval x = .slice (some ad) m c) (hl : news.length = m * size) (hnews : ∀ j u, news[j]? = some u → w.cell? (ad.add j) = some u) (h1 : ∀ u ∈ news, u.oneCell' = true)
    (h63 : n + m ≤ maxLen) (hbytes : (n + m) * bytes ≤ 140737488355328) (hbase : base ≤ w.heap.size)
    (h : ∀ v' w', w'.ownsRow base e size v' (n + m) (xs ++ news) → w.grownBy w' v.ownBlock → (v' = .slice none 0 0 ↔ v = .slice none 0 0 ∧ m = 0) → wpList P ops Q rest (a.put o.dst v') w') : wpList P ops Q (o :: rest) a w :=
  wpList_step fun K hK => by
    rw [if_pos hw]
    exact wp_append_own w s x t ho base e i z size bytes ht hi hz hsize hby hzs hsz v n xs hs hown ad m c news hx hl hnews h1 h63 hbytes hbase fun v' w' h2 h3 h4 => hK _ _ (h v' w' h2 h3 h4)
theorem flat_one (zs : List (Int × Int)) : ∀ u ∈ flat zs, u.oneCell' = true := by
  intro u hu
  unfold flat at hu
  rw [List.mem_flatMap] at hu
  obtain ⟨z, _, h⟩ := hu
  simp at h
  rcases h with rfl | rfl <;> rfl
theorem info23 : (Try.prog.info? 23).map (fun i => (i.zero, i.size, i.bytes)) = some (some (.agg #[.int .i64 0, .int .i64 0]), 2, 16) := by kernel_rfl
set_option maxRecDepth 100000 in
set_option maxHeartbeats 8000000 in
theorem law_stable (a b : Option Addr) (n m cap cap' : Nat) (z : Nat → Int × Int) (us : Nat → Int) (x0 x1 : Int) (w : World) (hn0 : n ≤ 9223372036854775807) (hm0 : m ≤ 9223372036854775807) (hz : Stamps w a n z) (hu : Ints w b m us) :
    Calls Try.prog 8 #[.slice a n cap, .slice b m cap', .agg #[.int .i64 x0, .int .i64 x1]] w fun e w' => e = .returned (.bool true) ∧ Mod (fun _ => False) w w' := by
  by_cases hn : n ≤ 40
  · by_cases hm : m ≤ 40
    · obtain ⟨i23, hi, hz0, hz1, hz2⟩ := info_parts info23
      obtain ⟨i3, ji, jz0, jz1, jz2⟩ := info_parts info3
      have HZ := Lib.hid hz
      have HU := Lib.hid hu
      clear hz hu
      go_enter Try.func8, Try.ntmps8
      go_wp2_with fail
      have n1 := (Mod.refl (fun _ => False) w).alloc (.cells #[.int .i64 x0, .int .i64 x1] 23)
      refine (stable_any _ _ _ _ _ _ z us _ (by omega) (by omega) (HZ.out.kept n1) (HU.out.kept n1)).mono ?_
      rintro e w1 ⟨rfl, m1⟩
      have k0 := m1.at (cell_new w #[.int .i64 x0, .int .i64 x1] 23 0 _ rfl)
      have k1 := m1.at (cell_new w #[.int .i64 x0, .int .i64 x1] 23 1 _ rfl)
      replace m1 := n1.tr m1
      clear n1
      go_wp2_with fail
      refine (rstable_any _ _ _ _ _ _ z us _ (by omega) (by omega) (HZ.out.kept m1) (HU.out.kept m1)).mono ?_
      rintro e w2 ⟨rfl, m2⟩
      replace k0 := m2.at k0
      replace k1 := m2.at k1
      have hws : w.heap.size < w2.heap.size := World.block_lt_of_cell? w2 _ k0
      replace m2 := m1.tr m2
      clear m1
      obtain ⟨q, hq⟩ : ∃ q, q = leastF z n us m := ⟨_, rfl⟩
      rw [← hq]
      have HQ := Lib.hid hq
      clear hq
      obtain ⟨B1, r1⟩ := reads_stamps (HZ.out.kept m2)
      obtain ⟨fl, hfl⟩ : ∃ fl, fl = flat ((List.range n).map z) := ⟨_, rfl⟩
      rw [← hfl] at r1
      have h1 : ∀ u ∈ fl, u.oneCell' = true := by rw [hfl]; exact flat_one _
      have HF := Lib.hid hfl
      have H1 := Lib.hid h1
      clear hfl h1
      go_wp2_with (at_builtin; refine wpList_append_any _ rfl (.tmp 27) (.tmp 28) 29 rfl w2.heap.size 23 i23 (.agg #[.int .i64 0, .int .i64 0]) 2 16 Try.underlying29 hi hz0 hz1 hz2 rfl (by decide) (.slice none 0 0) 0 [] rfl (World.ownsRow_nil _ _ _ _) B1 a n cap fl rfl r1 H1.out (by unfold maxLen; omega) (by omega) (Nat.le_refl _) ?_)
      intro v3 w3 own3 g3 _
      have m3 := own_grown (Mod.refl _ w2) (World.ownsRow_nil w2 w2.heap.size 23 2) g3
      have a3 := m3.size
      try simp only [Nat.zero_add, List.nil_append] at own3
      replace k0 := m3.at k0
      replace k1 := m3.at k1
      clear g3 r1
      obtain ⟨B2, r2⟩ := reads_ints (HU.out.kept (m2.tr m3))
      obtain ⟨ul, hul⟩ : ∃ ul, ul = (List.range m).map fun j => Value.int .i64 (us j) := ⟨_, rfl⟩
      rw [← hul] at r2
      have h2 : ∀ u ∈ ul, u.oneCell' = true := by
        intro u hu
        rw [hul] at hu
        simp at hu
        obtain ⟨_, _, rfl⟩ := hu
        rfl
      have HL := Lib.hid hul
      have H2 := Lib.hid h2
      clear hul h2
      go_wp2_with (at_builtin; refine wpList_append_any _ rfl (.tmp 30) (.tmp 31) 50 rfl w3.heap.size 3 i3 (.int .i64 0) 1 8 Try.underlying50 ji jz0 jz1 jz2 rfl (by decide) (.slice none 0 0) 0 [] rfl (World.ownsRow_nil _ _ _ _) B2 b m cap' ul rfl r2 H2.out (by unfold maxLen; omega) (by omega) (Nat.le_refl _) ?_)
      intro v4 w4 own4 g4 _
      have m4 := own_grown (Mod.refl _ w3) (World.ownsRow_nil w3 w3.heap.size 3 1) g4
      have a4 := m4.size
      try simp only [Nat.zero_add, List.nil_append] at own4
      replace k0 := m4.at k0
      replace k1 := m4.at k1
      have own3' := own_mod m4 own3 (fun _ _ e => e)
      have hm4 : Mod (fun _ => False) w w4 := (m2.tr m3).tr m4
      clear g4 r2
      have own3'' : ∀ g, some g = v3.ownBlock → g < w3.heap.size := own_below own3
      clear own3
      have own3a := own3'.alloc (.cells #[.int .i64 x0, .int .i64 x1] 23)
      go_wp2_with (at_builtin; refine wpList_append_own _ rfl (.tmp 33) (.tmp 35) 29 rfl w2.heap.size 23 i23 (.agg #[.int .i64 0, .int .i64 0]) 2 16 Try.underlying29 hi hz0 hz1 hz2 rfl (by decide) _ _ _ rfl own3a ⟨w4.heap.size, 0, none⟩ 1 1 [.int .i64 x0, .int .i64 x1] rfl rfl ?c1 ?c2 ?c3 ?c4 ?c5 ?_)
      case c1 => intro j u h; exact new2_at _ _ _ _ _ _ h
      case c2 => intro u hu; simp at hu; rcases hu with rfl | rfl <;> rfl
      case c3 => unfold maxLen; omega
      case c4 => omega
      case c5 => simp; omega
      intro v5 w5 own5 g5 _
      have hm5 : Mod (fun _ => False) w w5 := m2.tr (own_grown ((m3.tr m4).alloc _) own3a g5)
      have own4' : w5.ownsRow w3.heap.size 3 1 v4 m ul := by
        refine World.ownsRow.kept (own4.alloc (.cells #[.int .i64 x0, .int .i64 x1] 23)) g5 ?_
        exact own_apart own3'' own4
      replace k0 := (own_cell g5 (((Mod.refl (fun _ => False) w4).alloc (.cells #[.int .i64 x0, .int .i64 x1] 23)).at k0) (own_old own3a hws))
      replace k1 := (own_cell g5 (((Mod.refl (fun _ => False) w4).alloc (.cells #[.int .i64 x0, .int .i64 x1] 23)).at k1) (own_old own3a hws))
      rw [HF.out, flat_snoc] at own5
      obtain ⟨a5, cap5, rfl⟩ := own_form own5
      have st5 := own_stamps own5
      have hq5 := more_stamps z n m us (x0, x1)
      rw [← HQ.out] at hq5
      have hu5 := HU.out.kept hm5
      have HST := Lib.hid st5
      have HU5 := Lib.hid hu5
      have sz5 : w4.heap.size ≤ w5.heap.size := Nat.le_trans (by simp) g5.size
      clear own3a own3' own3'' own4 own5 g5 st5 hu5
      go_wp2_with fail
      refine (stable_any _ _ _ _ _ _ _ us _ (by omega) (by omega) HST.out HU5.out).mono ?_
      rintro e w6 ⟨rfl, m6⟩
      obtain ⟨q5, hq6⟩ : ∃ q5, q5 = leastF (fun j => ((List.range n).map z ++ [(x0, x1)]).getD j (0, 0)) (n + 1) us m := ⟨_, rfl⟩
      rw [← hq6] at hq5
      rw [← hq6]
      clear hq6
      have hd5 : decide (q ≤ q5) = true := by simpa using hq5
      replace k0 := m6.at k0
      replace k1 := m6.at k1
      have own6 := own_mod m6 own4' (fun _ _ e => e)
      replace hm5 := hm5.tr m6
      have sz56 : w4.heap.size ≤ w6.heap.size := Nat.le_trans sz5 m6.size
      clear own4' m6 hq5
      by_cases hm0 : m = 0
      · subst hm0
        go_wp2_with fail
        refine (awake_any _).mono ?_
        rintro e w7 ⟨rfl, m7⟩
        go_wp2_with fail
        go_ret
        exact ⟨rfl, hm5.tr m7⟩
      · have hm1 : ((m : Int) == 0) = false := by rw [beq_eq_false_iff_ne]; omega
        have hb6 := hm5.size
        have hw36 : w3.heap.size ≤ w6.heap.size := by have := m4.size; have := sz56; omega
        have own6a := own6.alloc (.cells #[.int .i64 x1] 3)
        go_wp2_with (at_builtin; refine wpList_append_own_g (by rfl) (.tmp 47) (.tmp 50) 50 rfl w3.heap.size 3 i3 (.int .i64 0) 1 8 Try.underlying50 ji jz0 jz1 jz2 rfl (by decide) _ _ _ rfl own6a ⟨w6.heap.size, 0, none⟩ 1 1 [.int .i64 x1] rfl rfl ?c1 ?c2 ?c3 ?c4 ?c5 ?_)
        case c1 =>
          intro j u hj
          match j, hj with
          | 0, hj => simp at hj; subst hj; simp [Addr.add]
        case c2 => intro u hu; simp at hu; subst hu; rfl
        case c3 => unfold maxLen; omega
        case c4 => omega
        case c5 => simp; omega
        intro v7 w7 own7 g7 _
        have hm7 : Mod (fun _ => False) w w7 := by
          refine (hm5.alloc (.cells #[.int .i64 x1] 3)).new (S := fun k => some k = v4.ownBlock) ⟨g7.os, g7.tape, g7.output, g7.size, fun k hk hs => g7.block k hk hs⟩ (fun i e => ?_)
          have := own_ge own6a i e
          have := m3.size
          omega
        have e7 : ul ++ [Value.int .i64 x1] = (List.range (m + 1)).map fun j => Value.int .i64 (if j < m then us j else x1) := by
          rw [HL.out, List.range_succ, List.map_append]
          congr 1
          · refine List.map_congr_left (fun j hj => ?_)
            rw [if_pos (List.mem_range.1 hj)]
          · simp
        rw [e7] at own7
        obtain ⟨a7, cap7, rfl⟩ := own_form own7
        have HI7 := Lib.hid (own_ints (x := fun j => if j < m then us j else x1) own7)
        have HS7 := Lib.hid (HZ.out.kept hm7)
        have hq7 := more_who z n m us (fun j => if j < m then us j else x1) (by omega) (fun j hj => if_pos hj)
        rw [← HQ.out] at hq7
        clear own6 own6a own7 g7 e7
        go_wp2_with fail
        refine (stable_any _ _ _ _ _ _ z _ _ (by omega) (by omega) HS7.out HI7.out).mono ?_
        rintro e w8 ⟨rfl, m8⟩
        obtain ⟨q7, hq8⟩ : ∃ q7, q7 = leastF z n (fun j => if j < m then us j else x1) (m + 1) := ⟨_, rfl⟩
        rw [← hq8] at hq7
        rw [← hq8]
        clear hq8
        have hd7 : decide (q7 ≤ q) = true := by simpa using hq7
        clear hq7
        go_wp2_with fail
        refine (awake_any _).mono ?_
        rintro e w9 ⟨rfl, m9⟩
        go_wp2_with fail
        go_ret
        exact ⟨rfl, (hm7.tr m8).tr m9⟩
    · skip
      clear hz hu
      go_enter Try.func8, Try.ntmps8
      go_wp2_with fail
      refine (awake_any _).mono ?_
      rintro e w9 ⟨rfl, m9⟩
      go_wp2_with fail
      go_ret
      exact ⟨rfl, ((Mod.refl _ _).alloc _).tr m9⟩
  · skip
    clear hz hu
    go_enter Try.func8, Try.ntmps8
    go_wp2_with fail
    refine (awake_any _).mono ?_
    rintro e w9 ⟨rfl, m9⟩
    go_wp2_with fail
    go_ret
    exact ⟨rfl, ((Mod.refl _ _).alloc _).tr m9⟩
end Go.Proofs.Ytlphfkigjkebfaa
