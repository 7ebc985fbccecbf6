/- ClockTwo: two clients that see each other's stamps never are given one stamp. -/
import Derived.Test.YtlphfkigjkebfaaTwoP
import Derived.Deep.DeepCutAuto
import Derived.Deep.CutBlock
namespace Go.Proofs.Ytlphfkigjkebfaa
open Go.RowKit
set_option linter.unusedSimpArgs false
set_option linter.unusedVariables false

def Good (T : Nat → Int) (lt lw : Int) (zs : List (Int × Int)) (k : Nat) : Prop :=
  (∀ j, j < 2 → 0 ≤ T j ∧ T j ≤ k) ∧ (∀ z ∈ zs, ∃ j : Nat, j < 2 ∧ z.2 = j + 1 ∧ z.1 ≤ T j) ∧ (lw = 0 ∨ ∃ j : Nat, j < 2 ∧ lw = j + 1 ∧ lt ≤ T (1 - j))
theorem good_start : Good (fun _ => 0) 0 0 [] 0 := ⟨fun _ _ => by simp, fun z hz => by simp at hz, .inl rfl⟩
theorem two_start (w : World) : Two w.heap.size w ((((w.alloc (.cells #[.int .i64 1, .int .i64 0] 45)).alloc (.cells #[.int .i64 2, .int .i64 0] 45)).alloc (.cells #[.pointer (some ⟨w.heap.size, 0, none⟩), .pointer (some ⟨w.heap.size + 1, 0, none⟩)] 48)).alloc (.cells #[.int .i64 0, .int .i64 0] 23)) (fun _ => 0) 0 0 (.slice none 0 0) 0 [] := by
  have n0 := fun (u : World) => (Mod.refl (fun _ => False) u).alloc
  refine ⟨fun j hj => ?_, ?_, ?_, World.ownsRow_nil _ _ _ _, (((n0 _ _).alloc _).alloc _).alloc _, rfl⟩
  · have h2 : j = 0 ∨ j = 1 := by omega
    rcases h2 with rfl | rfl
    · exact (((Clk.new w 1 0).alloc _).alloc _).alloc _
    · exact (((show Clk _ (w.heap.size + 1) 2 0 from new_block _ _ _ _ (by simp))).alloc _).alloc _
  · exact (n0 _ _).blk (new_block _ _ _ _ (by simp)) (fun e => e)
  · exact new_block _ _ _ _ (by simp)

theorem new2_at (w : World) (a b : Value) (T : TypeId) (j : Nat) (u : Value) (h : [a, b][j]? = some u) : (w.alloc (.cells #[a, b] T)).cell? ((⟨w.heap.size, 0, none⟩ : Addr).add j) = some u := by
  match j, h with
  | 0, h => simp at h; subst h; simp [Addr.add]
  | 1, h => simp at h; subst h; simp [Addr.add]
theorem own_lt {w : World} {base size n : Nat} {e : TypeId} {v : Value} {xs : List Value} (h : w.ownsRow base e size v n xs) : ∀ g, some g = v.ownBlock → g ≠ w.heap.size := by
  intro g hg
  rcases h.2 with ⟨h2, _⟩ | ⟨g', cap, cur, hv, _, hh, _⟩
  · subst h2; simp [Value.ownBlock] at hg
  · subst hv; simp [Value.ownBlock] at hg; subst hg; have := lt_of_block hh; omega
theorem info23 : (Try.prog.info? 23).map (fun i => (i.zero, i.size, i.bytes)) = some (some (.agg #[.int .i64 0, .int .i64 0]), 2, 16) := by kernel_rfl
theorem good_next {T : Nat → Int} {lt lw : Int} {zs : List (Int × Int)} {k kk : Nat} (h : Good T lt lw zs k) (hk : kk < 2) : Good (upd T kk (T kk + 1)) 0 0 (zs ++ [(T kk + 1, (kk : Int) + 1)]) (k + 1) := by
  obtain ⟨g1, g2, _⟩ := h
  refine ⟨fun j hj => ?_, fun z hz => ?_, .inl rfl⟩
  · have := g1 j hj
    have := g1 kk hk
    unfold upd; split <;> omega
  · rw [List.mem_append] at hz
    rcases hz with hz | hz
    · obtain ⟨j, hj, e1, e2⟩ := g2 z hz
      refine ⟨j, hj, e1, ?_⟩
      unfold upd
      by_cases e : j = kk
      · rw [if_pos e]; subst e; omega
      · rw [if_neg e]; exact e2
    · simp at hz
      subst hz
      exact ⟨kk, hk, rfl, by simp [upd]⟩
theorem good_see {T : Nat → Int} {zs : List (Int × Int)} {k kk : Nat} {x : Int} (h : Good T 0 0 zs k) (hk : kk < 2) (hx0 : 0 ≤ x) (hx : x ≤ k) : Good (upd T (1 - kk) (mxI (T (1 - kk)) x)) x ((kk : Int) + 1) zs k := by
  obtain ⟨g1, g2, _⟩ := h
  have hm := @mxI_le (T (1 - kk)) x
  refine ⟨fun j hj => ?_, fun z hz => ?_, .inr ⟨kk, hk, rfl, ?_⟩⟩
  · have := g1 j hj
    have := g1 (1 - kk) (by omega)
    unfold upd; split <;> omega
  · obtain ⟨j, hj, e1, e2⟩ := g2 z hz
    refine ⟨j, hj, e1, ?_⟩
    unfold upd
    by_cases e : j = 1 - kk
    · rw [if_pos e]; subst e; omega
    · rw [if_neg e]; exact e2
  · simp [upd]; omega

def AfterSee (T2 T1 : Nat → Int) (j : Nat) (x : Int) : Prop := T2 = T1 ∨ T2 = upd T1 j (mxI (T1 j) x)
set_option maxRecDepth 100000 in
set_option maxHeartbeats 8000000 in
theorem two_any (who sees : Int) (w : World) :
    Calls Try.prog 7 #[.int .i64 who, .int .i64 sees] w fun e w' => e = .returned (.bool true) ∧ Mod (fun _ => False) w w' := by
  go_enter Try.func7, Try.ntmps7
  go_wp2_with fail
  refine (new_yes _ _ (by omega) (by omega)).mono ?_
  rintro e w1 ⟨rfl, rfl⟩
  go_wp2_with fail
  refine (new_yes _ _ (by omega) (by omega)).mono ?_
  rintro e w1 ⟨rfl, rfl⟩
  go_wp2_with fail
  have hst := two_start w
  go_loopw [10, 12] (fun v i wr => ∃ (k : Nat) (T : Nat → Int) (lt lw : Int) (zs : List (Int × Int)), k ≤ 40 ∧ i = .int .i64 k ∧ zs.length = k ∧ Two w.heap.size w wr T lt lw v k zs ∧ Good T lt lw zs k) (fun _ i _ => 40 - (intOf i).toNat)
  case atStart => exact ⟨0, fun _ => 0, 0, 0, [], by omega, rfl, rfl, hst, good_start⟩
  case round =>
    clear hst
    obtain ⟨k, TT, lt, lw, zs, hk, rfl, hzl, two, good⟩ := hrel
    obtain ⟨a, cap, rfl⟩ := own_form two.own
    by_cases hlt : k < 40
    · have HZ := Lib.hid hzl
      clear hzl
      obtain ⟨kk, hkk, hkk2⟩ : ∃ kk : Nat, bits BinOp.and IntKind.i64 (who / 2 ^ k) 1 = (kk : Int) ∧ kk < 2 := ⟨(who / 2 ^ k % 2).toNat, by rw [i64_and1]; omega, by omega⟩
      obtain ⟨ss, hss, hss2⟩ : ∃ ss : Nat, bits BinOp.and IntKind.i64 (sees / 2 ^ k) 1 = (ss : Int) ∧ ss < 2 := ⟨(sees / 2 ^ k % 2).toNat, by rw [i64_and1]; omega, by omega⟩
      have hp := two.ptr hkk2
      have hk3 : (kk : Int) < 2 := by omega
      go_wp2_with fail
      have HGood := Lib.hid good
      obtain ⟨g1, g2, g3⟩ := good
      refine (next_yes _ _ _ _ (two.clk kk hkk2) (by omega) (g1 kk hkk2).1 (by have := (g1 kk hkk2).2; omega)).mono ?_
      rintro e w2 ⟨rfl, c2, m2⟩
      have two2 := two.tick hkk2 c2 m2
      clear two c2 m2 hp
      have two2a := two2
      have two3 := two2.kept ((Mod.refl (fun _ => False) w2).alloc (.cells #[.int .i64 (TT kk + 1), .int .i64 (kk + 1)] 23))
      have s3 := new_block w2 #[.int .i64 (TT kk + 1), .int .i64 (kk + 1)] 23 _ rfl
      go_wp2_with fail
      obtain ⟨W3, hW3⟩ : ∃ W3, W3 = w2.alloc (.cells #[.int .i64 (TT kk + 1), .int .i64 (kk + 1)] 23) := ⟨_, rfl⟩
      rw [← hW3] at two3 s3
      rw [← hW3]
      clear hW3 two2
      have hb30 := lt_of_block two2a.last
      have hg30 : ∀ g, some g = (Value.slice a k cap).ownBlock → g ≠ w2.heap.size := own_lt two2a.own
      obtain ⟨B3, hB3⟩ : ∃ B3, B3 = w2.heap.size := ⟨_, rfl⟩
      rw [← hB3] at hb30 hg30
      have HG := Lib.hid hg30
      clear hg30 two2a
      rw [← hB3] at s3
      rw [← hB3]
      clear hB3
      have q0 := (g1 kk hkk2).1
      have q1 := (g1 kk hkk2).2
      have hu : upd TT kk (TT kk + 1) kk = TT kk + 1 := by simp [upd]
      go_loopw [16] (fun j wi => ∃ jn : Nat, jn ≤ k ∧ j = .int .i64 jn ∧ Mod (fun _ => False) W3 wi) (fun j _ => k - (intOf j).toNat)
      case atStart => exact ⟨0, by omega, rfl, Mod.refl _ _⟩
      case round =>
        obtain ⟨jn, hjn, rfl, mi⟩ := hrel
        by_cases hjk : jn < k
        · obtain ⟨_, gb, ⟨z1, z2⟩, rfl, hgb, hz, y0, y1⟩ := own_at two3.own jn hjk
          replace y0 := mi.at y0; replace y1 := mi.at y1
          have x0 := mi.at (blk_cell s3 (o := 0) rfl)
          have x1 := mi.at (blk_cell s3 (o := 1) rfl)
          have hn : ¬ (z1 = TT kk + 1 ∧ z2 = kk + 1) := by
            obtain ⟨j, hj, e1, e2⟩ := g2 _ (List.mem_of_getElem? hz)
            rintro ⟨r1, r2⟩
            simp only at e1 e2
            have : j = kk := by omega
            subst this
            omega
          have HN := Lib.hid hn
          have hi0 : (0 : Int) ≤ (jn : Int) := by omega
          have hi1 : (jn : Int) < (k : Int) := by omega
          clear hn g1 g2 g3 hz two3 s3 hss hkk hu
          go_wp2_with fail
          refine wp_region_held_drew (S := (fun w' => w'.cell? ⟨gb, jn * 2, none⟩ = some (.int .i64 z1) ∧ w'.cell? ⟨gb, jn * 2 + 1, none⟩ = some (.int .i64 z2) ∧ w'.cell? ⟨B3, 0, none⟩ = some (.int .i64 (TT kk + 1)) ∧ w'.cell? ⟨B3, 1, none⟩ = some (.int .i64 (kk + 1)))) (by kernel_rfl) ⟨y0, y1, x0, x1⟩ (fun hHeld => ?_)
          refine held_take 0 73 (v := ?_) rfl rfl (by kernel_rfl) (by kernel_rfl) (by kernel_rfl) (fun _ _ _ _ h => h) (by rfl) ?_ hHeld ?_
          rotate_left; · (intro w hSw; clear hSw; go_simp; first | done | with_reducible rfl)
          simp only [List.setIfInBounds_toArray, List.set_cons_zero, List.set_cons_succ]
          refine held_take 1 74 (v := ?_) rfl rfl (by kernel_rfl) (by kernel_rfl) (by kernel_rfl) (fun _ _ _ _ h => h) (by rfl) ?_ hHeld ?_
          rotate_left; · (intro w hSw; clear hSw; go_simp; first | done | with_reducible rfl)
          simp only [List.setIfInBounds_toArray, List.set_cons_zero, List.set_cons_succ]
          refine held_take 2 75 (v := ?_) rfl rfl (by kernel_rfl) (by kernel_rfl) (by kernel_rfl) (fun _ _ _ _ h => h) (by rfl) ?_ hHeld ?_
          rotate_left; · (intro w hSw; clear hSw; go_simp; first | done | with_reducible rfl)
          simp only [List.setIfInBounds_toArray, List.set_cons_zero, List.set_cons_succ]
          refine held_take 3 76 (v := ?_) rfl rfl (by kernel_rfl) (by kernel_rfl) (by kernel_rfl) (fun _ _ _ _ h => h) (by rfl) ?_ hHeld ?_
          rotate_left; · (intro w hSw; obtain ⟨hS0, hS1, hS2, hS3⟩ := hSw; go_simp; first | done | with_reducible rfl)
          simp only [List.setIfInBounds_toArray, List.set_cons_zero, List.set_cons_succ]
          refine held_take 4 77 (v := ?_) rfl rfl (by kernel_rfl) (by kernel_rfl) (by kernel_rfl) (fun _ _ _ _ h => h) (by rfl) ?_ hHeld ?_
          rotate_left; · (intro w hSw; obtain ⟨hS0, hS1, hS2, hS3⟩ := hSw; go_simp; first | done | with_reducible rfl)
          simp only [List.setIfInBounds_toArray, List.set_cons_zero, List.set_cons_succ]
          refine held_take 5 78 (v := .bool false) rfl rfl (by kernel_rfl) (by kernel_rfl) (by kernel_rfl) (fun _ _ _ _ h => h) (by rfl) ?_ hHeld ?_
          · (intro w hSw; clear hSw; have hn := HN.out; by_cases e0 : z1 = TT kk + 1; (by_cases e1 : z2 = kk + 1; exact absurd ⟨e0, e1⟩ hn; go_simp); go_simp)
          simp only [List.setIfInBounds_toArray, List.set_cons_zero, List.set_cons_succ]
          refine wpAnyH_done (by kernel_rfl) ?_ _
          go_wp2_with fail
          go_roundw
          case rel => exact ⟨jn + 1, by omega, by go_num, mi.drew⟩
          case measure => simp [intOf]; omega
        · obtain rfl : jn = k := by omega
          have two4 := two3.kept mi
          have s4 := mi.blk s3 (fun e => e)
          have p4 := two4.last
          have l0 := blk_cell p4 (o := 0) rfl
          have l1 := blk_cell p4 (o := 1) rfl
          have x0 := blk_cell s4 (o := 0) rfl
          have x1 := blk_cell s4 (o := 1) rfl
          clear two3 s3 p4
          go_upto_region 20 with fail
          go_cut [94] (fun s94 wx => s94 = .bool false ∧ Two w.heap.size w wx (upd TT kk (TT kk + 1)) lt lw (.slice a jn cap) jn zs ∧ wx.heap[B3]? = some (.cells #[.int .i64 (TT kk + 1), .int .i64 (kk + 1)] 23 (0, 0)))
          case first =>
            rcases g3 with h0 | ⟨j, hj, hj1, hj2⟩
            · have hb0 : (lw != 0) = false := by rw [bne_eq_false_iff_eq]; exact h0
              clear h0 g1 g2 hss hkk
              go_wp2_with fail
              go_meet
              exact ⟨rfl, two4, s4⟩
            · have hb0 : (lw != 0) = true := by rw [bne_iff_ne]; omega
              by_cases hjk : j = kk
              · have hb1 : (lw != (kk : Int) + 1) = false := by rw [bne_eq_false_iff_eq, hj1, hjk]
                clear hj1 hj2 g1 g2 hss hkk
                go_wp2_with fail
                go_meet
                exact ⟨rfl, two4, s4⟩
              · have hb1 : (lw != (kk : Int) + 1) = true := by rw [bne_iff_ne]; omega
                have hlb : lessB lt lw (TT kk + 1) (kk + 1) = true := lessB_yes (by
                  have : 1 - j = kk := by omega
                  rw [this] at hj2
                  omega)
                clear hj1 hj2 g1 g2 hss hkk
                go_wp2_with fail
                refine (less_any _ _ _ _ _).mono ?_
                rintro e w5 ⟨rfl, m5⟩
                rw [hlb]
                go_wp2_with fail
                go_meet
                exact ⟨rfl, two4.kept m5, m5.blk s4 (fun e => e)⟩
          case rest =>
            clear two4 s4 l0 l1 x0 x1
            obtain ⟨rfl, two5, s5⟩ := hcut
            have x0 := blk_cell s5 (o := 0) rfl
            have x1 := blk_cell s5 (o := 1) rfl
            have hB := lt_of_block s5
            obtain ⟨i0, hi, hz0, hz1, hz2⟩ := info_parts info23
            have own6 := (two5.kept ((Mod.refl (fun _ => False) wc).alloc (.cells #[.int .i64 (TT kk + 1), .int .i64 (kk + 1)] 23))).own
            have hsz := lt_of_block two5.last
            clear g1 g2 g3 hu
            go_wp2_with (at_builtin; refine wpList_append_own _ rfl (.tmp 95) (.tmp 97) 29 rfl (w.heap.size + 4) 23 i0 (.agg #[.int .i64 0, .int .i64 0]) 2 16 Try.underlying29 hi hz0 hz1 hz2 rfl (by decide) _ _ _ rfl own6 ⟨wc.heap.size, 0, none⟩ 1 1 [.int .i64 (TT kk + 1), .int .i64 (kk + 1)] rfl rfl ?c1 ?c2 ?c3 ?c4 ?c5 ?_)
            case c1 => intro j u h; exact new2_at _ _ _ _ _ _ h
            case c2 => intro u hu; simp at hu; rcases hu with rfl | rfl <;> rfl
            case c3 => unfold maxLen; omega
            case c4 => omega
            case c5 => simp; omega
            intro v' w6 hown hgrow _
            have two6 := (two5.kept ((Mod.refl (fun _ => False) wc).alloc (.cells #[.int .i64 (TT kk + 1), .int .i64 (kk + 1)] 23))).app hgrow hown
            have hgm : Mod (fun k => some k = (Value.slice a jn cap).ownBlock) wc w6 := ((Mod.refl (fun k => some k = (Value.slice a jn cap).ownBlock) wc).alloc (.cells #[.int .i64 (TT kk + 1), .int .i64 (kk + 1)] 23)).trans ⟨hgrow.os, hgrow.tape, hgrow.output, hgrow.size, fun k hk hs => hgrow.block k hk hs⟩ (fun _ e => e) (fun _ _ e => e)
            have s6 := hgm.blk s5 (fun e => HG.out B3 e rfl)
            have l6 := two6.last
            have l0 := blk_cell l6 (o := 0) rfl
            have l1 := blk_cell l6 (o := 1) rfl
            have f0 := blk_free l6 (o := 0)
            have f1 := blk_free l6 (o := 1)
            have hz6 := lt_of_block two6.last
            clear two5 s5 x0 x1 hown hgrow hgm own6 hi hz0 hz1 hz2 hB hsz l6
            have two7 := two6.set 0 0
            have m67 : Mod (· = w.heap.size + 3) w6 ((w6.setCell ⟨w.heap.size + 3, 0, none⟩ (.int .i64 0)).setCell ⟨w.heap.size + 3, 1, none⟩ (.int .i64 0)) := ((Mod.refl _ _).setCell (by intro _; rfl) _).setCell (by intro _; rfl) _
            have s7 := m67.blk s6 (fun e => by omega)
            rcases (show ss = 0 ∨ ss = 1 by omega) with rfl | rfl
            · go_wp2_with fail
              go_roundw
              case rel => exact ⟨jn + 1, _, 0, 0, _, by omega, by go_num, by simp [HZ.out], two7, good_next HGood.out hkk2⟩
              case measure => simp [intOf]; omega
            · obtain ⟨j1, hj1⟩ : ∃ j1, j1 = 1 - kk := ⟨_, rfl⟩
              have hj2 : j1 < 2 := by omega
              have hw1 : IntKind.i64.wrap (1 - (kk : Int)) = (j1 : Int) := by rw [IntWalk.i64_in _ (by omega)]; omega
              have hj3 : (j1 : Int) < 2 := by omega
              have hj0 : (0 : Int) ≤ (j1 : Int) := by omega
              have HJ := Lib.hid hj1
              clear hj1
              go_wp2_with fail
              obtain ⟨W7, hW7⟩ : ∃ W7, W7 = (w6.setCell ⟨w.heap.size + 3, 0, none⟩ (.int .i64 0)).setCell ⟨w.heap.size + 3, 1, none⟩ (.int .i64 0) := ⟨_, rfl⟩
              rw [← hW7] at two7 s7
              rw [← hW7]
              clear hW7 two6 s6 l0 l1 f0 f1 m67
              obtain ⟨T1, hT1⟩ : ∃ T1, T1 = upd TT kk (TT kk + 1) := ⟨_, rfl⟩
              rw [← hT1] at two7
              have HT := Lib.hid hT1
              clear hT1
              refine wp_region_held_drew (S := (fun w' => w'.cell? ⟨w.heap.size + 1 + 1, j1, none⟩ = some (.pointer (some ⟨w.heap.size + j1, 0, none⟩)) ∧ w'.cell? ⟨B3, 0, none⟩ = some (.int .i64 (TT kk + 1)) ∧ w'.cell? ⟨B3, 1, none⟩ = some (.int .i64 (kk + 1)) ∧ (∃ T2, AfterSee T2 T1 j1 (TT kk + 1) ∧ Two w.heap.size w w' T2 0 0 v' (jn + 1) (zs ++ [(TT kk + 1, (kk : Int) + 1)])) ∧ w'.heap[B3]? = some (.cells #[.int .i64 (TT kk + 1), .int .i64 (kk + 1)] 23 (0, 0)))) (by kernel_rfl) ⟨two7.ptr hj2, blk_cell s7 (o := 0) rfl, blk_cell s7 (o := 1) rfl, ⟨T1, .inl rfl, two7.kept ((Mod.refl _ _).drew)⟩, s7⟩ (fun hHeld => ?_)
              refine held_take 0 105 (v := ?_) rfl rfl (by kernel_rfl) (by kernel_rfl) (by kernel_rfl) (fun _ _ _ _ h => h) (by rfl) ?_ hHeld ?_
              rotate_left; · (intro w hSw; clear hSw; go_simp; first | done | with_reducible rfl)
              simp only [List.setIfInBounds_toArray, List.set_cons_zero, List.set_cons_succ]
              refine held_take 1 106 (v := ?_) rfl rfl (by kernel_rfl) (by kernel_rfl) (by kernel_rfl) (fun _ _ _ _ h => h) (by rfl) ?_ hHeld ?_
              rotate_left; · (intro w hSw; clear hSw; go_simp; first | done | with_reducible rfl)
              simp only [List.setIfInBounds_toArray, List.set_cons_zero, List.set_cons_succ]
              refine held_take 2 107 (v := ?_) rfl rfl (by kernel_rfl) (by kernel_rfl) (by kernel_rfl) (fun _ _ _ _ h => h) (by rfl) ?_ hHeld ?_
              rotate_left; · (intro w hSw; clear hSw; go_simp; first | done | with_reducible rfl)
              simp only [List.setIfInBounds_toArray, List.set_cons_zero, List.set_cons_succ]
              refine held_take 3 108 (v := ?_) rfl rfl (by kernel_rfl) (by kernel_rfl) (by kernel_rfl) (fun _ _ _ _ h => h) (by rfl) ?_ hHeld ?_
              rotate_left; · (intro w hSw; obtain ⟨hS0, hS1, hS2, hS3, hS4⟩ := hSw; go_simp; first | done | with_reducible rfl)
              simp only [List.setIfInBounds_toArray, List.set_cons_zero, List.set_cons_succ]
              refine held_take 4 109 (v := ?_) rfl rfl (by kernel_rfl) (by kernel_rfl) (by kernel_rfl) (fun _ _ _ _ h => h) (by rfl) ?_ hHeld ?_
              rotate_left; · (intro w hSw; obtain ⟨hS0, hS1, hS2, hS3, hS4⟩ := hSw; go_simp; first | done | with_reducible rfl)
              simp only [List.setIfInBounds_toArray, List.set_cons_zero, List.set_cons_succ]
              refine held_call 5 110 rfl rfl (by kernel_rfl) (by rfl) (f := 18) (args := ?_) ?_ ?_
              rotate_left; · (go_simp; first | done | with_reducible rfl)
              refine (see_yes _ _ _ _ _ _ ((two7.clk j1 hj2).drew) (by omega) (mayB_yes (by omega) (by omega) (by omega) (by omega))).mono ?_; rintro e w9 ⟨rfl, c9, m9⟩
              have two9 := (two7.kept ((Mod.refl _ _).drew)).tick hj2 c9 m9
              have s9 : w9.heap[B3]? = some (.cells #[.int .i64 (TT kk + 1), .int .i64 (kk + 1)] 23 (0, 0)) := m9.blk s7 (fun e => by omega)
              refine ⟨_, rfl, ⟨two9.ptr hj2, blk_cell s9 (o := 0) rfl, blk_cell s9 (o := 1) rfl, ⟨_, .inr rfl, two9⟩, s9⟩, fun hNew => ?_⟩; clear hHeld; have hHeld := hNew; clear hNew
              simp only [List.setIfInBounds_toArray, List.set_cons_zero, List.set_cons_succ]
              refine held_take 6 111 (v := ?_) rfl rfl (by kernel_rfl) (by kernel_rfl) (by kernel_rfl) (fun _ _ _ _ h => h) (by rfl) ?_ hHeld ?_
              rotate_left; · (intro w hSw; clear hSw; go_simp; first | done | with_reducible rfl)
              simp only [List.setIfInBounds_toArray, List.set_cons_zero, List.set_cons_succ]
              refine wpAnyH_done (by kernel_rfl) ?_ _
              clear hHeld two7 s7
              have x0 := blk_cell s9 (o := 0) rfl
              have x1 := blk_cell s9 (o := 1) rfl
              have l9 := two9.last
              have l0 := blk_cell l9 (o := 0) rfl
              have l1 := blk_cell l9 (o := 1) rfl
              have f0 := blk_free l9 (o := 0)
              have f1 := blk_free l9 (o := 1)
              have two10 := two9.set (TT kk + 1) (kk + 1)
              have gn := good_next HGood.out hkk2
              rw [← HT.out] at gn
              have gs := good_see (x := TT kk + 1) gn hkk2 (by omega) (by omega)
              rw [← HJ.out] at gs
              have GS := Lib.hid gs
              clear gs gn l9 c9 m9
              go_wp2_with fail
              go_roundw
              case rel => exact ⟨jn + 1, _, _, _, _, by omega, by go_num, by simp [HZ.out], two10, GS.out⟩
              case measure => simp [intOf]; omega
        
    · have hm := two.mod
      clear two good hzl
      go_wp2_with fail
      refine (awake_any _).mono ?_
      rintro e w6 ⟨rfl, m6⟩
      go_wp2_with fail
      go_ret
      exact ⟨rfl, hm.tr m6⟩
end Go.Proofs.Ytlphfkigjkebfaa
