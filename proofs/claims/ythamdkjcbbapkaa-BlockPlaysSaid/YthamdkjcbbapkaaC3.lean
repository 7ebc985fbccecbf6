/- The reference's device: Write. -/
import Derived.Test.YthamdkjcbbapkaaC2
import Derived.Deep.DeepCutAuto
import Derived.Deep.CutBlock
namespace Go.Proofs.Ythamdkjcbbapkaa
open Go.RowKit
set_option linter.unusedSimpArgs false
set_option linter.unusedVariables false

theorem own_ge {w : World} {base size n : Nat} {e : TypeId} {v : Value} {xs : List Value} (h : w.ownsRow base e size v n xs) (k : Nat) (hk : some k = v.ownBlock) : base ≤ k := by
  rcases h.2 with ⟨h2, _⟩ | ⟨g, cap, cur, hv, hg, _⟩
  · subst h2; simp [Value.ownBlock] at hk
  · subst hv; simp [Value.ownBlock] at hk; omega
theorem own_grown {W w2 w3 : World} {size n : Nat} {e : TypeId} {v : Value} {xs : List Value} (hm : Mod (fun _ => False) W w2) (own : w2.ownsRow W.heap.size e size v n xs) (g : w2.grownBy w3 v.ownBlock) : Mod (fun _ => False) W w3 :=
  hm.new (S := fun k => some k = v.ownBlock) ⟨g.os, g.tape, g.output, g.size, fun k hk hs => g.block k hk hs⟩ (fun i e => own_ge own i e)
theorem own_mod {S : Nat → Prop} {w w' : World} {base size n : Nat} {e : TypeId} {v : Value} {xs : List Value} (m : Mod S w w') (h : w.ownsRow base e size v n xs) (hs : ∀ g, base ≤ g → S g → False) : w'.ownsRow base e size v n xs := by
  obtain ⟨h1, h2⟩ := h
  refine ⟨h1, ?_⟩
  rcases h2 with h2 | ⟨g, cap, cur, hv, hg, hh, r⟩
  · exact .inl h2
  · exact .inr ⟨g, cap, cur, hv, hg, m.blk hh (fun s => hs g hg s), r⟩
theorem own_form {w : World} {base size n : Nat} {e : TypeId} {v : Value} {xs : List Value} (h : w.ownsRow base e size v n xs) : ∃ a cap, v = .slice a n cap := by
  rcases h.2 with ⟨h2, hn⟩ | ⟨g, cap, cur, hv, _⟩
  · subst hn; exact ⟨_, _, h2⟩
  · exact ⟨_, _, hv⟩

def txt (f : Nat → ByteArray) (i k : Nat) : List Value := (List.range k).map fun j => .string (f (i + j))
theorem txt_length (f : Nat → ByteArray) (i k : Nat) : (txt f i k).length = k := by simp [txt]
theorem txt_get (f : Nat → ByteArray) (i k j : Nat) (hj : j < k) : (txt f i k)[j]? = some (.string (f (i + j))) := by
  unfold txt
  rw [List.getElem?_map, List.getElem?_range hj]
  rfl
theorem txt_one (f : Nat → ByteArray) (i k : Nat) : ∀ u ∈ txt f i k, u.oneCell' = true := by
  intro u hu
  unfold txt at hu
  obtain ⟨j, _, rfl⟩ := List.mem_map.1 hu
  rfl
theorem txt_cells {w : World} {b n : Nat} {f : Nat → ByteArray} (h : SL w b n f) (i k : Nat) (hk : i + k ≤ n) : ∀ j u, (txt f i k)[j]? = some u → w.cell? (Addr.add ⟨b, i, none⟩ j) = some u := by
  intro j u hu
  have hj : j < k := by
    have := (List.getElem?_eq_some_iff.1 hu).1
    rwa [txt_length] at this
  rw [txt_get f i k j hj] at hu
  cases hu
  have e : (Addr.add ⟨b, i, none⟩ j) = ⟨b, i + j, none⟩ := by
    unfold Addr.add
    split
    · subst_vars; rfl
    · rfl
  rw [e]
  exact h (i + j) (by omega)
theorem txt_all (f : Nat → ByteArray) (n at_ : Nat) (s : ByteArray) (h : at_ < n) (k : Nat) (hk : k < n) : (txt f 0 at_ ++ [.string s] ++ txt f (at_ + 1) (n - (at_ + 1)))[k]? = some (.string (supd f at_ s k)) := by
  unfold supd
  by_cases e : k = at_
  · subst e
    rw [if_pos rfl, List.append_assoc, List.getElem?_append_right (by rw [txt_length]; omega), txt_length, Nat.sub_self]
    rfl
  · rw [if_neg e]
    by_cases e2 : k < at_
    · rw [List.append_assoc, List.getElem?_append_left (by rw [txt_length]; exact e2), txt_get _ _ _ _ e2, Nat.zero_add]
    · rw [List.getElem?_append_right (by simp [txt_length]; omega)]
      simp only [List.length_append, txt_length, List.length_cons, List.length_nil]
      rw [txt_get _ _ _ _ (by omega)]
      congr 3
      omega
theorem txt_all' (f : Nat → ByteArray) (n at_ : Nat) (s : ByteArray) (h : at_ < n) (k : Nat) (hk : k < n) : (txt f 0 at_ ++ .string s :: txt f (at_ + 1) (n - (at_ + 1)))[k]? = some (.string (supd f at_ s k)) := by
  rw [← List.singleton_append, ← List.append_assoc]
  exact txt_all f n at_ s h k hk
theorem own_sl {w : World} {base n cap : Nat} {a : Option Addr} {xs : List Value} {f : Nat → ByteArray} (h : w.ownsRow base 9 1 (.slice a n cap) n xs) (hn : 0 < n) (hx : ∀ k, k < n → xs[k]? = some (.string (f k))) : ∃ g, a = some ⟨g, 0, none⟩ ∧ base ≤ g ∧ SL w g n f := by
  rcases h.2 with ⟨h2, hn'⟩ | ⟨g, cap', cur, hv, hg, hh, hc1, hc2, hsz, htk⟩
  · omega
  · simp at hv
    obtain ⟨rfl, rfl⟩ := hv
    refine ⟨g, rfl, hg, fun k hk => ?_⟩
    refine blk_cell hh ?_
    have h3 : (cur.toList.take (n * 1))[k]? = some (.string (f k)) := by rw [htk]; exact hx k hk
    rw [List.getElem?_take, if_pos (by omega)] at h3
    simpa using h3
set_option maxRecDepth 100000 in
set_option maxHeartbeats 4000000 in
theorem rwrite_ok (b n c : Nat) (fuse : Int) (wr : Int) (at_ : Nat) (s : ByteArray) (f : Nat → ByteArray) (w : World) (h1 : at_ < n) (hn : n ≤ 4096) (hc : n ≤ c) (hc2 : c ≤ 9223372036854775807) (hs : s.size = 64) (ho : fuse ≠ 0) (hsl : SL w b n f) (hw0 : 0 ≤ wr) (hw1 : wr < 4611686018427387904) (hf1 : fuse ≤ 9223372036854775807) (fu : Int) (hfu : fu = if 0 < fuse then fuse - 1 else fuse) :
    Calls Try.prog 12 #[.agg (rdC (some ⟨b, 0, none⟩) n c fuse false wr), .int .i64 (at_ : Int), .string s] w fun e w' => (∃ g c', e = .returned (.tuple #[.agg (rdC (some ⟨g, 0, none⟩) n c' fu false (wr + 1)), .int .i64 0]) ∧ n ≤ c' ∧ c' ≤ 9223372036854775807 ∧ SL w' g n (supd f at_ s) ∧ w.heap.size ≤ g) ∧ Mod (fun _ => False) w w' := by
  obtain ⟨i0, hi, hz0, hz1, hz2⟩ := info_parts info9
  have hs' : (((s.size : Nat) : Int) != 64) = false := by rw [bne_eq_false_iff_eq]; omega
  have h0 : (0 : Int) ≤ (at_ : Int) := by omega
  have h2 : ¬ (n : Int) ≤ (at_ : Int) := by omega
  have h4 : (at_ : Int) < (n : Int) := by omega
  have hf' : (fuse == 0) = false := by rw [beq_eq_false_iff_ne]; omega
  have hcc : (at_ : Int) ≤ (c : Int) := by omega
  have HSL := Lib.hid hsl
  have HO := Lib.hid ho
  have HFU := Lib.hid hfu
  clear hs hsl ho hfu
  obtain ⟨W0, hW0⟩ : ∃ W0 : World, W0 = (w.alloc (.cells (rdC (some ⟨b, 0, none⟩) n c fuse false wr) 29)).alloc (.cells (rdC none 0 0 0 false 0) 29) := ⟨_, rfl⟩
  have HM0 : Hid (Mod (fun _ => False) w W0) := by show Mod _ w W0; rw [hW0]; exact ((Mod.refl _ _).alloc _).alloc _
  have HB0 : Hid (W0.heap[w.heap.size]? = some (.cells (rdC (some ⟨b, 0, none⟩) n c fuse false wr) 29 (0, 0))) := by show _ = _; rw [hW0]; exact (Below.heap_alloc _ _ _ (by simp)).trans (new_block _ _ _ _ rfl)
  have HB1 : Hid (W0.heap[w.heap.size + 1]? = some (.cells (rdC none 0 0 0 false 0) 29 (0, 0))) := by show _ = _; rw [hW0]; exact new_block _ _ _ _ (by simp)
  have HWS : Hid (W0.heap.size = w.heap.size + 1 + 1) := by show _ = _; rw [hW0]; simp
  go_enter Try.func12, Try.ntmps12
  go_upto_region 8 with fail
  rw [← hW0]
  have HW0 := Lib.hid hW0
  clear hW0
  have c0 : W0.cell? ⟨w.heap.size, 0, none⟩ = some (.slice (some ⟨b, 0, none⟩) n c) := blk_cell HB0.out rfl
  have SL0 := Lib.hid (HSL.out.kept HM0.out)
  go_wp2_with (at_builtin; refine wpList_append_own _ rfl (.tmp 34) (.tmp 38) 27 rfl W0.heap.size 9 i0 (.string ByteArray.empty) 1 16 Try.underlying27 hi hz0 hz1 hz2 rfl (by decide) (.slice none 0 0) 0 [] rfl (World.ownsRow_nil _ _ _ _) ⟨b, 0, none⟩ at_ c (txt f 0 at_) rfl (by rw [txt_length]; omega) (txt_cells SL0.out 0 at_ (by omega)) (txt_one _ _ _) (by unfold maxLen; omega) (by omega) (Nat.le_refl _) ?_)
  intro v1 w1 own1 gr1 _
  have HM1 := Lib.hid (own_grown (e := 9) (size := 1) (Mod.refl (fun _ => False) W0) (World.ownsRow_nil _ _ _ _) gr1)

  clear gr1 c0
  have hsz1 := HM1.out.size
  go_wp2_with (at_builtin; refine wpList_append_own _ rfl (.tmp 40) (.tmp 42) 27 rfl W0.heap.size 9 i0 (.string ByteArray.empty) 1 16 Try.underlying27 hi hz0 hz1 hz2 rfl (by decide) v1 at_ (txt f 0 at_) rfl (own1.alloc _) ⟨w1.heap.size, 0, none⟩ 1 1 [.string s] rfl rfl ?_ ?_ ?_ ?_ ?_ ?_)
  · intro j x hj
    match j, hj with
    | 0, hj => simp at hj; subst hj; simp [Addr.add]
  · intro x hx; simp at hx; subst hx; rfl
  · unfold maxLen; omega
  · omega
  · simp; omega
  intro v2 w2 own2 gr2 _
  have HM2 := Lib.hid (own_grown (HM1.out.alloc _) (own1.alloc (.cells #[.string s] 9)) gr2)
  clear gr2 own1
  go_upto_region 10 with fail
  have c0 : w2.cell? ⟨w.heap.size, 0, none⟩ = some (.slice (some ⟨b, 0, none⟩) n c) := blk_cell (HM2.out.blk HB0.out (fun e => e)) rfl
  have SL2 := Lib.hid (SL0.out.kept HM2.out)
  have hat1 : ((at_ : Int) + 1).toNat = at_ + 1 := by omega
  have h0b : (0 : Int) ≤ (at_ : Int) + 1 := by omega
  have h0c : (at_ : Int) + 1 ≤ (n : Int) := by omega
  have h0d : (at_ : Int) + 1 ≤ (c : Int) := by omega
  by_cases hcap : c = at_ + 1
  · have hn1 : n - (at_ + 1) = 0 := by omega
    have HN1 := Lib.hid hn1
    clear hn1
    go_wp2_with (at_builtin; refine wpList_append_own _ rfl (.tmp 44) (.tmp 49) 27 rfl W0.heap.size 9 i0 (.string ByteArray.empty) 1 16 Try.underlying27 hi hz0 hz1 hz2 rfl (by decide) v2 (at_ + 1) (txt f 0 at_ ++ [.string s]) rfl own2 ⟨b, 0, none⟩ (n - (at_ + 1)) _ (txt f (at_ + 1) (n - (at_ + 1))) rfl (by rw [txt_length]; omega) (fun j u hu => by rw [HN1.out] at hu; simp [txt] at hu) (txt_one _ _ _) (by unfold maxLen; omega) (by omega) HM2.out.size ?_)
    intro v3 w3 own3 gr3 _
    have HM3 := Lib.hid (own_grown HM2.out own2 gr3)
    rw [show at_ + 1 + (n - (at_ + 1)) = n by omega] at own3
    obtain ⟨a3, c3, rfl⟩ := own_form own3
    have hcap3 : n ≤ c3 ∧ c3 ≤ 9223372036854775807 := by
      rcases own3.2 with ⟨_, h0⟩ | ⟨g, cap, cur, hv, _, _, hc1, hc2', _⟩
      · omega
      · simp at hv; obtain ⟨_, rfl⟩ := hv; unfold maxLen at hc2'; omega
    obtain ⟨g3, rfl, hg3, sl3⟩ := own_sl own3 (by omega) (txt_all' f n at_ s h1)
    have HSL3 := Lib.hid sl3
    have HCP := Lib.hid hcap3
    clear own2 own3 gr3 sl3 c0 hcap3
    have HG3 : Hid (g3 ≠ w.heap.size ∧ g3 ≠ w.heap.size + 1) := by show _ ∧ _; have := HWS.out; omega
    have HG4 : Hid (w.heap.size ≤ g3) := by show _ ≤ _; have := HWS.out; omega
    have HX0 := Lib.hid (HM3.out.blk HB0.out (fun e => e))
    have HX1 := Lib.hid (HM3.out.blk HB1.out (fun e => e))
    have HMF := Lib.hid (HM0.out.tr HM3.out)
    have x0 : w3.cell? ⟨w.heap.size, 0, none⟩ = some (.slice (some ⟨b, 0, none⟩) n c) := blk_cell HX0.out rfl
    have x1 : w3.cell? ⟨w.heap.size, 1, none⟩ = some (.int .i64 fuse) := blk_cell HX0.out rfl
    have x3 : w3.cell? ⟨w.heap.size, 3, none⟩ = some (.int .i64 wr) := blk_cell HX0.out rfl
    have y0 : w3.frozen? ⟨w.heap.size, 0, none⟩ = false := blk_free HX0.out
    have y1 : w3.frozen? ⟨w.heap.size, 1, none⟩ = false := blk_free HX0.out
    have y3 : w3.frozen? ⟨w.heap.size, 3, none⟩ = false := blk_free HX0.out
    by_cases hpos : 0 < fuse
    · have HFV : Hid (fu = fuse - 1) := by show _ = _; rw [HFU.out, if_pos hpos]
      go_upto_region 14 with fail
      have K0 : (((w3.setCell ⟨w.heap.size, 0, none⟩ (.slice (some ⟨g3, 0, none⟩) n c3)).setCell ⟨w.heap.size, 3, none⟩ (.int .i64 (wr + 1))).setCell ⟨w.heap.size, 1, none⟩ (.int .i64 (fuse - 1))).heap[w.heap.size]? = some (.cells (rdC (some ⟨g3, 0, none⟩) n c3 (fuse - 1) false (wr + 1)) 29 (0, 0)) := (set_block (set_block (set_block HX0.out _) _) _)
      have K1 : (((w3.setCell ⟨w.heap.size, 0, none⟩ (.slice (some ⟨g3, 0, none⟩) n c3)).setCell ⟨w.heap.size, 3, none⟩ (.int .i64 (wr + 1))).setCell ⟨w.heap.size, 1, none⟩ (.int .i64 (fuse - 1))).heap[w.heap.size + 1]? = some (.cells (rdC none 0 0 0 false 0) 29 (0, 0)) := (((Below.heap_setCell _ _ _ _ (by simp)).trans (Below.heap_setCell _ _ _ _ (by simp))).trans (Below.heap_setCell _ _ _ _ (by simp))).trans HX1.out
      have K2 : Mod (fun _ => False) w (((w3.setCell ⟨w.heap.size, 0, none⟩ (.slice (some ⟨g3, 0, none⟩) n c3)).setCell ⟨w.heap.size, 3, none⟩ (.int .i64 (wr + 1))).setCell ⟨w.heap.size, 1, none⟩ (.int .i64 (fuse - 1))) := ((HMF.out.setCell (fun hh => absurd hh (Nat.lt_irrefl _)) _).setCell (fun hh => absurd hh (Nat.lt_irrefl _)) _).setCell (fun hh => absurd hh (Nat.lt_irrefl _)) _
      have K3 : SL (((w3.setCell ⟨w.heap.size, 0, none⟩ (.slice (some ⟨g3, 0, none⟩) n c3)).setCell ⟨w.heap.size, 3, none⟩ (.int .i64 (wr + 1))).setCell ⟨w.heap.size, 1, none⟩ (.int .i64 (fuse - 1))) g3 n (supd f at_ s) := fun j hj => by
        rw [World.cell?_of_block (Below.heap_setCell _ _ _ _ HG3.out.1), World.cell?_of_block (Below.heap_setCell _ _ _ _ HG3.out.1), World.cell?_of_block (Below.heap_setCell _ _ _ _ HG3.out.1)]
        exact HSL3.out j hj
      generalize (((w3.setCell ⟨w.heap.size, 0, none⟩ (.slice (some ⟨g3, 0, none⟩) n c3)).setCell ⟨w.heap.size, 3, none⟩ (.int .i64 (wr + 1))).setCell ⟨w.heap.size, 1, none⟩ (.int .i64 (fuse - 1))) = wx at K0 K1 K2 K3 ⊢
      have HK0 := Lib.hid K0
      have HK1 := Lib.hid K1
      have HK2 := Lib.hid K2
      have HK3 := Lib.hid K3
      clear K0 K1 K2 K3 x0 x1 x3 y0 y1 y3
      go_wp2_with (first | (refine wpList_load_row rfl 29 (.tmp 3) rfl w.heap.size rfl _ _ _ _ HK0.out Try.underlying29 rfl (by kernel_rfl) ?_) | (refine wpList_store_row rfl 29 (.tmp 6) (.tmp 63) rfl _ (rdC (some ⟨g3, 0, none⟩) n c3 (fuse - 1) false (wr + 1)) rfl rfl _ _ HK1.out (by kernel_rfl) rfl (rdC_one _ _ _ _ _ _) ?_))
      rw [HFV.out]
      exact bodyPost_ret (v := .tuple #[.agg (rdC (some ⟨g3, 0, none⟩) n c3 (fuse - 1) false (wr + 1)), .int .i64 0]) (results_cell_tmp (fn := Try.f12) (p := 6) (q := 7) rfl _ _ (w.heap.size + 1) rfl _ rfl (setRow_heap _ _ _ _ _ _ HK1.out)) rfl ⟨⟨g3, c3, rfl, HCP.out.1, HCP.out.2, HK3.out.row HG3.out.2 _, HG4.out⟩, HK2.out.row (fun hh => by omega) _⟩
    · have HFV : Hid (fu = fuse) := by show _ = _; rw [HFU.out, if_neg hpos]
      go_upto_region 14 with fail
      have K0 : ((w3.setCell ⟨w.heap.size, 0, none⟩ (.slice (some ⟨g3, 0, none⟩) n c3)).setCell ⟨w.heap.size, 3, none⟩ (.int .i64 (wr + 1))).heap[w.heap.size]? = some (.cells (rdC (some ⟨g3, 0, none⟩) n c3 fuse false (wr + 1)) 29 (0, 0)) := (set_block (set_block HX0.out _) _)
      have K1 : ((w3.setCell ⟨w.heap.size, 0, none⟩ (.slice (some ⟨g3, 0, none⟩) n c3)).setCell ⟨w.heap.size, 3, none⟩ (.int .i64 (wr + 1))).heap[w.heap.size + 1]? = some (.cells (rdC none 0 0 0 false 0) 29 (0, 0)) := ((Below.heap_setCell _ _ _ _ (by simp)).trans (Below.heap_setCell _ _ _ _ (by simp))).trans HX1.out
      have K2 : Mod (fun _ => False) w ((w3.setCell ⟨w.heap.size, 0, none⟩ (.slice (some ⟨g3, 0, none⟩) n c3)).setCell ⟨w.heap.size, 3, none⟩ (.int .i64 (wr + 1))) := (HMF.out.setCell (fun hh => absurd hh (Nat.lt_irrefl _)) _).setCell (fun hh => absurd hh (Nat.lt_irrefl _)) _
      have K3 : SL ((w3.setCell ⟨w.heap.size, 0, none⟩ (.slice (some ⟨g3, 0, none⟩) n c3)).setCell ⟨w.heap.size, 3, none⟩ (.int .i64 (wr + 1))) g3 n (supd f at_ s) := fun j hj => by
        rw [World.cell?_of_block (Below.heap_setCell _ _ _ _ HG3.out.1), World.cell?_of_block (Below.heap_setCell _ _ _ _ HG3.out.1)]
        exact HSL3.out j hj
      generalize ((w3.setCell ⟨w.heap.size, 0, none⟩ (.slice (some ⟨g3, 0, none⟩) n c3)).setCell ⟨w.heap.size, 3, none⟩ (.int .i64 (wr + 1))) = wx at K0 K1 K2 K3 ⊢
      have HK0 := Lib.hid K0
      have HK1 := Lib.hid K1
      have HK2 := Lib.hid K2
      have HK3 := Lib.hid K3
      clear K0 K1 K2 K3 x0 x1 x3 y0 y1 y3
      go_wp2_with (first | (refine wpList_load_row rfl 29 (.tmp 3) rfl w.heap.size rfl _ _ _ _ HK0.out Try.underlying29 rfl (by kernel_rfl) ?_) | (refine wpList_store_row rfl 29 (.tmp 6) (.tmp 63) rfl _ (rdC (some ⟨g3, 0, none⟩) n c3 fuse false (wr + 1)) rfl rfl _ _ HK1.out (by kernel_rfl) rfl (rdC_one _ _ _ _ _ _) ?_))
      rw [HFV.out]
      exact bodyPost_ret (v := .tuple #[.agg (rdC (some ⟨g3, 0, none⟩) n c3 fuse false (wr + 1)), .int .i64 0]) (results_cell_tmp (fn := Try.f12) (p := 6) (q := 7) rfl _ _ (w.heap.size + 1) rfl _ rfl (setRow_heap _ _ _ _ _ _ HK1.out)) rfl ⟨⟨g3, c3, rfl, HCP.out.1, HCP.out.2, HK3.out.row HG3.out.2 _, HG4.out⟩, HK2.out.row (fun hh => by omega) _⟩
  · have hcap2 : at_ + 1 < c := by omega
    have hcap3 : (at_ : Int) + 1 < (c : Int) := by omega
    go_wp2_with (at_builtin; refine wpList_append_own _ rfl (.tmp 44) (.tmp 49) 27 rfl W0.heap.size 9 i0 (.string ByteArray.empty) 1 16 Try.underlying27 hi hz0 hz1 hz2 rfl (by decide) v2 (at_ + 1) (txt f 0 at_ ++ [.string s]) rfl own2 ⟨b, at_ + 1, none⟩ (n - (at_ + 1)) _ (txt f (at_ + 1) (n - (at_ + 1))) rfl (by rw [txt_length]; omega) (txt_cells SL2.out (at_ + 1) (n - (at_ + 1)) (by omega)) (txt_one _ _ _) (by unfold maxLen; omega) (by omega) HM2.out.size ?_)
    intro v3 w3 own3 gr3 _
    have HM3 := Lib.hid (own_grown HM2.out own2 gr3)
    rw [show at_ + 1 + (n - (at_ + 1)) = n by omega] at own3
    obtain ⟨a3, c3, rfl⟩ := own_form own3
    have hcap3 : n ≤ c3 ∧ c3 ≤ 9223372036854775807 := by
      rcases own3.2 with ⟨_, h0⟩ | ⟨g, cap, cur, hv, _, _, hc1, hc2', _⟩
      · omega
      · simp at hv; obtain ⟨_, rfl⟩ := hv; unfold maxLen at hc2'; omega
    obtain ⟨g3, rfl, hg3, sl3⟩ := own_sl own3 (by omega) (txt_all' f n at_ s h1)
    have HSL3 := Lib.hid sl3
    have HCP := Lib.hid hcap3
    clear own2 own3 gr3 sl3 c0 hcap3
    have HG3 : Hid (g3 ≠ w.heap.size ∧ g3 ≠ w.heap.size + 1) := by show _ ∧ _; have := HWS.out; omega
    have HG4 : Hid (w.heap.size ≤ g3) := by show _ ≤ _; have := HWS.out; omega
    have HX0 := Lib.hid (HM3.out.blk HB0.out (fun e => e))
    have HX1 := Lib.hid (HM3.out.blk HB1.out (fun e => e))
    have HMF := Lib.hid (HM0.out.tr HM3.out)
    have x0 : w3.cell? ⟨w.heap.size, 0, none⟩ = some (.slice (some ⟨b, 0, none⟩) n c) := blk_cell HX0.out rfl
    have x1 : w3.cell? ⟨w.heap.size, 1, none⟩ = some (.int .i64 fuse) := blk_cell HX0.out rfl
    have x3 : w3.cell? ⟨w.heap.size, 3, none⟩ = some (.int .i64 wr) := blk_cell HX0.out rfl
    have y0 : w3.frozen? ⟨w.heap.size, 0, none⟩ = false := blk_free HX0.out
    have y1 : w3.frozen? ⟨w.heap.size, 1, none⟩ = false := blk_free HX0.out
    have y3 : w3.frozen? ⟨w.heap.size, 3, none⟩ = false := blk_free HX0.out
    by_cases hpos : 0 < fuse
    · have HFV : Hid (fu = fuse - 1) := by show _ = _; rw [HFU.out, if_pos hpos]
      go_upto_region 14 with fail
      have K0 : (((w3.setCell ⟨w.heap.size, 0, none⟩ (.slice (some ⟨g3, 0, none⟩) n c3)).setCell ⟨w.heap.size, 3, none⟩ (.int .i64 (wr + 1))).setCell ⟨w.heap.size, 1, none⟩ (.int .i64 (fuse - 1))).heap[w.heap.size]? = some (.cells (rdC (some ⟨g3, 0, none⟩) n c3 (fuse - 1) false (wr + 1)) 29 (0, 0)) := (set_block (set_block (set_block HX0.out _) _) _)
      have K1 : (((w3.setCell ⟨w.heap.size, 0, none⟩ (.slice (some ⟨g3, 0, none⟩) n c3)).setCell ⟨w.heap.size, 3, none⟩ (.int .i64 (wr + 1))).setCell ⟨w.heap.size, 1, none⟩ (.int .i64 (fuse - 1))).heap[w.heap.size + 1]? = some (.cells (rdC none 0 0 0 false 0) 29 (0, 0)) := (((Below.heap_setCell _ _ _ _ (by simp)).trans (Below.heap_setCell _ _ _ _ (by simp))).trans (Below.heap_setCell _ _ _ _ (by simp))).trans HX1.out
      have K2 : Mod (fun _ => False) w (((w3.setCell ⟨w.heap.size, 0, none⟩ (.slice (some ⟨g3, 0, none⟩) n c3)).setCell ⟨w.heap.size, 3, none⟩ (.int .i64 (wr + 1))).setCell ⟨w.heap.size, 1, none⟩ (.int .i64 (fuse - 1))) := ((HMF.out.setCell (fun hh => absurd hh (Nat.lt_irrefl _)) _).setCell (fun hh => absurd hh (Nat.lt_irrefl _)) _).setCell (fun hh => absurd hh (Nat.lt_irrefl _)) _
      have K3 : SL (((w3.setCell ⟨w.heap.size, 0, none⟩ (.slice (some ⟨g3, 0, none⟩) n c3)).setCell ⟨w.heap.size, 3, none⟩ (.int .i64 (wr + 1))).setCell ⟨w.heap.size, 1, none⟩ (.int .i64 (fuse - 1))) g3 n (supd f at_ s) := fun j hj => by
        rw [World.cell?_of_block (Below.heap_setCell _ _ _ _ HG3.out.1), World.cell?_of_block (Below.heap_setCell _ _ _ _ HG3.out.1), World.cell?_of_block (Below.heap_setCell _ _ _ _ HG3.out.1)]
        exact HSL3.out j hj
      generalize (((w3.setCell ⟨w.heap.size, 0, none⟩ (.slice (some ⟨g3, 0, none⟩) n c3)).setCell ⟨w.heap.size, 3, none⟩ (.int .i64 (wr + 1))).setCell ⟨w.heap.size, 1, none⟩ (.int .i64 (fuse - 1))) = wx at K0 K1 K2 K3 ⊢
      have HK0 := Lib.hid K0
      have HK1 := Lib.hid K1
      have HK2 := Lib.hid K2
      have HK3 := Lib.hid K3
      clear K0 K1 K2 K3 x0 x1 x3 y0 y1 y3
      go_wp2_with (first | (refine wpList_load_row rfl 29 (.tmp 3) rfl w.heap.size rfl _ _ _ _ HK0.out Try.underlying29 rfl (by kernel_rfl) ?_) | (refine wpList_store_row rfl 29 (.tmp 6) (.tmp 63) rfl _ (rdC (some ⟨g3, 0, none⟩) n c3 (fuse - 1) false (wr + 1)) rfl rfl _ _ HK1.out (by kernel_rfl) rfl (rdC_one _ _ _ _ _ _) ?_))
      rw [HFV.out]
      exact bodyPost_ret (v := .tuple #[.agg (rdC (some ⟨g3, 0, none⟩) n c3 (fuse - 1) false (wr + 1)), .int .i64 0]) (results_cell_tmp (fn := Try.f12) (p := 6) (q := 7) rfl _ _ (w.heap.size + 1) rfl _ rfl (setRow_heap _ _ _ _ _ _ HK1.out)) rfl ⟨⟨g3, c3, rfl, HCP.out.1, HCP.out.2, HK3.out.row HG3.out.2 _, HG4.out⟩, HK2.out.row (fun hh => by omega) _⟩
    · have HFV : Hid (fu = fuse) := by show _ = _; rw [HFU.out, if_neg hpos]
      go_upto_region 14 with fail
      have K0 : ((w3.setCell ⟨w.heap.size, 0, none⟩ (.slice (some ⟨g3, 0, none⟩) n c3)).setCell ⟨w.heap.size, 3, none⟩ (.int .i64 (wr + 1))).heap[w.heap.size]? = some (.cells (rdC (some ⟨g3, 0, none⟩) n c3 fuse false (wr + 1)) 29 (0, 0)) := (set_block (set_block HX0.out _) _)
      have K1 : ((w3.setCell ⟨w.heap.size, 0, none⟩ (.slice (some ⟨g3, 0, none⟩) n c3)).setCell ⟨w.heap.size, 3, none⟩ (.int .i64 (wr + 1))).heap[w.heap.size + 1]? = some (.cells (rdC none 0 0 0 false 0) 29 (0, 0)) := ((Below.heap_setCell _ _ _ _ (by simp)).trans (Below.heap_setCell _ _ _ _ (by simp))).trans HX1.out
      have K2 : Mod (fun _ => False) w ((w3.setCell ⟨w.heap.size, 0, none⟩ (.slice (some ⟨g3, 0, none⟩) n c3)).setCell ⟨w.heap.size, 3, none⟩ (.int .i64 (wr + 1))) := (HMF.out.setCell (fun hh => absurd hh (Nat.lt_irrefl _)) _).setCell (fun hh => absurd hh (Nat.lt_irrefl _)) _
      have K3 : SL ((w3.setCell ⟨w.heap.size, 0, none⟩ (.slice (some ⟨g3, 0, none⟩) n c3)).setCell ⟨w.heap.size, 3, none⟩ (.int .i64 (wr + 1))) g3 n (supd f at_ s) := fun j hj => by
        rw [World.cell?_of_block (Below.heap_setCell _ _ _ _ HG3.out.1), World.cell?_of_block (Below.heap_setCell _ _ _ _ HG3.out.1)]
        exact HSL3.out j hj
      generalize ((w3.setCell ⟨w.heap.size, 0, none⟩ (.slice (some ⟨g3, 0, none⟩) n c3)).setCell ⟨w.heap.size, 3, none⟩ (.int .i64 (wr + 1))) = wx at K0 K1 K2 K3 ⊢
      have HK0 := Lib.hid K0
      have HK1 := Lib.hid K1
      have HK2 := Lib.hid K2
      have HK3 := Lib.hid K3
      clear K0 K1 K2 K3 x0 x1 x3 y0 y1 y3
      go_wp2_with (first | (refine wpList_load_row rfl 29 (.tmp 3) rfl w.heap.size rfl _ _ _ _ HK0.out Try.underlying29 rfl (by kernel_rfl) ?_) | (refine wpList_store_row rfl 29 (.tmp 6) (.tmp 63) rfl _ (rdC (some ⟨g3, 0, none⟩) n c3 fuse false (wr + 1)) rfl rfl _ _ HK1.out (by kernel_rfl) rfl (rdC_one _ _ _ _ _ _) ?_))
      rw [HFV.out]
      exact bodyPost_ret (v := .tuple #[.agg (rdC (some ⟨g3, 0, none⟩) n c3 fuse false (wr + 1)), .int .i64 0]) (results_cell_tmp (fn := Try.f12) (p := 6) (q := 7) rfl _ _ (w.heap.size + 1) rfl _ rfl (setRow_heap _ _ _ _ _ _ HK1.out)) rfl ⟨⟨g3, c3, rfl, HCP.out.1, HCP.out.2, HK3.out.row HG3.out.2 _, HG4.out⟩, HK2.out.row (fun hh => by omega) _⟩
end Go.Proofs.Ythamdkjcbbapkaa
