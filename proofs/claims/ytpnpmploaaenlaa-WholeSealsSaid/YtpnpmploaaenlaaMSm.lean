/- The reference's block of the stream: the walk. -/
import Derived.Test.YtpnpmploaaenlaaMSl
namespace Go.Proofs.Ytpnpmploaaenlaa
open Go.RowKit
set_option linter.unusedSimpArgs false
set_option linter.unusedVariables false
def QR (x : Nat → Nat) (a b c d : Nat) : Nat → Nat :=
  upd (upd (upd (upd x a (qA ad xn (x a) (x b) (x c) (x d))) b (qB ad xn (x a) (x b) (x c) (x d))) c (qC ad xn (x a) (x b) (x c) (x d))) d (qD ad xn (x a) (x b) (x c) (x d))
theorem upd_lt {x : Nat → Nat} (hx : ∀ k, x k < 4294967296) (i v : Nat) (hv : v < 4294967296) : ∀ k, upd x i v k < 4294967296 := by
  intro k
  unfold upd
  by_cases e : k = i
  · rw [if_pos e]; exact hv
  · rw [if_neg e]; exact hx k
theorem QR_lt (x : Nat → Nat) (hx : ∀ k, x k < 4294967296) (a b c d : Nat) : ∀ k, QR x a b c d k < 4294967296 := by
  have h1 : ∀ a b c d, a < 4294967296 → b < 4294967296 → c < 4294967296 → d < 4294967296 → qA ad xn a b c d < 4294967296 ∧ qB ad xn a b c d < 4294967296 ∧ qC ad xn a b c d < 4294967296 ∧ qD ad xn a b c d < 4294967296 := by
    intro a b c d ha hb hc hd
    have l1 : xn d (ad a b) 16 < 4294967296 := xn_lt _ _ _ hd (ad_lt _ _)
    have l2 : xn b (ad c (xn d (ad a b) 16)) 12 < 4294967296 := xn_lt _ _ _ hb (ad_lt _ _)
    have l3 : qD ad xn a b c d < 4294967296 := xn_lt _ _ _ l1 (ad_lt _ _)
    exact ⟨ad_lt _ _, xn_lt _ _ _ l2 (ad_lt _ _), ad_lt _ _, l3⟩
  obtain ⟨l1, l2, l3, l4⟩ := h1 _ _ _ _ (hx a) (hx b) (hx c) (hx d)
  exact upd_lt (upd_lt (upd_lt (upd_lt hx _ _ l1) _ _ l2) _ _ l3) _ _ l4
def Dgl (w : World) (g : Nat) (x : Nat → Nat) : Prop := Dg w g 16 x ∧ ∀ k, x k < 4294967296
theorem round_any (x : Nat → Nat) (a b c d : Int) (ha : 0 ≤ a ∧ a < 16) (hb : 0 ≤ b ∧ b < 16) (hc : 0 ≤ c ∧ c < 16) (hd : 0 ≤ d ∧ d < 16) (g cap : Nat) (w : World) (h : Dgl w g x) :
    Calls Try.prog 47 #[.slice (some ⟨g, 0, none⟩) 16 cap, .int .i64 a, .int .i64 b, .int .i64 c, .int .i64 d] w fun e w' => (∃ g' c', e = .returned (.slice (some ⟨g', 0, none⟩) 16 c') ∧ Dgl w' g' (QR x a.toNat b.toNat c.toNat d.toNat)) ∧ Mod (fun _ => False) w w' := by
  obtain ⟨A, rfl⟩ := Int.eq_ofNat_of_zero_le ha.1
  obtain ⟨B, rfl⟩ := Int.eq_ofNat_of_zero_le hb.1
  obtain ⟨C, rfl⟩ := Int.eq_ofNat_of_zero_le hc.1
  obtain ⟨D, rfl⟩ := Int.eq_ofNat_of_zero_le hd.1
  refine (round_walk x A B C D (by omega) (by omega) (by omega) (by omega) _ _ _ _ #[.int .i64 (qA ad xn (x A) (x B) (x C) (x D)), .int .i64 (qB ad xn (x A) (x B) (x C) (x D)), .int .i64 (qC ad xn (x A) (x B) (x C) (x D)), .int .i64 (qD ad xn (x A) (x B) (x C) (x D))] rfl (by simp [Value.oneCell']) rfl rfl rfl rfl (rquarter_any _ _ _ _ (h.2 _) (h.2 _) (h.2 _) (h.2 _)) g cap w h.1).mono ?_
  rintro e w' ⟨⟨g', c', rfl, hdg⟩, hm⟩
  exact ⟨⟨g', c', rfl, hdg, QR_lt x h.2 _ _ _ _⟩, hm⟩
/-- Eight quarter rounds, over any quarter round. -/
def dblQ (Q : (Nat → Nat) → Nat → Nat → Nat → Nat → Nat → Nat) (x : Nat → Nat) : Nat → Nat :=
  Q (Q (Q (Q (Q (Q (Q (Q x 0 4 8 12) 1 5 9 13) 2 6 10 14) 3 7 11 15) 0 5 10 15) 1 6 11 12) 2 7 8 13) 3 4 9 14
structure RBlk (Q : (Nat → Nat) → Nat → Nat → Nat → Nat → Nat → Nat) (X : Nat → Nat → Nat) (W Z : Nat → Nat) : Prop where
  rc : ∀ (x : Nat → Nat) (a b c d : Int) (_ : 0 ≤ a ∧ a < 16) (_ : 0 ≤ b ∧ b < 16) (_ : 0 ≤ c ∧ c < 16) (_ : 0 ≤ d ∧ d < 16) (g cap : Nat) (w : World) (_ : Dgl w g x),
    Calls Try.prog 47 #[.slice (some ⟨g, 0, none⟩) 16 cap, .int .i64 a, .int .i64 b, .int .i64 c, .int .i64 d] w fun e w' => (∃ g' c', e = .returned (.slice (some ⟨g', 0, none⟩) 16 c') ∧ Dgl w' g' (Q x a.toNat b.toNat c.toNat d.toNat)) ∧ Mod (fun _ => False) w w'
  x0 : X 0 = W
  x1 : ∀ k, X (k + 1) = dblQ Q (X k)
  wl : ∀ k, W k < 4294967296
  z : ∀ k, Z k = W k + X 10 k
def head16 : ByteArray := ⟨#[101, 120, 112, 97, 110, 100, 32, 51, 50, 45, 98, 121, 116, 101, 32, 107]⟩
set_option maxRecDepth 100000 in
set_option maxHeartbeats 8000000 in
theorem rblk_walk (Q : (Nat → Nat) → Nat → Nat → Nat → Nat → Nat → Nat) (X : Nat → Nat → Nat) (W Z : Nat → Nat) (hB : RBlk Q X W Z) (key nonce PS T : ByteArray) (ctr : Nat) (hk32 : key.size = 32) (hn12 : nonce.size = 12) (hc32 : ctr < 4294967296)
    (hps : ∀ w : World, Calls Try.prog 31 #[.slice (some ⟨w.heap.size, 0, none⟩) 1 1] (w.alloc (.cells #[.int .i64 (ctr : Int)] 3)) fun e w' => e = .returned (.string PS) ∧ Mod (fun _ => False) (w.alloc (.cells #[.int .i64 (ctr : Int)] 3)) w')
    (hps4 : PS.size = 4) (hT : head16 ++ key ++ PS ++ nonce = T)
    (hsm : ∀ w : World, Calls Try.prog 46 #[.string T] w fun e w' => (∃ g c, e = .returned (.tuple #[.slice (some ⟨g, 0, none⟩) 16 c, .int .i64 0]) ∧ Dg w' g 16 W) ∧ Mod (fun _ => False) w w') (w : World) :
    Calls Try.prog 27 #[.string key, .string nonce, .int .i64 (ctr : Int)] w fun e w' => e = .returned (.tuple #[.string ⟨(Wd.putS (fun j => (Z j : Int)) 16).toArray⟩, .int .i64 0]) ∧ Mod (fun _ => False) w w' := by
  have HB := Lib.hid hB
  have HP := Lib.hid hps
  have HSm := Lib.hid hsm
  have hT2 : (⟨#[101, 120, 112, 97, 110, 100, 32, 51, 50, 45, 98, 121, 116, 101, 32, 107]⟩ : ByteArray) ++ key ++ PS ++ nonce = T := hT
  have h0 : ¬ (ctr : Int) < 0 := by omega
  have h1 : ¬ (4294967295 : Int) < (ctr : Int) := by omega
  clear hB hps hsm hT
  go_enter Try.func27, Try.ntmps27
  go_upto_region 4 with (first | (go_at_call 31; refine (HP.out _).mono ?_; rintro e w1 ⟨rfl, hm1⟩) | (go_at_call 46; refine (HSm.out _).mono ?_; rintro e w2 ⟨⟨g8, c8, rfl, d8⟩, hm2⟩))
  have HM := Lib.hid ((((Mod.refl (fun _ => False) w).alloc _).tr hm1).tr hm2)
  have D8 := Lib.hid d8
  have DX : Hid (Dgl w2 g8 (X 0)) := by
    show Dgl w2 g8 (X 0)
    rw [HB.out.x0]; exact ⟨d8, HB.out.wl⟩
  clear d8 hm1 hm2
  go_wp2_with fail
  go_loopw [10, 11] (fun x i wr => ∃ k g c : Nat, k ≤ 10 ∧ i = .int .i64 (k : Int) ∧ x = .slice (some ⟨g, 0, none⟩) 16 c ∧ Dgl wr g (X k) ∧ Mod (fun _ => False) w2 wr) (fun _ i _ => 10 - (intOf i).toNat)
  case atStart => exact ⟨0, g8, c8, by omega, rfl, rfl, DX.out, Mod.refl _ _⟩
  case round =>
    obtain ⟨k, g, c, hk, rfl, rfl, dg, hmm⟩ := hrel
    clear DX
    by_cases hlt : k < 10
    · have hlt2 : (k : Int) < 10 := by omega
      go_wp2_with (go_at_call 47; refine (HB.out.rc _ _ _ _ _ (by decide) (by decide) (by decide) (by decide) _ _ _ (by assumption)).mono ?_; rintro e w' ⟨⟨g', c', rfl, dg⟩, hm1⟩; replace hmm := hmm.tr hm1)
      go_roundw
      case rel => exact ⟨k + 1, _, _, by omega, by go_num, rfl, by rw [HB.out.x1]; exact dg, hmm⟩
      case measure => simp [intOf]; omega
    · have h10 : k = 10 := by omega
      have hge : ¬ ((k : Int) < 10) := by omega
      obtain ⟨V, hV⟩ : ∃ V, V = X k := ⟨_, rfl⟩
      rw [← hV] at dg
      have hVl := dg.2
      have hWl := HB.out.wl
      have HZ := Lib.hid (show ∀ j, Z j = W j + V j by intro j; rw [hV, h10]; exact HB.out.z j)
      have HN := Lib.hid (And.intro (D8.out.mod hmm) (And.intro dg.1 (HM.out.tr hmm)))
      clear hV dg hmm
      go_wp2_with fail
      go_loopw [12, 13] (fun v i wx => ∃ k : Nat, k ≤ 16 ∧ i = .int .i64 (k : Int) ∧ AccI wr wx v k Z) (fun _ i _ => 16 - (intOf i).toNat)
      case atStart => exact ⟨0, by omega, rfl, AccI.nil wr Z⟩
      case round =>
        clear hge h10 hlt hk
        obtain ⟨k, hk, rfl, acc⟩ := hrel
        by_cases hlt : k < 16
        · have hi0 : (0 : Int) ≤ (k : Int) := by omega
          have hlt2 : (k : Int) < 16 := by omega
          have e8 := (HN.out.1.mod acc.2) k hlt
          have ex := (HN.out.2.1.mod acc.2) k hlt
          have l1 := hWl k
          have l2 := hVl k
          have hv2 : (W k : Int) + (V k : Int) = (Z k : Int) := by rw [HZ.out k]; omega
          have hv : IntKind.i64.wrap ((W k : Int) + (V k : Int)) = (Z k : Int) := by rw [hv2]; exact wrap_small _ (by omega) (by rw [HZ.out k]; omega)
          have HA := Lib.hid acc
          clear acc hv2
          go_wp2_with fail
          refine wp_region_held_any (S := (fun w' => w'.cell? ⟨g8, k, none⟩ = some (.int .i64 (W k : Int)) ∧ w'.cell? ⟨g, k, none⟩ = some (.int .i64 (V k : Int)))) (by kernel_rfl) (fun wd hwd => ?_)
          have HA2 := Lib.hid HA.out.drew
          rw [hwd] at HA2
          have e8' : wd.cell? ⟨g8, k, none⟩ = some (.int .i64 (W k : Int)) := by subst hwd; exact e8
          have ex' : wd.cell? ⟨g, k, none⟩ = some (.int .i64 (V k : Int)) := by subst hwd; exact ex
          clear hwd HA e8 ex
          obtain ⟨v', w3, hrun, acc3⟩ := pushI0 HA2.out (by omega) _ rfl
          have HS2 : Hid ((wd.alloc (.cells #[.int .i64 (Z k : Int)] 3)).cell? ⟨g8, k, none⟩ = some (.int .i64 (W k : Int)) ∧ (wd.alloc (.cells #[.int .i64 (Z k : Int)] 3)).cell? ⟨g, k, none⟩ = some (.int .i64 (V k : Int))) :=
            ⟨((Mod.refl _ wd).alloc _).at e8', ((Mod.refl _ wd).alloc _).at ex'⟩
          have HS3 : Hid (w3.cell? ⟨g8, k, none⟩ = some (.int .i64 (W k : Int)) ∧ w3.cell? ⟨g, k, none⟩ = some (.int .i64 (V k : Int))) :=
            ⟨(HN.out.1.mod acc3.2) k hlt, (HN.out.2.1.mod acc3.2) k hlt⟩
          refine ⟨⟨e8', ex'⟩, fun hHeld => ?_⟩
          refine held_take 0 67 (v := ?_) rfl rfl (by kernel_rfl) (by kernel_rfl) (by kernel_rfl) (fun _ _ _ _ h => h) (by rfl) ?_ hHeld ?_
          rotate_left; · (intro w hSw; clear hSw; go_simp; first | done | with_reducible rfl)
          simp only [List.setIfInBounds_toArray, List.set_cons_zero, List.set_cons_succ]
          refine held_take 1 68 (v := ?_) rfl rfl (by kernel_rfl) (by kernel_rfl) (by kernel_rfl) (fun _ _ _ _ h => h) (by rfl) ?_ hHeld ?_
          rotate_left; · (intro w hSw; clear hSw; go_simp; first | done | with_reducible rfl)
          simp only [List.setIfInBounds_toArray, List.set_cons_zero, List.set_cons_succ]
          refine held_take 2 69 (v := ?_) rfl rfl (by kernel_rfl) (by kernel_rfl) (by kernel_rfl) (fun _ _ _ _ h => h) (by rfl) ?_ hHeld ?_
          rotate_left; · (intro w hSw; clear hSw; go_simp; first | done | with_reducible rfl)
          simp only [List.setIfInBounds_toArray, List.set_cons_zero, List.set_cons_succ]
          refine held_take 3 70 (v := ?_) rfl rfl (by kernel_rfl) (by kernel_rfl) (by kernel_rfl) (fun _ _ _ _ h => h) (by rfl) ?_ hHeld ?_
          rotate_left; · (intro w hSw; clear hSw; go_simp; first | done | with_reducible rfl)
          simp only [List.setIfInBounds_toArray, List.set_cons_zero, List.set_cons_succ]
          refine held_take 4 71 (v := ?_) rfl rfl (by kernel_rfl) (by kernel_rfl) (by kernel_rfl) (fun _ _ _ _ h => h) (by rfl) ?_ hHeld ?_
          rotate_left; · (intro w hSw; obtain ⟨hS0, hS1⟩ := hSw; go_simp; first | done | with_reducible rfl)
          simp only [List.setIfInBounds_toArray, List.set_cons_zero, List.set_cons_succ]
          refine held_take 5 72 (v := ?_) rfl rfl (by kernel_rfl) (by kernel_rfl) (by kernel_rfl) (fun _ _ _ _ h => h) (by rfl) ?_ hHeld ?_
          rotate_left; · (intro w hSw; clear hSw; go_simp; first | done | with_reducible rfl)
          simp only [List.setIfInBounds_toArray, List.set_cons_zero, List.set_cons_succ]
          refine held_take 6 73 (v := ?_) rfl rfl (by kernel_rfl) (by kernel_rfl) (by kernel_rfl) (fun _ _ _ _ h => h) (by rfl) ?_ hHeld ?_
          rotate_left; · (intro w hSw; clear hSw; go_simp; first | done | with_reducible rfl)
          simp only [List.setIfInBounds_toArray, List.set_cons_zero, List.set_cons_succ]
          refine held_take 7 74 (v := ?_) rfl rfl (by kernel_rfl) (by kernel_rfl) (by kernel_rfl) (fun _ _ _ _ h => h) (by rfl) ?_ hHeld ?_
          rotate_left; · (intro w hSw; clear hSw; go_simp; first | done | with_reducible rfl)
          simp only [List.setIfInBounds_toArray, List.set_cons_zero, List.set_cons_succ]
          refine held_take 8 75 (v := ?_) rfl rfl (by kernel_rfl) (by kernel_rfl) (by kernel_rfl) (fun _ _ _ _ h => h) (by rfl) ?_ hHeld ?_
          rotate_left; · (intro w hSw; obtain ⟨hS0, hS1⟩ := hSw; go_simp; first | done | with_reducible rfl)
          simp only [List.setIfInBounds_toArray, List.set_cons_zero, List.set_cons_succ]
          refine held_take 9 76 (v := ?_) rfl rfl (by kernel_rfl) (by kernel_rfl) (by kernel_rfl) (fun _ _ _ _ h => h) (by rfl) ?_ hHeld ?_
          rotate_left; · (intro w hSw; clear hSw; go_simp; first | done | with_reducible rfl)
          simp only [List.setIfInBounds_toArray, List.set_cons_zero, List.set_cons_succ]
          refine held_make 10 77 rfl rfl (by kernel_rfl) (by rfl) (v := .slice (some ⟨wd.heap.size, 0, none⟩) 1 1) (w' := wd.alloc (.cells #[.int .i64 (Z k : Int)] 3)) ?_ ?_ (fun hNew => ?_)
          · (go_simp; first | done | rw [hv])
          · exact HS2.out
          clear hHeld; have hHeld := hNew; clear hNew
          simp only [List.setIfInBounds_toArray, List.set_cons_zero, List.set_cons_succ]
          refine held_make 11 78 rfl rfl (by kernel_rfl) (by rfl) (v := v') (w' := w3) ?_ ?_ (fun hNew => ?_)
          · (exact Wd.op_append (.tmp 67) (.tmp 77) 47 47 rfl rfl rfl rfl hrun)
          · exact HS3.out
          clear hHeld; have hHeld := hNew; clear hNew
          simp only [List.setIfInBounds_toArray, List.set_cons_zero, List.set_cons_succ]
          refine held_take 12 12 (v := ?_) rfl rfl (by kernel_rfl) (by kernel_rfl) (by kernel_rfl) (fun _ _ _ _ h => h) (by rfl) ?_ hHeld ?_
          rotate_left; · (intro w hSw; clear hSw; go_simp; first | done | with_reducible rfl)
          simp only [List.setIfInBounds_toArray, List.set_cons_zero, List.set_cons_succ]
          refine wpAnyH_done (by kernel_rfl) ?_ _
          skip
          go_wp2_with fail
          go_roundw
          case rel => exact ⟨k + 1, by omega, by go_num, acc3⟩
          case measure => simp [intOf]; omega
        · obtain rfl : k = 16 := by omega
          obtain ⟨a, c2, rfl⟩ := own_form acc.1
          have HI := Lib.hid (acc.ints (by decide))
          have HMM := Lib.hid (HN.out.2.2.tr acc.2)
          clear acc
          go_wp2_with (go_at_call 31; refine (Wd.rputsmall_any _ 16 _ _ _ (by decide) HI.out).mono ?_; rintro e w5 ⟨rfl, hm5⟩)
          go_ret2
          exact ⟨rfl, HMM.out.tr hm5⟩
end Go.Proofs.Ytpnpmploaaenlaa
