/- The sum of a text: the walk. -/
import Derived.Test.YtpnpmploaaenlaaMS6
namespace Go.Proofs.Ytpnpmploaaenlaa
open Go.RowKit
set_option linter.unusedSimpArgs false
set_option linter.unusedVariables false
def strSize : Value → Nat
  | .string s => s.size
  | _ => 0
theorem ne_nil (s : ByteArray) (h : 0 < s.size) : s.toList.isEmpty = false := by
  rw [ByteArray.toList_eq]
  have : s.data.toList.length = s.size := by simp
  cases hl : s.data.toList with
  | nil => rw [hl] at this; simp at this; omega
  | cons _ _ => rfl
theorem nil_of_size (s : ByteArray) (h : s.size = 0) : s = ⟨#[]⟩ := ByteArray.ext (Array.eq_empty_of_size_eq_zero h)
structure SumWord (s T PL : ByteArray) (N : Nat) (H : Nat → Nat → Nat) (K : Nat → Nat) (R : ByteArray) : Prop where
  pc : ∀ w, Calls Try.prog 61 #[.int .i64 (s.size : Int)] w fun e w' => e = .returned (.tuple #[.string PL, .int .i64 0]) ∧ Mod (fun _ => False) w w'
  kc : ∀ w, Calls Try.prog 62 #[] w fun e w' => e = .returned (.agg (rowV 64 K)) ∧ Mod (fun _ => False) w w'
  sc : ∀ w, Calls Try.prog 63 #[] w fun e w' => e = .returned (.agg (rowV 8 (H 0))) ∧ Mod (fun _ => False) w w'
  step : ∀ m b gc w, b.size = 64 → (∀ j, j < 16 → wordB b j = wordB T (16 * m + j)) → U 80 64 w gc K → Calls Try.prog 64 #[.agg (rowV 8 (H m)), .pointer (some ⟨gc, 0, none⟩), .string b] w fun e w' => e = .returned (.agg (rowV 8 (H (m + 1)))) ∧ Mod (fun _ => False) w w'
  tx : ∀ w, Calls Try.prog 65 #[.agg (rowV 8 (H N))] w fun e w' => e = .returned (.string R) ∧ Mod (fun _ => False) w w'
  ts : T.size = 64 * N
  n : (s.size + 72) / 64 = N
  te : s ++ PL = T
  pl : PL.size ≤ 1000
set_option maxRecDepth 100000 in
set_option maxHeartbeats 4000000 in
theorem sum_walk (s T PL : ByteArray) (N : Nat) (H : Nat → Nat → Nat) (K : Nat → Nat) (R : ByteArray) (hS : SumWord s T PL N H K R) (hs : s.size ≤ 1000000) (w : World) :
    Calls Try.prog 34 #[.string s] w fun e w' => e = .returned (.string R) ∧ Mod (fun _ => False) w w' := by
  have HS := Lib.hid hS
  clear hS
  obtain ⟨q, hq⟩ : ∃ q, s.size / 64 = q := ⟨_, rfl⟩
  have hq2 : (s.size : Int).tdiv 64 = (q : Int) := by rw [Int.tdiv_eq_ediv_of_nonneg (by omega)]; omega
  have hq3 : (s.size : Int) / 64 = (q : Int) := by omega
  obtain ⟨qq, hqq⟩ : ∃ qq, qq = 64 * q := ⟨_, rfl⟩
  have hq4 : (q : Int) * 64 = (qq : Int) := by omega
  have hqs : qq ≤ s.size := by omega
  have Hqq := Lib.hid hqq
  clear hqq
  go_enter Try.func34, Try.ntmps34
  go_upto_region 2 with (first | (go_at_call 61; refine (HS.out.pc _).mono ?_; rintro e w1 ⟨rfl, hm1⟩))
  go_upto_region 3 with (first | (go_at_call 62; refine (HS.out.kc _).mono ?_; rintro e w2 ⟨rfl, hm2⟩) | (refine wpList_store_row rfl 80 (.tmp 5) (.tmp 16) rfl _ (rowV 64 K) rfl rfl _ _ (U.new (ty := 80) (n := 64) _ (fun _ => 0) _ rfl) (by kernel_rfl) rfl (rowV_one 64 K) ?_))
  rw [zero64]
  have HC := Lib.hid ((U.new (ty := 80) (n := 64) w2 (fun _ => 0) w2.heap.size rfl).row K)
  have HM2 := Lib.hid (((hm1.tr hm2).alloc (.cells (rowV 64 fun _ => 0) 80)).row (g := w2.heap.size) (fun hh => absurd hh (by have := (hm1.tr hm2).size; omega)) (rowV 64 K))
  generalize hW : (w2.alloc (.cells (rowV 64 fun _ => 0) 80)).setRow w2.heap.size (rowV 64 K) = W at *
  clear hW
  obtain ⟨gc, hgc⟩ : ∃ gc, w2.heap.size = gc := ⟨_, rfl⟩
  have hwgc : w.heap.size ≤ gc := by have := (hm1.tr hm2).size; omega
  rw [hgc] at HC ⊢
  clear hgc hm1 hm2
  go_upto_region 4 with (first | (go_at_call 63; refine (HS.out.sc _).mono ?_; rintro e w3 ⟨rfl, hm3⟩) | (refine wpList_store_row rfl 83 (.tmp 6) (.tmp 17) rfl _ (rowV 8 (H 0)) rfl rfl _ _ (U.new (ty := 83) (n := 8) _ (fun _ => 0) _ rfl) (by kernel_rfl) rfl (rowV_one 8 (H 0)) ?_))
  rw [zero8]
  have HB := Lib.hid ((U.new (ty := 83) (n := 8) w3 (fun _ => 0) w3.heap.size rfl).row (H 0))
  have HC3 := Lib.hid (((HC.out.kept hm3 (fun e => e)).alloc (.cells (rowV 8 fun _ => 0) 83)).rowOther (k := w3.heap.size) (by have := HC.out.lt; have := hm3.size; omega) (rowV 8 (H 0)))
  have HM3 := Lib.hid (((HM2.out.tr hm3).alloc (.cells (rowV 8 fun _ => 0) 83)).row (g := w3.heap.size) (fun hh => absurd hh (by have := (HM2.out.tr hm3).size; omega)) (rowV 8 (H 0)))
  have hne0 : gc < w3.heap.size := by have := HC.out.lt; have := hm3.size; omega
  generalize hW3 : (w3.alloc (.cells (rowV 8 fun _ => 0) 83)).setRow w3.heap.size (rowV 8 (H 0)) = W3 at *
  clear hW3
  have hwgh : w.heap.size ≤ w3.heap.size := by have := (HM2.out.tr hm3).size; omega
  obtain ⟨gh, hgh⟩ : ∃ gh, w3.heap.size = gh := ⟨_, rfl⟩
  rw [hgh] at HB hne0 hwgh ⊢
  clear hgh HC HM2 hm3
  go_frame
  go_wp2_with fail
  go_loopw [8] (fun i wr => ∃ k c : Nat, k ≤ q ∧ c = 64 * k ∧ i = .int .i64 (c : Int) ∧ U 80 64 wr gc K ∧ U 83 8 wr gh (H k) ∧ Mod (fun _ => False) w wr) (fun i _ => s.size - (intOf i).toNat)
  case atStart => exact ⟨0, 0, by omega, rfl, rfl, HC3.out, HB.out, HM3.out⟩
  case round =>
    obtain ⟨k, c, hk, hc, rfl, n0, n1, hm⟩ := hrel
    have Hc := Lib.hid hc
    clear hc
    by_cases hlt : k < q
    · have hlt2 : (c : Int) < (qq : Int) := by have := Hc.out; have := Hqq.out; omega
      have hc4 : c + 64 ≤ s.size := by have := Hc.out; have := Hqq.out; omega
      have hc0 : (0 : Int) ≤ (c : Int) := by omega
      have hc1 : (c : Int) + 64 ≤ (s.size : Int) := by omega
      have hc2 : ((c : Int) + 64).toNat = c + 64 := by omega
      have hc3 : (c : Int) ≤ (c : Int) + 64 := by omega
      have hw : IntKind.i64.wrap ((c : Int) + 64) = (c : Int) + 64 := by rw [IntKind.wrap_i64]; omega
      have HN1 := Lib.hid (And.intro n0 (And.intro n1 hm))
      clear n0 n1 hm
      go_wp2_with fail
      obtain ⟨wd, hwd⟩ : ∃ wd, wr.drew = wd := ⟨_, rfl⟩
      have HN2 : Hid (U 80 64 wd gc K ∧ U 83 8 wd gh (H k) ∧ Mod (fun _ => False) w wd) := by
        subst hwd
        exact ⟨HN1.out.1, HN1.out.2.1, HN1.out.2.2.drew⟩
      refine wp_still_tail 6 wd hwd (by kernel_rfl) (by kernel_rfl) ?_
      clear hwd HN1
      simp only [List.take_succ_cons, List.take_zero, List.drop_succ_cons, List.drop_zero]
      refine wpStill_load_row rfl 83 (.tmp 6) rfl gh rfl _ _ _ _ HN2.out.2.1 Try.underlying83 rfl (by kernel_rfl) ?_
      repeat still_step
      refine wpStill_nil ?_
      have hbs : (s.extract c (c + 64)).size = 64 := by rw [ByteArray.size_extract]; omega
      have ev : ∀ j, j < 16 → wordB (s.extract c (c + 64)) j = wordB T (16 * k + j) := fun j hj => by
        have h1 : wordB (s.extract c (c + 64)) j = wordB s (16 * k + j) := wordB_ext s c (c + 64) j (16 * k) (by have := Hc.out; omega) (by omega)
        have h2 : wordB T (16 * k + j) = wordB s (16 * k + j) := by rw [← HS.out.te]; exact wordB_app _ _ _ (by have := Hc.out; omega)
        rw [h1, h2]
      go_wp2_with (first | (go_at_call 64; refine (HS.out.step k (s.extract c (c + 64)) gc _ hbs ev HN2.out.1).mono ?_; rintro e w1 ⟨rfl, hm1⟩; have n1' := Lib.hid (HN2.out.2.1.kept hm1 (fun e => e))) | (refine wpList_store_row rfl 83 (.tmp 6) (.tmp 33) rfl gh (rowV 8 (H (k + 1))) rfl rfl _ _ n1'.out (by kernel_rfl) rfl (rowV_one 8 _) ?_))
      obtain ⟨n0, n1, hm⟩ := HN2.out
      go_roundw
      case rel => exact ⟨k + 1, c + 64, by omega, by have := Hc.out; omega, by go_num, (n0.kept hm1 (fun e => e)).rowOther (by omega) _, n1'.out.row _, (hm.tr hm1).row (fun hh => absurd hh (by omega)) _⟩
      case measure => simp [intOf]; omega
    · obtain rfl : k = q := by omega
      have hlt2 : ¬ (c : Int) < (qq : Int) := by have := Hc.out; have := Hqq.out; omega
      obtain rfl : c = qq := by have := Hc.out; have := Hqq.out; omega
      have hbig : ¬ (9223372036854775807 < s.size - c + PL.size) := by have := HS.out.pl; omega
      have hc0 : (0 : Int) ≤ (c : Int) := by omega
      have hc1 : (c : Int) ≤ (s.size : Int) := by omega
      have hX : s.extract c s.size ++ PL = T.extract c T.size := by
        rw [rest_app _ _ _ _ (by omega) rfl, HS.out.te]
      have HN1 := Lib.hid (And.intro n0 (And.intro n1 hm))
      clear n0 n1 hm
      go_wp2_with fail
      clear hX hbig hc0 hc1 hlt2 hlt
      have HTs2 := Lib.hid (show T.size ≤ 1000128 by have := HS.out.ts; have := HS.out.n; omega)
      go_loopw [9] (fun v wx => ∃ m : Nat, k ≤ m ∧ m ≤ N ∧ v = .string (T.extract (64 * m) T.size) ∧ U 80 64 wx gc K ∧ U 83 8 wx gh (H m) ∧ Mod (fun _ => False) w wx) (fun v _ => strSize v)
      case atStart => exact ⟨k, by omega, by have := HS.out.n; omega, by rw [← Hc.out], HN1.out⟩
      case round =>
        obtain ⟨m, hkm, hm1, rfl, n0, n1, hm⟩ := hrel
        obtain ⟨X, hX⟩ : ∃ X, X = T.extract (64 * m) T.size := ⟨_, rfl⟩
        have hXs : X.size = 64 * (N - m) := by rw [hX, ByteArray.size_extract, HS.out.ts]; omega
        have HX := Lib.hid hX
        rw [← hX]
        clear hX
        by_cases hlt : m < N
        · have hne := ne_nil X (by omega)
          have h64 : 64 ≤ X.size := by omega
          have h64' : (64 : Int) ≤ (X.size : Int) := by omega
          have HXs := Lib.hid hXs
          clear hXs
          have HN2 := Lib.hid (And.intro n0 (And.intro n1 hm))
          clear n0 n1 hm
          go_wp2_with fail
          obtain ⟨wd, hwd⟩ : ∃ wd, wr.drew = wd := ⟨_, rfl⟩
          have HN3 : Hid (U 80 64 wd gc K ∧ U 83 8 wd gh (H m) ∧ Mod (fun _ => False) w wd) := by
            subst hwd
            exact ⟨HN2.out.1, HN2.out.2.1, HN2.out.2.2.drew⟩
          refine wp_still_tail 3 wd hwd (by kernel_rfl) (by kernel_rfl) ?_
          clear hwd HN2
          simp only [List.take_succ_cons, List.take_zero, List.drop_succ_cons, List.drop_zero]
          refine wpStill_load_row rfl 83 (.tmp 6) rfl gh rfl _ _ _ _ HN3.out.2.1 Try.underlying83 rfl (by kernel_rfl) ?_
          repeat still_step
          refine wpStill_nil ?_
          have hbs : (X.extract 0 64).size = 64 := by rw [ByteArray.size_extract]; omega
          have ev : ∀ j, j < 16 → wordB (X.extract 0 64) j = wordB T (16 * m + j) := fun j hj => by
            have h1 : wordB (X.extract 0 64) j = wordB X (0 + j) := wordB_ext X 0 64 j 0 rfl (by omega)
            have h2 : wordB X j = wordB T (16 * m + j) := by rw [HX.out]; exact wordB_ext T (64 * m) T.size j (16 * m) (by omega) (by rw [HS.out.ts]; omega)
            rw [h1, Nat.zero_add, h2]
          go_wp2_with (first | (go_at_call 64; refine (HS.out.step m (X.extract 0 64) gc _ hbs ev HN3.out.1).mono ?_; rintro e w1 ⟨rfl, hm1⟩; have n1' := Lib.hid (HN3.out.2.1.kept hm1 (fun e => e))) | (refine wpList_store_row rfl 83 (.tmp 6) (.tmp 46) rfl gh (rowV 8 (H (m + 1))) rfl rfl _ _ n1'.out (by kernel_rfl) rfl (rowV_one 8 _) ?_))
          obtain ⟨n0, n1, hm⟩ := HN3.out
          have ex : X.extract 64 X.size = T.extract (64 * (m + 1)) T.size := by
            have := ext_ext T (64 * m) X.size (by rw [HX.out]) 64
            rw [← HX.out] at this
            rw [this]
            rfl
          go_wp2_with fail
          go_roundw
          case rel => exact ⟨m + 1, by omega, by omega, by rw [ex], (n0.kept hm1 (fun e => e)).rowOther (by omega) _, n1'.out.row _, (hm.tr hm1).row (fun hh => absurd hh (by omega)) _⟩
          case measure => simp [strSize, ByteArray.size_extract]; omega
        · obtain rfl : m = N := by omega
          have hnil := nil_of_size X (by omega)
          have HA := Lib.hid n1
          have HM := Lib.hid hm
          clear HX hXs
          subst hnil
          clear n0 n1 hm
          go_wp2_with (first | (refine wpList_load_row rfl 83 (.tmp 6) rfl _ rfl _ _ _ _ HA.out Try.underlying83 rfl (by kernel_rfl) ?_) | (go_at_call 65; refine (HS.out.tx _).mono ?_; rintro e w1 ⟨rfl, hm1⟩))
          go_ret
          exact ⟨rfl, HM.out.tr hm1⟩
theorem sum_word (s : ByteArray) (hs : s.size ≤ 1000000) : SumWord s (padded s) ⟨(padL s.size).toArray⟩ ((s.size + 72) / 64) (hashN (padded s)) kN (shaS s) where
  pc := pad_any s.size (by omega)
  kc := constants_any
  sc := start_any
  step := fun m b gc w hb hw hc => by
    rw [← hashN_succ (padded s) b m hw]
    exact step_any _ (hashN_lt _ m) gc b hb w hc
  tx := text_any _ (hashN_lt _ _)
  ts := padded_size s
  n := rfl
  te := rfl
  pl := by
    show (padL s.size).toArray.size ≤ 1000
    rw [List.size_toArray, padL_len]
    omega
theorem sum_any (s : ByteArray) (hs : s.size ≤ 1000000) (w : World) :
    Calls Try.prog 34 #[.string s] w fun e w' => e = .returned (.string (shaS s)) ∧ Mod (fun _ => False) w w' :=
  sum_walk s _ _ _ _ _ _ (sum_word s hs) hs w
end Go.Proofs.Ytpnpmploaaenlaa
