/- Seals on both sides. Sealing on both sides. -/
import Derived.Test.YtpnpmploaaenlaaMSu
import Derived.Test.YtpnpmploaaenlaaMQ7
namespace Go.Proofs.Ytpnpmploaaenlaa
open Go.RowKit
set_option linter.unusedSimpArgs false
set_option linter.unusedVariables false
def z4 (a b j : Nat) : Nat := if j = 0 then a else if j = 2 then b else 0
def lenS (a b : Nat) : ByteArray := ⟨(Wd.putS (fun j => (z4 a b j : Int)) 4).toArray⟩
theorem lenS_size (a b : Nat) : (lenS a b).size = 16 := by
  show (Wd.putS _ 4).toArray.size = 16
  rw [List.size_toArray, putS_len]
theorem four_ints (a b : Nat) (w : World) (g : Nat) (h : w.heap[g]? = some (.cells #[.int .i64 (a : Int), .int .i64 0, .int .i64 (b : Int), .int .i64 0] 3 (0, 0))) : Wd.Ints w (some ⟨g, 0, none⟩) 4 (fun j => (z4 a b j : Int)) := by
  intro k hk
  refine ⟨g, 0, rfl, ?_⟩
  have : k = 0 ∨ k = 1 ∨ k = 2 ∨ k = 3 := by omega
  rcases this with rfl | rfl | rfl | rfl <;> exact blk_cell h rfl
def macT (bound c : ByteArray) : ByteArray := fillS bound ++ fillS c ++ lenS bound.size c.size
def tagS (key nonce bound c : ByteArray) : ByteArray := macS ((⟨(blkL key nonce 0).toArray⟩ : ByteArray).extract 0 32) (macT bound c)
theorem fillS_size (s : ByteArray) : (fillS s).size ≤ s.size + 16 := by
  unfold fillS
  rw [ByteArray.size_append, zs_size]
  unfold padN
  omega
theorem macT_size (bound c : ByteArray) (hb : bound.size ≤ 10000) (hc : c.size ≤ 10000) : (macT bound c).size ≤ 65536 := by
  unfold macT
  rw [ByteArray.size_append, ByteArray.size_append, lenS_size]
  have := fillS_size bound
  have := fillS_size c
  omega
theorem blk0_size (key nonce : ByteArray) : (⟨(blkL key nonce 0).toArray⟩ : ByteArray).size = 64 := by
  show (blkL key nonce 0).toArray.size = 64
  rw [List.size_toArray]; unfold blkL; rw [putS_len]
def S3 (bound c : ByteArray) (j : Nat) : ByteArray := if j = 0 then bound else if j = 1 then c else lenS bound.size c.size
theorem S3_le (bound c : ByteArray) (hb : bound.size ≤ 10000) (hc : c.size ≤ 10000) (k : Nat) : (S3 bound c k).size ≤ 20000 := by
  unfold S3
  by_cases h : k = 0
  · rw [if_pos h]; omega
  · rw [if_neg h]
    by_cases h1 : k = 1
    · rw [if_pos h1]; omega
    · rw [if_neg h1, lenS_size]; omega
theorem flw (bound c : ByteArray) (hb : bound.size ≤ 10000) (hc : c.size ≤ 10000) : FlW (S3 bound c) (flL (S3 bound c)) where
  f0 := rfl
  f1 := fun _ => rfl
  sl := S3_le bound c hb hc
  fl := fun k => by
    induction k with
    | zero => exact Nat.zero_le _
    | succ k ih =>
      have h1 := S3_le bound c hb hc k
      have e1 : (S3 bound c k).data.toList.length = (S3 bound c k).size := Array.length_toList
      have h2 : padN (S3 bound c k).size ≤ 15 := by unfold padN; omega
      show ((flL (S3 bound c) k ++ (S3 bound c k).data.toList) ++ List.replicate (padN (S3 bound c k).size) 0).length ≤ _
      rw [List.length_append, List.length_append, List.length_replicate, e1]
      omega
theorem fs_eq (bound c : ByteArray) : (⟨(flL (S3 bound c) 3).toArray⟩ : ByteArray) = macT bound c := by
  have h0 : S3 bound c 0 = bound := rfl
  have h1 : S3 bound c 1 = c := rfl
  have h2 : S3 bound c 2 = lenS bound.size c.size := rfl
  have hp : padN (lenS bound.size c.size).size = 0 := by rw [lenS_size]; rfl
  show (⟨(((flL (S3 bound c) 2 ++ (S3 bound c 2).data.toList) ++ List.replicate (padN (S3 bound c 2).size) 0)).toArray⟩ : ByteArray) = _
  show (⟨((((((([] ++ (S3 bound c 0).data.toList) ++ List.replicate (padN (S3 bound c 0).size) 0) ++ (S3 bound c 1).data.toList) ++ List.replicate (padN (S3 bound c 1).size) 0)) ++ (S3 bound c 2).data.toList) ++ List.replicate (padN (S3 bound c 2).size) 0).toArray⟩ : ByteArray) = _
  rw [h0, h1, h2, hp]
  unfold macT fillS zs
  apply ByteArray.ext
  simp
theorem tag_any (key nonce bound c : ByteArray) (hk : key.size = 32) (hn : nonce.size = 12) (hb : bound.size ≤ 10000) (hc : c.size ≤ 10000) (w : World) :
    Calls Try.prog 11 #[.string key, .string nonce, .string bound, .string c] w fun e w' => e = .returned (.string (tagS key nonce bound c)) ∧ Mod (fun _ => False) w w' :=
  tag_walk key nonce bound c _ (lenS bound.size c.size) (macT bound c) _ (blk0_size key nonce) (block_any key nonce 0 hk hn (by decide))
    (fun w g h => Wd.putsmall_any _ 4 4 _ w (by decide) (four_ints _ _ w g h))
    (fun w g h => by
      rw [← fs_eq]
      refine afilled_walk (S3 bound c) _ (flw bound c hb hc) g 3 w (fun k hk3 => ?_)
      have : k = 0 ∨ k = 1 ∨ k = 2 := by omega
      rcases this with rfl | rfl | rfl <;> exact blk_cell h rfl)
    (mac_v (.inl ⟨by rw [ByteArray.size_extract, blk0_size]; omega, macT_size bound c hb hc, rfl, rfl⟩)) w
theorem rtag_any (key nonce bound c : ByteArray) (hk : key.size = 32) (hn : nonce.size = 12) (hb : bound.size ≤ 10000) (hc : c.size ≤ 10000) (w : World) :
    Calls Try.prog 14 #[.string key, .string nonce, .string bound, .string c] w fun e w' => e = .returned (.string (tagS key nonce bound c)) ∧ Mod (fun _ => False) w w' :=
  rtag_walk key nonce bound c _ (lenS bound.size c.size) _ fillS (blk0_size key nonce) (rblk_any key nonce 0 hk hn (by decide))
    (fun w g h => Wd.rputsmall_any _ 4 4 _ w (by decide) (four_ints _ _ w g h))
    (fun t w ht => rfilled_any t (by omega) w) (by omega) (by omega) (by have := fillS_size bound; have := fillS_size c; omega) (by have := fillS_size bound; have := fillS_size c; rw [lenS_size]; omega)
    (rmac_v (.inl ⟨by rw [ByteArray.size_extract, blk0_size]; omega, macT_size bound c hb hc, rfl, rfl⟩)) w
def ctS (key nonce s : ByteArray) : ByteArray := ⟨(sxL s (fun q => blkL key nonce (1 + q))).toArray⟩
theorem ctS_size (key nonce s : ByteArray) : (ctS key nonce s).size = s.size := by
  show (sxL s _).toArray.size = _
  rw [List.size_toArray, sxL_len]
theorem stream_any (key nonce s : ByteArray) (hk : key.size = 32) (hn : nonce.size = 12) (hs : s.size ≤ 10000) (w : World) :
    Calls Try.prog 10 #[.string key, .string nonce, .int .i64 1, .string s] w fun e w' => e = .returned (.tuple #[.string (ctS key nonce s), .int .i64 0]) ∧ Mod (fun _ => False) w w' :=
  stream_walk key nonce s 1 (fun q => blkL key nonce (1 + q)) hs (by decide) (may_any key nonce 1 hk hn (by decide)) (fun q w hq => pblk_any key nonce (1 + q) hk hn (by omega) w) w
theorem rstream_any (key nonce s : ByteArray) (hk : key.size = 32) (hn : nonce.size = 12) (hs : s.size ≤ 10000) (w : World) :
    Calls Try.prog 13 #[.string key, .string nonce, .int .i64 1, .string s] w fun e w' => e = .returned (.tuple #[.string (ctS key nonce s), .int .i64 0]) ∧ Mod (fun _ => False) w w' :=
  rstream_walk key nonce s 1 (fun q => blkL key nonce (1 + q)) hs (by decide) hk hn (fun q => by unfold blkL; rw [putS_len]) (fun q w hq => rblk_any key nonce (1 + q) hk hn (by omega) w) w
end Go.Proofs.Ytpnpmploaaenlaa
namespace Go.Proofs.Ytpnpmploaaenlaa
open Go.RowKit
set_option linter.unusedSimpArgs false
set_option linter.unusedVariables false
theorem small_concat (a b : ByteArray) (m n : Nat) (ha : a.size = m) (hb : b.size ≤ n) (hm : m ≤ 10000) (hn : n ≤ 10000) : ¬ (9223372036854775807 < a.size + b.size) := by omega
set_option maxRecDepth 100000 in
set_option maxHeartbeats 2000000 in
theorem seal_walk (key nonce bound s CT TG : ByteArray)
    (hmay : ∀ w, Calls Try.prog 9 #[.string key, .string nonce, .int .i64 (bound.size : Int), .int .i64 (s.size : Int)] w fun e w' => e = .returned (.bool true) ∧ w' = w)
    (hst : ∀ w, Calls Try.prog 10 #[.string key, .string nonce, .int .i64 1, .string s] w fun e w' => e = .returned (.tuple #[.string CT, .int .i64 0]) ∧ Mod (fun _ => False) w w')
    (htg : ∀ w, Calls Try.prog 11 #[.string key, .string nonce, .string bound, .string CT] w fun e w' => e = .returned (.string TG) ∧ Mod (fun _ => False) w w')
    (hbig : ¬ (9223372036854775807 < CT.size + TG.size)) (w : World) :
    Calls Try.prog 4 #[.string key, .string nonce, .string bound, .string s] w fun e w' => e = .returned (.tuple #[.string (CT ++ TG), .int .i64 0]) ∧ Mod (fun _ => False) w w' := by
  have HM := Lib.hid hmay
  have HS := Lib.hid hst
  have HT := Lib.hid htg
  clear hmay hst htg
  go_enter Try.func4, Try.ntmps4
  go_wp2_with first
    | (go_at_call 9; refine (HM.out _).mono ?_; rintro er w0 ⟨rfl, hm0⟩; subst hm0)
    | (go_at_call 10; refine (HS.out _).mono ?_; rintro er w1 ⟨rfl, hm1⟩)
    | (go_at_call 11; refine (HT.out _).mono ?_; rintro er w2 ⟨rfl, hm2⟩)
  go_ret2
  exact ⟨rfl, hm1.tr hm2⟩
set_option maxRecDepth 100000 in
set_option maxHeartbeats 2000000 in
theorem seal_walk_not (key nonce bound s : ByteArray)
    (hmay : ∀ w, Calls Try.prog 9 #[.string key, .string nonce, .int .i64 (bound.size : Int), .int .i64 (s.size : Int)] w fun e w' => e = .returned (.bool false) ∧ w' = w) (w : World) :
    Calls Try.prog 4 #[.string key, .string nonce, .string bound, .string s] w fun e w' => e = .returned (.tuple #[.string ⟨#[]⟩, .int .i64 1]) ∧ Mod (fun _ => False) w w' := by
  have HM := Lib.hid hmay
  clear hmay
  go_enter Try.func4, Try.ntmps4
  go_wp2_with (go_at_call 9; refine (HM.out _).mono ?_; rintro er w0 ⟨rfl, hm0⟩; subst hm0)
  go_ret2
  exact ⟨rfl, Mod.refl _ _⟩
set_option maxRecDepth 100000 in
set_option maxHeartbeats 2000000 in
theorem rseal_walk (key nonce bound s CT TG : ByteArray)
    (hmay : ∀ w, Calls Try.prog 12 #[.string key, .string nonce, .int .i64 (bound.size : Int), .int .i64 (s.size : Int)] w fun e w' => e = .returned (.bool true) ∧ w' = w)
    (hst : ∀ w, Calls Try.prog 13 #[.string key, .string nonce, .int .i64 1, .string s] w fun e w' => e = .returned (.tuple #[.string CT, .int .i64 0]) ∧ Mod (fun _ => False) w w')
    (htg : ∀ w, Calls Try.prog 14 #[.string key, .string nonce, .string bound, .string CT] w fun e w' => e = .returned (.string TG) ∧ Mod (fun _ => False) w w')
    (hbig : ¬ (9223372036854775807 < CT.size + TG.size)) (w : World) :
    Calls Try.prog 5 #[.string key, .string nonce, .string bound, .string s] w fun e w' => e = .returned (.tuple #[.string (CT ++ TG), .int .i64 0]) ∧ Mod (fun _ => False) w w' := by
  have HM := Lib.hid hmay
  have HS := Lib.hid hst
  have HT := Lib.hid htg
  clear hmay hst htg
  go_enter Try.func5, Try.ntmps5
  go_wp2_with first
    | (go_at_call 12; refine (HM.out _).mono ?_; rintro er w0 ⟨rfl, hm0⟩; subst hm0)
    | (go_at_call 13; refine (HS.out _).mono ?_; rintro er w1 ⟨rfl, hm1⟩)
    | (go_at_call 14; refine (HT.out _).mono ?_; rintro er w2 ⟨rfl, hm2⟩)
  go_ret2
  exact ⟨rfl, hm1.tr hm2⟩
set_option maxRecDepth 100000 in
set_option maxHeartbeats 2000000 in
theorem rseal_walk_not (key nonce bound s : ByteArray)
    (hmay : ∀ w, Calls Try.prog 12 #[.string key, .string nonce, .int .i64 (bound.size : Int), .int .i64 (s.size : Int)] w fun e w' => e = .returned (.bool false) ∧ w' = w) (w : World) :
    Calls Try.prog 5 #[.string key, .string nonce, .string bound, .string s] w fun e w' => e = .returned (.tuple #[.string ⟨#[]⟩, .int .i64 1]) ∧ Mod (fun _ => False) w w' := by
  have HM := Lib.hid hmay
  clear hmay
  go_enter Try.func5, Try.ntmps5
  go_wp2_with (go_at_call 12; refine (HM.out _).mono ?_; rintro er w0 ⟨rfl, hm0⟩; subst hm0)
  go_ret2
  exact ⟨rfl, Mod.refl _ _⟩
def sealS (key nonce bound s : ByteArray) : ByteArray := ctS key nonce s ++ tagS key nonce bound (ctS key nonce s)
theorem tagS_size (key nonce bound c : ByteArray) : (tagS key nonce bound c).size ≤ 16 := by
  unfold tagS macS leS
  show (List.toArray _).size ≤ 16
  rw [List.size_toArray]
  simp
theorem seal_both (key nonce bound s : ByteArray) (hb : bound.size ≤ 512) (hs : s.size ≤ 512) : ∃ (U : ByteArray) (n : Nat),
    (∀ w, Calls Try.prog 4 #[.string key, .string nonce, .string bound, .string s] w fun e w' => e = .returned (.tuple #[.string U, .int .i64 (n : Int)]) ∧ Mod (fun _ => False) w w')
    ∧ ∀ w, Calls Try.prog 5 #[.string key, .string nonce, .string bound, .string s] w fun e w' => e = .returned (.tuple #[.string U, .int .i64 (n : Int)]) ∧ Mod (fun _ => False) w w' := by
  by_cases hk : key.size = 32
  · by_cases hn : nonce.size = 12
    · have hm : MayV key nonce true := .inl ⟨hk, hn, rfl⟩
      have hc : (ctS key nonce s).size ≤ 10000 := by rw [ctS_size]; omega
      have hbig := small_concat (ctS key nonce s) (tagS key nonce bound (ctS key nonce s)) s.size 16 (ctS_size _ _ _) (tagS_size _ _ _ _) (by omega) (by decide)
      exact ⟨sealS key nonce bound s, 0, fun w => seal_walk key nonce bound s _ _ (amay_any key nonce _ _ true hm (by omega) (by omega)) (stream_any key nonce s hk hn (by omega)) (tag_any key nonce bound _ hk hn (by omega) hc) hbig w,
        fun w => rseal_walk key nonce bound s _ _ (rmay_any key nonce _ _ true hm (by omega) (by omega)) (rstream_any key nonce s hk hn (by omega)) (rtag_any key nonce bound _ hk hn (by omega) hc) hbig w⟩
    · have hm : MayV key nonce false := .inr ⟨.inr hn, rfl⟩
      exact ⟨⟨#[]⟩, 1, fun w => seal_walk_not key nonce bound s (amay_any key nonce _ _ false hm (by omega) (by omega)) w, fun w => rseal_walk_not key nonce bound s (rmay_any key nonce _ _ false hm (by omega) (by omega)) w⟩
  · have hm : MayV key nonce false := .inr ⟨.inl hk, rfl⟩
    exact ⟨⟨#[]⟩, 1, fun w => seal_walk_not key nonce bound s (amay_any key nonce _ _ false hm (by omega) (by omega)) w, fun w => rseal_walk_not key nonce bound s (rmay_any key nonce _ _ false hm (by omega) (by omega)) w⟩
theorem exp32_size : (expS ⟨#[107]⟩ ⟨#[]⟩ 32).size = 32 := by
  have h := (exp_word ⟨#[107]⟩ ⟨#[]⟩).ol 1
  have h2 : (⟨(outL ⟨#[107]⟩ ⟨#[]⟩ 1).toArray⟩ : ByteArray).size = 32 := by
    show (List.toArray _).size = 32
    rw [List.size_toArray, h]
  show ((⟨(outL ⟨#[107]⟩ ⟨#[]⟩ 1).toArray⟩ : ByteArray).extract 0 32).size = 32
  rw [ByteArray.size_extract, h2]
  rfl
end Go.Proofs.Ytpnpmploaaenlaa
