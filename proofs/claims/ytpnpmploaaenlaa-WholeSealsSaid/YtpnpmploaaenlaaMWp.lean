/- Words as bytes. Words and bytes, there and back: plain laws. The laws on words of bytes: the walks. -/
import Derived.Test.YtpnpmploaaenlaaMW5
import Derived.Test.YtpnpmploaaenlaaMW8
import Derived.Test.YtpnpmploaaenlaaMWr
namespace Go.Proofs.Ytpnpmploaaenlaa.Wd
open Go.RowKit
set_option linter.unusedSimpArgs false
set_option linter.unusedVariables false

def putS (z : Nat → Int) (k : Nat) : List UInt8 := (List.range k).flatMap fun j => (b4 (z j)).reverse
theorem putS_succ (z : Nat → Int) (k : Nat) : putS z (k + 1) = putS z k ++ (b4 (z k)).reverse := by
  unfold putS; rw [List.range_succ, List.flatMap_append]; simp
theorem putS_length (z : Nat → Int) (k : Nat) : (putS z k).length = 4 * k := by
  induction k with
  | zero => rfl
  | succ k ih => rw [putS_succ]; simp [ih, b4]; omega
abbrev c8 (x : Int) : Int := x % 256
theorem b4_cells (x : Int) : Lib.byteCells (b4 x) = [.int .u8 (c8 (x / 16777216)), .int .u8 (c8 (x / 65536)), .int .u8 (c8 (x / 256)), .int .u8 (c8 x)] := by
  have e : ∀ (d : Nat) (y : Int), ((wordN x / d : Nat) : Int) % 256 = y % 256 → (((UInt8.ofNat (wordN x / d)).toNat : Nat) : Int) = c8 y := by
    intro d y h
    rw [UInt8.toNat_ofNat']
    show _ = y % 256
    omega
  have e1 := e 16777216 (x / 16777216) (by unfold wordN; omega)
  have e2 := e 65536 (x / 65536) (by unfold wordN; omega)
  have e3 := e 256 (x / 256) (by unfold wordN; omega)
  have e4 := e 1 x (by unfold wordN; omega)
  rw [Nat.div_one] at e4
  simp only [b4, Lib.byteCells, List.map_cons, List.map_nil, e1, e2, e3, e4]

set_option maxRecDepth 100000 in
set_option maxHeartbeats 4000000 in
theorem put_big (a : Option Addr) (n cap : Nat) (z : Nat → Int) (w : World) (hn : n ≤ 10000) (hz : Ints w a n z) :
    Calls Try.prog 45 #[.slice a n cap, .bool false] w fun e w' => e = .returned (.string ⟨(putL z n).toArray⟩) ∧ Mod (fun _ => False) w w' := by
  have fresh := bld_fresh w
  have FR := Lib.hid fresh
  clear fresh
  go_enter Try.func45, Try.ntmps45
  go_wp2_with fail
  go_loopw [11] (fun i wr => ∃ k : Nat, k ≤ n ∧ i = .int .i64 (k : Int) ∧ Bld w wr w.heap.size (putL z k)) (fun i _ => n - (intOf i).toNat)
  case atStart => exact ⟨0, by omega, rfl, FR.out⟩
  case round =>
    obtain ⟨k, hk, rfl, bld⟩ := hrel
    have hmm := bld.2.size
    have hlt0 : w.heap.size < wr.heap.size := by obtain ⟨⟨p, hp, hb⟩, hm⟩ := bld; exact hb.lt
    by_cases hlt : k < n
    · have hi0 : (0 : Int) ≤ (k : Int) := by omega
      have hlt2 : (k : Int) < (n : Int) := by omega
      obtain ⟨b1, o1, rfl, c1⟩ := (hz.kept bld.2) k hlt
      have HL := Lib.hid (putL_succ z k)
      have HN := Lib.hid (putL_length z k)
      have HZ := Lib.hid hz
      have HC := Lib.hid (b4_cells (z k))
      clear hz
      go_wp2_with fail
      have hg2 := new_block wr #[.int .u8 (c8 (z k / 16777216)), .int .u8 (c8 (z k / 65536)), .int .u8 (c8 (z k / 256)), .int .u8 (c8 (z k))] 5 _ rfl
      have bld2 := bld.mod ((Mod.refl _ _).alloc (.cells #[.int .u8 (c8 (z k / 16777216)), .int .u8 (c8 (z k / 65536)), .int .u8 (c8 (z k / 256)), .int .u8 (c8 (z k))] 5))
      refine (write_any w _ _ _ bld2 (b4 (z k)) wr.heap.size 4 _ rfl (by omega) ?hc (by decide) ?hl (by decide)).mono ?_
      case hc =>
        intro j u hj
        have hcs : Lib.byteCells ((b4 (z k))) = [.int .u8 (c8 (z k / 16777216)), .int .u8 (c8 (z k / 65536)), .int .u8 (c8 (z k / 256)), .int .u8 (c8 (z k))] := by
          have := HC.out
          simp only [Lib.byteCells, List.map_reverse] at this ⊢
          rw [this]
          try rfl
        rw [hcs] at hj
        match j, hj with
        | 0, hj => simp at hj; subst hj; exact blk_cell hg2 rfl
        | 1, hj => simp at hj; subst hj; exact blk_cell hg2 rfl
        | 2, hj => simp at hj; subst hj; exact blk_cell hg2 rfl
        | 3, hj => simp at hj; subst hj; exact blk_cell hg2 rfl
      case hl => have := HN.out; omega
      rintro e w4 ⟨⟨v4, rfl⟩, used⟩
      rw [← HL.out] at used
      clear bld bld2 hg2
      go_wp2_with fail
      go_roundw
      case rel => exact ⟨k + 1, by omega, by go_num, used.bld⟩
      case measure => simp [intOf]; omega
    · obtain rfl : k = n := by omega
      go_wp2_with fail
      refine (string_any w _ _ _ bld).mono ?_
      rintro e w4 ⟨rfl, m4⟩
      go_wp2_with fail
      go_ret
      exact ⟨rfl, m4⟩
theorem putbig_any (a : Option Addr) (n cap : Nat) (z : Nat → Int) (w : World) (hn : n ≤ 10000) (hz : Ints w a n z) :
    Calls Try.prog 85 #[.slice a n cap] w fun e w' => e = .returned (.string ⟨(putL z n).toArray⟩) ∧ Mod (fun _ => False) w w' := by
  have HZ := Lib.hid hz
  clear hz
  go_enter Try.func85, Try.ntmps85
  go_wp2_with fail
  refine (put_big _ _ _ z _ hn HZ.out).mono ?_
  rintro e w4 ⟨rfl, m4⟩
  go_wp2_with fail
  go_ret
  exact ⟨rfl, m4⟩

set_option maxRecDepth 100000 in
set_option maxHeartbeats 4000000 in
theorem put_small (a : Option Addr) (n cap : Nat) (z : Nat → Int) (w : World) (hn : n ≤ 10000) (hz : Ints w a n z) :
    Calls Try.prog 45 #[.slice a n cap, .bool true] w fun e w' => e = .returned (.string ⟨(putS z n).toArray⟩) ∧ Mod (fun _ => False) w w' := by
  have fresh := bld_fresh w
  have FR := Lib.hid fresh
  clear fresh
  go_enter Try.func45, Try.ntmps45
  go_wp2_with fail
  go_loopw [11] (fun i wr => ∃ k : Nat, k ≤ n ∧ i = .int .i64 (k : Int) ∧ Bld w wr w.heap.size (putS z k)) (fun i _ => n - (intOf i).toNat)
  case atStart => exact ⟨0, by omega, rfl, FR.out⟩
  case round =>
    obtain ⟨k, hk, rfl, bld⟩ := hrel
    have hmm := bld.2.size
    have hlt0 : w.heap.size < wr.heap.size := by obtain ⟨⟨p, hp, hb⟩, hm⟩ := bld; exact hb.lt
    by_cases hlt : k < n
    · have hi0 : (0 : Int) ≤ (k : Int) := by omega
      have hlt2 : (k : Int) < (n : Int) := by omega
      obtain ⟨b1, o1, rfl, c1⟩ := (hz.kept bld.2) k hlt
      have HL := Lib.hid (putS_succ z k)
      have HN := Lib.hid (putS_length z k)
      have HZ := Lib.hid hz
      have HC := Lib.hid (b4_cells (z k))
      clear hz
      go_wp2_with fail
      refine (rev_any _ _ _ _ _ _ _ (new_block _ _ _ _ rfl)).mono ?_
      rintro e w2 ⟨rfl, hg2, m2⟩
      have m3 : Mod (fun _ => False) wr w2 := ((Mod.refl _ _).alloc _).new m2 (fun i e => Nat.le_of_eq e.symm)
      have bld2 := bld.mod m3
      clear m2 hmm
      go_wp2_with fail
      refine (write_any w _ _ _ bld2 (b4 (z k)).reverse wr.heap.size 4 _ rfl (by omega) ?hc (by decide) ?hl (by decide)).mono ?_
      case hc =>
        intro j u hj
        have hcs : Lib.byteCells ((b4 (z k)).reverse) = [.int .u8 (c8 (z k)), .int .u8 (c8 (z k / 256)), .int .u8 (c8 (z k / 65536)), .int .u8 (c8 (z k / 16777216))] := by
          have := HC.out
          simp only [Lib.byteCells, List.map_reverse] at this ⊢
          rw [this]
          try rfl
        rw [hcs] at hj
        match j, hj with
        | 0, hj => simp at hj; subst hj; exact blk_cell hg2 rfl
        | 1, hj => simp at hj; subst hj; exact blk_cell hg2 rfl
        | 2, hj => simp at hj; subst hj; exact blk_cell hg2 rfl
        | 3, hj => simp at hj; subst hj; exact blk_cell hg2 rfl
      case hl => have := HN.out; omega
      rintro e w4 ⟨⟨v4, rfl⟩, used⟩
      rw [← HL.out] at used
      clear bld bld2 hg2
      go_wp2_with fail
      go_roundw
      case rel => exact ⟨k + 1, by omega, by go_num, used.bld⟩
      case measure => simp [intOf]; omega
    · obtain rfl : k = n := by omega
      go_wp2_with fail
      refine (string_any w _ _ _ bld).mono ?_
      rintro e w4 ⟨rfl, m4⟩
      go_wp2_with fail
      go_ret
      exact ⟨rfl, m4⟩
theorem putsmall_any (a : Option Addr) (n cap : Nat) (z : Nat → Int) (w : World) (hn : n ≤ 10000) (hz : Ints w a n z) :
    Calls Try.prog 26 #[.slice a n cap] w fun e w' => e = .returned (.string ⟨(putS z n).toArray⟩) ∧ Mod (fun _ => False) w w' := by
  have HZ := Lib.hid hz
  clear hz
  go_enter Try.func26, Try.ntmps26
  go_wp2_with fail
  refine (put_small _ _ _ z _ hn HZ.out).mono ?_
  rintro e w4 ⟨rfl, m4⟩
  go_wp2_with fail
  go_ret
  exact ⟨rfl, m4⟩

end Go.Proofs.Ytpnpmploaaenlaa.Wd
namespace Go.Proofs.Ytpnpmploaaenlaa.Wd
open Go.RowKit
set_option linter.unusedSimpArgs false
set_option linter.unusedVariables false

theorem flat4_length (f : Nat → List UInt8) (hf : ∀ j, (f j).length = 4) (n : Nat) : ((List.range n).flatMap f).length = 4 * n := by
  induction n with
  | zero => rfl
  | succ n ih => rw [List.range_succ, List.flatMap_append, List.length_append, ih]; simp [hf]; omega
theorem flat4_get (f : Nat → List UInt8) (hf : ∀ j, (f j).length = 4) (n k i : Nat) (hk : k < n) (hi : i < 4) : ((List.range n).flatMap f)[4 * k + i]? = (f k)[i]? := by
  induction n with
  | zero => omega
  | succ n ih =>
    have hl := flat4_length f hf n
    rw [List.range_succ, List.flatMap_append]
    by_cases h : k < n
    · rw [List.getElem?_append_left (by rw [hl]; omega)]; exact ih h
    · obtain rfl : k = n := by omega
      rw [List.getElem?_append_right (by rw [hl]; omega), hl]
      simp
theorem flat4_byte (f : Nat → List UInt8) (hf : ∀ j, (f j).length = 4) (n k i : Nat) (hk : k < n) (hi : i < 4) : byteU ⟨((List.range n).flatMap f).toArray⟩ (4 * k + i) = (f k).getD i 0 := by
  unfold byteU bytes
  rw [List.getD_eq_getElem?_getD, List.getD_eq_getElem?_getD]
  show (((List.range n).flatMap f)[4 * k + i]?).getD 0 = _
  rw [flat4_get f hf n k i hk hi]
theorem flat4_bytes (s : ByteArray) (m : Nat) (hm : s.size = 4 * m) : (List.range m).flatMap (fun j => [byteU s (4 * j), byteU s (4 * j + 1), byteU s (4 * j + 2), byteU s (4 * j + 3)]) = bytes s := by
  have hbl : (bytes s).length = 4 * m := by unfold bytes; simpa using hm
  apply List.ext_getElem?
  intro p
  by_cases hp : p < 4 * m
  · have e : p = 4 * (p / 4) + p % 4 := by omega
    generalize hq : p / 4 = q at e
    generalize hr : p % 4 = r at e
    have hr4 : r < 4 := by omega
    subst e
    rw [flat4_get _ (fun _ => rfl) m q r (by omega) hr4]
    have hg : ∀ t, t < 4 → (bytes s)[4 * q + t]? = some (byteU s (4 * q + t)) := by
      intro t ht
      unfold byteU
      rw [List.getD_eq_getElem?_getD, List.getElem?_eq_getElem (by omega)]
      rfl
    rw [hg r hr4]
    match r, hr4 with
    | 0, _ => rfl
    | 1, _ => rfl
    | 2, _ => rfl
    | 3, _ => rfl
  · rw [List.getElem?_eq_none (by rw [flat4_length _ (fun _ => rfl)]; omega), List.getElem?_eq_none (by omega)]
theorem bytes_back (s : ByteArray) : (⟨(bytes s).toArray⟩ : ByteArray) = s := by
  unfold bytes; rfl
theorem u8_eq {a b : UInt8} (h : a.toNat = b.toNat) : a = b := UInt8.toNat_inj.mp h
theorem b4_be4 (x0 x1 x2 x3 : UInt8) : b4 ((be4 x0.toNat x1.toNat x2.toNat x3.toNat : Nat) : Int) = [x0, x1, x2, x3] := by
  have h0 := x0.toNat_lt; have h1 := x1.toNat_lt; have h2 := x2.toNat_lt; have h3 := x3.toNat_lt
  have hw : wordN ((be4 x0.toNat x1.toNat x2.toNat x3.toNat : Nat) : Int) = be4 x0.toNat x1.toNat x2.toNat x3.toNat := by unfold wordN be4; omega
  unfold b4
  rw [hw]
  congr 1
  · apply u8_eq; rw [UInt8.toNat_ofNat']; unfold be4; omega
  congr 1
  · apply u8_eq; rw [UInt8.toNat_ofNat']; unfold be4; omega
  congr 1
  · apply u8_eq; rw [UInt8.toNat_ofNat']; unfold be4; omega
  congr 1
  · apply u8_eq; rw [UInt8.toNat_ofNat']; unfold be4; omega
theorem put_words (s : ByteArray) (m : Nat) (hm : s.size = 4 * m) : (⟨(putL (fun j => (wordAt true s j : Int)) m).toArray⟩ : ByteArray) = s := by
  have : putL (fun j => (wordAt true s j : Int)) m = bytes s := by
    rw [← flat4_bytes s m hm]
    unfold putL
    congr 1
    funext j
    exact b4_be4 _ _ _ _
  rw [this, bytes_back]
theorem puts_words (s : ByteArray) (m : Nat) (hm : s.size = 4 * m) : (⟨(putS (fun j => (wordAt false s j : Int)) m).toArray⟩ : ByteArray) = s := by
  have : putS (fun j => (wordAt false s j : Int)) m = bytes s := by
    rw [← flat4_bytes s m hm]
    unfold putS
    congr 1
    funext j
    show (b4 ((be4 (byteU s (4 * j + 3)).toNat (byteU s (4 * j + 2)).toNat (byteU s (4 * j + 1)).toNat (byteU s (4 * j)).toNat : Nat) : Int)).reverse = _
    rw [b4_be4]
    rfl
  rw [this, bytes_back]
theorem turned_put (z : Nat → Int) (n : Nat) : rev4 ⟨(putL z n).toArray⟩ n = putS z n := by
  unfold rev4 putS
  have h : ∀ j ∈ List.range n, ([byteU ⟨(putL z n).toArray⟩ (4 * j + 3), byteU ⟨(putL z n).toArray⟩ (4 * j + 2), byteU ⟨(putL z n).toArray⟩ (4 * j + 1), byteU ⟨(putL z n).toArray⟩ (4 * j)] : List UInt8) = (b4 (z j)).reverse := by
    intro j hj
    have hj' : j < n := by simpa using hj
    unfold putL
    have e0 := flat4_byte (fun j => b4 (z j)) (fun _ => rfl) n j 0 hj' (by decide)
    rw [flat4_byte (fun j => b4 (z j)) (fun _ => rfl) n j 3 hj' (by decide), flat4_byte (fun j => b4 (z j)) (fun _ => rfl) n j 2 hj' (by decide), flat4_byte (fun j => b4 (z j)) (fun _ => rfl) n j 1 hj' (by decide)]
    rw [Nat.add_zero] at e0
    rw [e0]
    rfl
  rw [List.flatMap_def, List.flatMap_def, List.map_congr_left h]
theorem turned_word (s : ByteArray) (m k : Nat) (hk : k < m) : wordAt true ⟨(rev4 s m).toArray⟩ k = wordAt false s k := by
  have g : ∀ i, i < 4 → byteAt ⟨(rev4 s m).toArray⟩ (4 * k + i) = (([byteU s (4 * k + 3), byteU s (4 * k + 2), byteU s (4 * k + 1), byteU s (4 * k)] : List UInt8).getD i 0).toNat := by
    intro i hi
    rw [← byteU_at]
    unfold rev4
    rw [flat4_byte _ (fun _ => rfl) m k i hk hi]
  have g0 := g 0 (by decide)
  rw [Nat.add_zero] at g0
  unfold wordAt
  simp only [if_true, if_false, Bool.false_eq_true, g 1 (by decide), g 2 (by decide), g 3 (by decide), g0]
  rfl
theorem rev4_size (s : ByteArray) (m : Nat) : (⟨(rev4 s m).toArray⟩ : ByteArray).size = 4 * m := by
  show (rev4 s m).toArray.size = _
  simp [rev4_length]
theorem putL_size (z : Nat → Int) (m : Nat) : (⟨(putL z m).toArray⟩ : ByteArray).size = 4 * m := by
  show (putL z m).toArray.size = _
  simp [putL_length]
end Go.Proofs.Ytpnpmploaaenlaa.Wd
namespace Go.Proofs.Ytpnpmploaaenlaa.Wd
open Go.RowKit
set_option linter.unusedSimpArgs false
set_option linter.unusedVariables false

theorem rbig_ints (s : ByteArray) (w : World) (hs : s.size ≤ 100000) (m : Nat) (hm : s.size = 4 * m) :
    Calls Try.prog 71 #[.string s] w fun e w' => ∃ a c, e = .returned (.tuple #[.slice a m c, .int .i64 0]) ∧ Ints w' a m (fun j => (wordAt true s j : Int)) ∧ Mod (fun _ => False) w w' := by
  refine (rbig_ok s w hs m hm).mono ?_
  rintro e w' ⟨v, rfl, own, mm⟩
  obtain ⟨a, c, rfl⟩ := own_form own
  exact ⟨a, c, rfl, own_ints own, mm⟩
theorem rsmall_ints (s : ByteArray) (w : World) (hs : s.size ≤ 100000) (m : Nat) (hm : s.size = 4 * m) :
    Calls Try.prog 46 #[.string s] w fun e w' => ∃ a c, e = .returned (.tuple #[.slice a m c, .int .i64 0]) ∧ Ints w' a m (fun j => (wordAt false s j : Int)) ∧ Mod (fun _ => False) w w' := by
  have hr : (((s.size : Nat) : Int) % 4 != 0) = false := by rw [bne_eq_false_iff_eq]; omega
  have HM := Lib.hid hm
  clear hm
  go_enter Try.func46, Try.ntmps46
  go_wp2_with fail
  refine (turned_any s _ hs m HM.out).mono ?_
  rintro e w1 ⟨rfl, m1⟩
  go_wp2_with fail
  refine (rbig_ints _ _ (by rw [rev4_size]; have := HM.out; omega) m (rev4_size s m)).mono ?_
  rintro e w2 ⟨a, c, rfl, ints, m2⟩
  have HI := Lib.hid ints
  clear ints
  go_wp2_with fail
  go_ret2
  refine ⟨a, c, rfl, fun k hk => ?_, m1.tr m2⟩
  obtain ⟨b, off, e1, e2⟩ := HI.out k hk
  exact ⟨b, off, e1, by rw [e2]; simp only [turned_word s m k hk]⟩
theorem rsmall_bad (s : ByteArray) (w : World) (hs : s.size ≤ 100000) (hm : s.size % 4 ≠ 0) :
    Calls Try.prog 46 #[.string s] w fun e w' => e = .returned (.tuple #[.slice none 0 0, .int .i64 1]) ∧ w = w' := by
  have hr : (((s.size : Nat) : Int) % 4 != 0) = true := by rw [bne_iff_ne]; omega
  go_enter Try.func46, Try.ntmps46
  go_wp2_with fail
  go_ret2
  exact ⟨rfl, rfl⟩
theorem rputsmall_any (a : Option Addr) (n cap : Nat) (z : Nat → Int) (w : World) (hn : n ≤ 10000) (hz : Ints w a n z) :
    Calls Try.prog 31 #[.slice a n cap] w fun e w' => e = .returned (.string ⟨(putS z n).toArray⟩) ∧ Mod (fun _ => False) w w' := by
  have HZ := Lib.hid hz
  clear hz
  go_enter Try.func31, Try.ntmps31
  go_wp2_with fail
  refine (rputbig_any _ _ _ z _ hn HZ.out).mono ?_
  rintro e w1 ⟨rfl, m1⟩
  go_wp2_with fail
  refine (turned_any _ _ (by rw [putL_size]; omega) n (putL_size z n)).mono ?_
  rintro e w2 ⟨rfl, m2⟩
  rw [turned_put]
  go_wp2_with fail
  go_ret
  exact ⟨rfl, m1.tr m2⟩
theorem nil_ints (w : World) (z : Nat → Int) : Ints w none 0 z := fun k hk => by omega

end Go.Proofs.Ytpnpmploaaenlaa.Wd
