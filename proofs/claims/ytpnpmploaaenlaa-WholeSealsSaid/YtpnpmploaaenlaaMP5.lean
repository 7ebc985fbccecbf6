/- The bytes of a number, and another one added: the walk. -/
import Derived.Test.YtpnpmploaaenlaaMP4
import Derived.Test.YtpnpmploaaenlaaMN2
import Derived.Lib.ConvBytes
import Derived.Lib.BufferRead
namespace Go.Proofs.Ytpnpmploaaenlaa
open Go.RowKit
set_option linter.unusedSimpArgs false
set_option linter.unusedVariables false

/-- Block g holds n bytes, the j-th f j, and none of them is frozen. -/
def Row (w : World) (g n : Nat) (f : Nat → UInt8) : Prop := ∃ cs T fr, w.heap[g]? = some (.cells cs T fr) ∧ (n ≤ fr.1 ∨ fr.2 = 0) ∧ n ≤ cs.size ∧ ∀ j, j < n → cs[j]? = some (.int .u8 ((f j).toNat : Int))
theorem Row.cell {w : World} {g n : Nat} {f : Nat → UInt8} (h : Row w g n f) (j : Nat) (hj : j < n) : w.cell? ⟨g, j, none⟩ = some (.int .u8 ((f j).toNat : Int)) := by
  obtain ⟨cs, T, fr, hb, _, _, hc⟩ := h
  unfold World.cell?; simp only [hb]; simpa using hc j hj
theorem Row.free {w : World} {g n : Nat} {f : Nat → UInt8} (h : Row w g n f) (j : Nat) (hj : j < n) : w.frozen? ⟨g, j, none⟩ = false := by
  obtain ⟨cs, T, fr, hb, hf, _, hc⟩ := h
  unfold World.frozen?; simp only [hb]
  simp; omega
theorem Row.lt {w : World} {g n : Nat} {f : Nat → UInt8} (h : Row w g n f) : g < w.heap.size := by
  obtain ⟨cs, T, fr, hb, _⟩ := h
  exact lt_of_block hb
theorem Row.set {w : World} {g n : Nat} {f : Nat → UInt8} (h : Row w g n f) (k : Nat) (hk : k < n) (x : UInt8) (f' : Nat → UInt8) (h1 : f' k = x) (h2 : ∀ j, j < n → j ≠ k → f' j = f j) : Row (w.setCell ⟨g, k, none⟩ (.int .u8 (x.toNat : Int))) g n f' := by
  obtain ⟨cs, T, fr, hb, hf, hs, hc⟩ := h
  refine ⟨cs.setIfInBounds k (.int .u8 (x.toNat : Int)), T, fr, ?_, hf, by simpa using hs, fun j hj => ?_⟩
  · have hlt := lt_of_block hb
    have h' : w.heap[g] = .cells cs T fr := by simpa [Array.getElem?_eq_getElem hlt] using hb
    show (w.heap.modify g _)[g]? = _
    rw [Array.getElem?_eq_getElem (by simpa using hlt), Array.getElem_modify_self, h']
    rfl
  · by_cases e : j = k
    · subst e; rw [h1]; simp [show j < cs.size by omega]
    · rw [Array.getElem?_setIfInBounds_ne (fun e' => e e'.symm), hc j hj, h2 j hj e]
theorem Row.set' {w : World} {g n : Nat} {f : Nat → UInt8} (h : Row w g n f) (k : Nat) (hk : k < n) (x : UInt8) (y : Int) (hy : y = (x.toNat : Int)) (f' : Nat → UInt8) (h1 : f' k = x) (h2 : ∀ j, j < n → j ≠ k → f' j = f j) : Row (w.setCell ⟨g, k, none⟩ (.int .u8 y)) g n f' := by
  subst hy; exact h.set k hk x f' h1 h2
theorem Row.drew {w : World} {g n : Nat} {f : Nat → UInt8} (h : Row w g n f) : Row w.drew g n f := h
theorem Row.kept {S : Nat → Prop} {w w' : World} {g n : Nat} {f : Nat → UInt8} (h : Row w g n f) (m : Mod S w w') (hs : ¬ S g) : Row w' g n f := by
  obtain ⟨cs, T, fr, hb, r⟩ := h
  exact ⟨cs, T, fr, m.blk hb hs, r⟩
theorem Row.eq {w : World} {g n : Nat} {f f' : Nat → UInt8} (h : Row w g n f) (e : ∀ j, j < n → f j = f' j) : Row w g n f' := by
  obtain ⟨cs, T, fr, hb, hf, hs, hc⟩ := h
  exact ⟨cs, T, fr, hb, hf, hs, fun j hj => by rw [hc j hj, e j hj]⟩
theorem conv_row (a : ByteArray) (w : World) : ∃ C W1, (convert 9 33 (.string a)).run Try.prog w = .ok (.slice (some ⟨w.heap.size, 0, none⟩) a.size C) W1 ∧ Mod (fun _ => False) w W1 ∧ w.heap.size < W1.heap.size ∧ Row W1 w.heap.size a.size (fun j => byteU a j) := by
  have h := Lib.run_convert_string_bytes (P := Try.prog) w 9 33 5 a Try.underlying9 Try.underlying33 Try.underlying5
  refine ⟨_, _, h, ⟨rfl, rfl, rfl, by rw [Lib.bytesWorld_size]; omega, fun j hj _ => Lib.bytesWorld_at_old w 5 _ j hj⟩, by rw [Lib.bytesWorld_size]; omega, _, _, _, Lib.bytesWorld_at_new w 5 a, .inl ?_, ?_, ?_⟩
  · show a.size ≤ (Lib.bytesCells w 5 a).size
    simp [Lib.bytesCells]
  · simp [Lib.bytesCells]
  · intro j hj
    have := Lib.bytesWorld_cell w 5 a j hj
    unfold World.cell? at this
    simp only [Lib.bytesWorld_at_new] at this
    simpa [byteU, bytes] using this
theorem Row.str {w : World} {g : Nat} {l : List UInt8} (h : Row w g l.length (fun j => l.getD j 0)) (C : Nat) : (convert 33 9 (.slice (some ⟨g, 0, none⟩) l.length C)).run Try.prog w = .ok (.string ⟨l.toArray⟩) w := by
  refine run_convert_bytes_back w 33 9 5 ⟨g, 0, none⟩ C l Try.underlying33 Try.underlying5 Try.underlying9 ?_
  intro j hj
  have := h.cell j hj
  have e : ((⟨g, 0, none⟩ : Addr).add j) = ⟨g, j, none⟩ := by unfold Addr.add; split <;> simp_all
  rw [e, this]
  simp [List.getD_eq_getElem?_getD, hj]
/-- What bytes adds at digit i. -/
def zd (f : Nat → Nat) (s : ByteArray) (i : Nat) : Nat := dgt (val f) i + byteAt s i
def outF (f : Nat → Nat) (s : ByteArray) (k : Nat) (j : Nat) : UInt8 := if j < k then UInt8.ofNat (dgt (le (zd f s) 16) j) else 0
set_option maxRecDepth 100000 in
set_option maxHeartbeats 2000000 in
theorem bytes_any (f : Nat → Nat) (hf : ∀ j, j < 5 → f j < 67108864) (s : ByteArray) (hs : s.size = 16) (w : World) :
    Calls Try.prog 44 #[.agg (fiveV f), .string s] w fun e w' => e = .returned (.string (leS (val f + leN s 16) 16)) ∧ Mod (fun _ => False) w w' := by
  have HB := Lib.hid hf
  have HS := Lib.hid hs
  clear hf hs
  go_enter Try.func44, Try.ntmps44
  go_wp2_with fail
  go_loopw [6, 10] (fun c i wr => ∃ k : Nat, k ≤ 16 ∧ i = .int .i64 (k : Int) ∧ c = .int .u64 ((car (zd f s) k : Nat) : Int) ∧ Num wr w.heap.size f ∧ Row wr (w.heap.size + 1) 16 (outF f s k) ∧ Mod (fun _ => False) w wr) (fun _ i _ => 16 - (intOf i).toNat)
  case atStart =>
    refine ⟨0, by omega, rfl, rfl, (Num.new w f _ rfl).alloc _, ?_, ((Mod.refl _ _).alloc _).alloc _⟩
    refine ⟨_, 90, (0, 0), new_block _ _ _ _ (by simp), .inr rfl, Nat.le_refl _, fun j hj => ?_⟩
    have hc : j = 0 ∨ j = 1 ∨ j = 2 ∨ j = 3 ∨ j = 4 ∨ j = 5 ∨ j = 6 ∨ j = 7 ∨ j = 8 ∨ j = 9 ∨ j = 10 ∨ j = 11 ∨ j = 12 ∨ j = 13 ∨ j = 14 ∨ j = 15 := by omega
    rcases hc with rfl | rfl | rfl | rfl | rfl | rfl | rfl | rfl | rfl | rfl | rfl | rfl | rfl | rfl | rfl | rfl <;> rfl
  case round =>
    obtain ⟨k, hk, rfl, rfl, n0, row, hm⟩ := hrel
    by_cases hlt : k < 16
    · have hk0 : (0 : Int) ≤ (k : Int) := by omega
      have hk2 : (k : Int) < 16 := by omega
      have hks : k < s.size := by have := HS.out; omega
      have hks' : (k : Int) < ((s.size : Nat) : Int) := by omega
      obtain ⟨q, hq⟩ : ∃ q, q = 8 * k / 26 := ⟨_, rfl⟩
      obtain ⟨r, hr⟩ : ∃ r, r = 8 * k % 26 := ⟨_, rfl⟩
      have hqi : 8 * (k : Int) / 26 = (q : Int) := by omega
      have hri : 8 * (k : Int) % 26 = (r : Int) := by omega
      have hq0 : (0 : Int) ≤ (q : Int) := by omega
      have hq5 : (q : Int) < 5 := by omega
      have hr0 : (0 : Int) ≤ (r : Int) := by omega
      have hr5 : (r : Int) < 26 := by omega
      have hX := n0.cell q (by omega)
      have hXb := HB.out q (by omega)
      have hget : s[k].toNat = byteAt s k := byteAt_get s k hks
      have hHb := byteAt_lt s k
      have hRF := row.free k hlt
      have hRC := row.cell k hlt
      have HQ := Lib.hid hq
      have HR := Lib.hid hr
      clear hq hr
      by_cases hq4 : q + 1 < 5
      · have hq4' : (q : Int) + 1 < 5 := by omega
        have hY := n0.cell (q + 1) hq4
        obtain ⟨hlow, hV52, hVb⟩ := limb_mid f HB.out k q r (26 - r) hlt HQ.out HR.out rfl hq4
        have hor := or_low (f q / 2 ^ r) (f (q + 1)) (26 - r) hlow (by omega)
        have hYb := HB.out (q + 1) hq4
        generalize f q = X at *
        generalize f (q + 1) = Y at *
        have hshr : (X : Int) / 2 ^ r = ((X / 2 ^ r : Nat) : Int) := by simp
        generalize X / 2 ^ r = XR at *
        have hshl0 : (Y : Int) * 2 ^ (26 - r) = ((Y * 2 ^ (26 - r) : Nat) : Int) := by simp
        generalize Y * 2 ^ (26 - r) = S at *
        have hshl : IntKind.u64.wrap ((Y : Int) * 2 ^ (26 - r)) = (S : Int) := by rw [hshl0]; exact u64_in' _ (by omega)
        generalize hVV : XR + S = V at *
        have hand : bits BinOp.and IntKind.u64 (V : Int) 255 = ((V % 256 : Nat) : Int) := by
          rw [show (255 : Int) = ((255 : Nat) : Int) from rfl, u64_and_nat _ _ (by omega) (by decide), show (255 : Nat) = 2 ^ 8 - 1 from rfl, Nat.and_two_pow_sub_one_eq_mod]
        rw [hVb] at hand
        clear hlow hshl0 hVV hVb
        have hcl := car_lt (zd f s) 2 (fun i => by have := dgt_lt (val f) i; have := byteAt_lt s i; unfold zd; omega) k
        have HCn : Hid ((car (zd f s) k + zd f s k) / 256 = car (zd f s) (k + 1)) := rfl
        have HD : Hid ((car (zd f s) k + zd f s k) % 256 = dgt (le (zd f s) 16) k) := car_dgt (zd f s) 16 k hlt
        have hz : zd f s k = dgt (val f) k + byteAt s k := rfl
        rw [hz] at HCn HD
        clear hz
        have HUP : Hid (∀ x : UInt8, x = UInt8.ofNat (dgt (le (zd f s) 16) k) → ∀ j, j < 16 → (if j = k then x else outF f s k j) = outF f s (k + 1) j) := by
          show ∀ x, _
          intro x hx j _
          unfold outF
          by_cases e : j = k
          · subst e; rw [if_pos rfl, if_pos (by omega), hx]
          · rw [if_neg e]
            by_cases e2 : j < k
            · rw [if_pos e2, if_pos (by omega)]
            · rw [if_neg e2, if_neg (by omega)]
        generalize car (zd f s) k = C at *
        generalize hbk : byteAt s k = B at *
        have Hbk := Lib.hid hbk
        clear hbk
        have hDl := dgt_lt (val f) k
        generalize dgt (val f) k = A at *
        have HNN := Lib.hid n0
        have HMM := Lib.hid hm
        have HRW := Lib.hid row
        clear n0 hm row
        have HW : Hid (Num (wr.setCell ⟨w.heap.size + 1, k, none⟩ (.int .u8 (((C : Int) + ((A : Int) + (B : Int))) % 256))) w.heap.size f ∧ Row (wr.setCell ⟨w.heap.size + 1, k, none⟩ (.int .u8 (((C : Int) + ((A : Int) + (B : Int))) % 256))) (w.heap.size + 1) 16 (outF f s (k + 1)) ∧ Mod (fun _ => False) w (wr.setCell ⟨w.heap.size + 1, k, none⟩ (.int .u8 (((C : Int) + ((A : Int) + (B : Int))) % 256)))) := by
          refine ⟨HNN.out.other (by simp) _, ?_, HMM.out.setCell (fun hh => absurd hh (by simp)) _⟩
          refine (HRW.out.set' k hlt (UInt8.ofNat ((C + (A + B)) % 256)) _ ?_ (fun j => if j = k then UInt8.ofNat ((C + (A + B)) % 256) else outF f s k j) (if_pos rfl) (fun j _ hne => if_neg hne)).eq (HUP.out _ (by rw [HD.out]))
          rw [UInt8.toNat_ofNat']; omega
        have HC2 : Hid ((.int .u64 (((C : Int) + ((A : Int) + (B : Int))) / 256) : Value) = .int .u64 ((car (zd f s) (k + 1) : Nat) : Int)) := by
          show _ = _
          rw [← HCn.out, show (((C + (A + B)) / 256 : Nat) : Int) = ((C : Int) + ((A : Int) + (B : Int))) / 256 by omega]
        go_wp2_with fail
        go_roundw
        case rel => exact ⟨k + 1, by omega, by go_num, HC2.out, HW.out⟩
        case measure => simp [intOf]; omega
      · have hq4' : ¬ (q : Int) + 1 < 5 := by omega
        obtain rfl : q = 4 := by omega
        have hVb := limb_top f HB.out k r hlt HQ.out HR.out
        generalize f 4 = X at *
        have hshr : (X : Int) / 2 ^ r = ((X / 2 ^ r : Nat) : Int) := by simp
        have hle := Nat.div_le_self X (2 ^ r)
        generalize X / 2 ^ r = V at *
        have hand : bits BinOp.and IntKind.u64 (V : Int) 255 = ((V % 256 : Nat) : Int) := by
          rw [show (255 : Int) = ((255 : Nat) : Int) from rfl, u64_and_nat _ _ (by omega) (by decide), show (255 : Nat) = 2 ^ 8 - 1 from rfl, Nat.and_two_pow_sub_one_eq_mod]
        rw [hVb] at hand
        clear hVb
        have hcl := car_lt (zd f s) 2 (fun i => by have := dgt_lt (val f) i; have := byteAt_lt s i; unfold zd; omega) k
        have HCn : Hid ((car (zd f s) k + zd f s k) / 256 = car (zd f s) (k + 1)) := rfl
        have HD : Hid ((car (zd f s) k + zd f s k) % 256 = dgt (le (zd f s) 16) k) := car_dgt (zd f s) 16 k hlt
        have hz : zd f s k = dgt (val f) k + byteAt s k := rfl
        rw [hz] at HCn HD
        clear hz
        have HUP : Hid (∀ x : UInt8, x = UInt8.ofNat (dgt (le (zd f s) 16) k) → ∀ j, j < 16 → (if j = k then x else outF f s k j) = outF f s (k + 1) j) := by
          show ∀ x, _
          intro x hx j _
          unfold outF
          by_cases e : j = k
          · subst e; rw [if_pos rfl, if_pos (by omega), hx]
          · rw [if_neg e]
            by_cases e2 : j < k
            · rw [if_pos e2, if_pos (by omega)]
            · rw [if_neg e2, if_neg (by omega)]
        generalize car (zd f s) k = C at *
        generalize hbk : byteAt s k = B at *
        have Hbk := Lib.hid hbk
        clear hbk
        have hDl := dgt_lt (val f) k
        generalize dgt (val f) k = A at *
        have HNN := Lib.hid n0
        have HMM := Lib.hid hm
        have HRW := Lib.hid row
        clear n0 hm row
        have HW : Hid (Num (wr.setCell ⟨w.heap.size + 1, k, none⟩ (.int .u8 (((C : Int) + ((A : Int) + (B : Int))) % 256))) w.heap.size f ∧ Row (wr.setCell ⟨w.heap.size + 1, k, none⟩ (.int .u8 (((C : Int) + ((A : Int) + (B : Int))) % 256))) (w.heap.size + 1) 16 (outF f s (k + 1)) ∧ Mod (fun _ => False) w (wr.setCell ⟨w.heap.size + 1, k, none⟩ (.int .u8 (((C : Int) + ((A : Int) + (B : Int))) % 256)))) := by
          refine ⟨HNN.out.other (by simp) _, ?_, HMM.out.setCell (fun hh => absurd hh (by simp)) _⟩
          refine (HRW.out.set' k hlt (UInt8.ofNat ((C + (A + B)) % 256)) _ ?_ (fun j => if j = k then UInt8.ofNat ((C + (A + B)) % 256) else outF f s k j) (if_pos rfl) (fun j _ hne => if_neg hne)).eq (HUP.out _ (by rw [HD.out]))
          rw [UInt8.toNat_ofNat']; omega
        have HC2 : Hid ((.int .u64 (((C : Int) + ((A : Int) + (B : Int))) / 256) : Value) = .int .u64 ((car (zd f s) (k + 1) : Nat) : Int)) := by
          show _ = _
          rw [← HCn.out, show (((C + (A + B)) / 256 : Nat) : Int) = ((C : Int) + ((A : Int) + (B : Int))) / 256 by omega]
        go_wp2_with fail
        go_roundw
        case rel => exact ⟨k + 1, by omega, by go_num, HC2.out, HW.out⟩
        case measure => simp [intOf]; omega
    · obtain rfl : k = 16 := by omega
      have hl : ((List.range 16).map fun k => UInt8.ofNat (dgt (val f + leN s 16) k)).length = 16 := by simp
      have hadd : le (zd f s) 16 % 256 ^ 16 = (val f + leN s 16) % 256 ^ 16 := by
        have e : le (zd f s) 16 = le (dgt (val f)) 16 + le (byteAt s) 16 := le_add _ _ 16
        rw [e, le_dgt, leN_le]
        omega
      have hst : (convert 33 9 (.slice (some ⟨w.heap.size + 1, 0, none⟩) 16 16)).run Try.prog wr = .ok (.string (leS (val f + leN s 16) 16)) wr := by
        have hrow : Row wr (w.heap.size + 1) ((List.range 16).map fun k => UInt8.ofNat (dgt (val f + leN s 16) k)).length (fun j => ((List.range 16).map fun k => UInt8.ofNat (dgt (val f + leN s 16) k)).getD j 0) := by
          rw [hl]
          refine row.eq (fun j hj => ?_)
          unfold outF
          rw [if_pos hj, List.getD_eq_getElem?_getD, List.getElem?_map, List.getElem?_range hj]
          simp only [Option.map_some, Option.getD_some]
          congr 1
          rw [← leS_at (le (zd f s) 16) 16 j hj, ← leS_at (val f + leN s 16) 16 j hj, leS_congr hadd]
        have := hrow.str 16
        rw [hl] at this
        exact this
      have HM := Lib.hid hm
      clear n0 row hm hadd
      go_wp2_with fail
      go_ret
      exact ⟨rfl, HM.out⟩
end Go.Proofs.Ytpnpmploaaenlaa
