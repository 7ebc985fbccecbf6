/- One text turned into another, in place. -/
import Derived.Test.YtbmeejopfcpoaaaX1
namespace Go.Proofs.Ytbmeejopfcpoaaa
open Go.RowKit
set_option linter.unusedSimpArgs false
set_option linter.unusedVariables false

/-- Block g holds n bytes, the j-th f j, and none of them is frozen. -/
def Row (w : World) (g n : Nat) (f : Nat → UInt8) : Prop := ∃ cs fr, w.heap[g]? = some (.cells cs 5 fr) ∧ n ≤ fr.1 ∧ n ≤ cs.size ∧ ∀ j, j < n → cs[j]? = some (.int .u8 ((f j).toNat : Int))
theorem Row.cell {w : World} {g n : Nat} {f : Nat → UInt8} (h : Row w g n f) (j : Nat) (hj : j < n) : w.cell? ⟨g, j, none⟩ = some (.int .u8 ((f j).toNat : Int)) := by
  obtain ⟨cs, fr, hb, _, _, hc⟩ := h
  unfold World.cell?; simp only [hb]; simpa using hc j hj
theorem Row.free {w : World} {g n : Nat} {f : Nat → UInt8} (h : Row w g n f) (j : Nat) (hj : j < n) : w.frozen? ⟨g, j, none⟩ = false := by
  obtain ⟨cs, fr, hb, hf, _, hc⟩ := h
  unfold World.frozen?; simp only [hb]
  simp; omega
theorem Row.set {w : World} {g n : Nat} {f : Nat → UInt8} (h : Row w g n f) (k : Nat) (hk : k < n) (x : UInt8) (f' : Nat → UInt8) (h1 : f' k = x) (h2 : ∀ j, j < n → j ≠ k → f' j = f j) : Row (w.setCell ⟨g, k, none⟩ (.int .u8 (x.toNat : Int))) g n f' := by
  obtain ⟨cs, fr, hb, hf, hs, hc⟩ := h
  refine ⟨cs.setIfInBounds k (.int .u8 (x.toNat : Int)), fr, ?_, hf, by simpa using hs, fun j hj => ?_⟩
  · have hlt := lt_of_block hb
    have h' : w.heap[g] = .cells cs 5 fr := by simpa [Array.getElem?_eq_getElem hlt] using hb
    show (w.heap.modify g _)[g]? = _
    rw [Array.getElem?_eq_getElem (by simpa using hlt), Array.getElem_modify_self, h']
    rfl
  · by_cases e : j = k
    · subst e; rw [h1]; simp [show j < cs.size by omega]
    · rw [Array.getElem?_setIfInBounds_ne (fun e' => e e'.symm), hc j hj, h2 j hj e]
theorem Row.drew {w : World} {g n : Nat} {f : Nat → UInt8} (h : Row w g n f) : Row w.drew g n f := h
def xorF (a b : ByteArray) (k : Nat) (j : Nat) : UInt8 := if j < k then byteU a j ^^^ byteU b j else byteU a j
theorem conv_row (a : ByteArray) (w : World) : ∃ C W1, (convert 9 44 (.string a)).run Try.prog w = .ok (.slice (some ⟨w.heap.size, 0, none⟩) a.size C) W1 ∧ Mod (fun _ => False) w W1 ∧ w.heap.size < W1.heap.size ∧ Row W1 w.heap.size a.size (fun j => byteU a j) := by
  have h := Lib.run_convert_string_bytes (P := Try.prog) w 9 44 5 a Try.underlying9 Try.underlying44 Try.underlying5
  refine ⟨_, _, h, ⟨rfl, rfl, rfl, by rw [Lib.bytesWorld_size]; omega, fun j hj _ => Lib.bytesWorld_at_old w 5 _ j hj⟩, by rw [Lib.bytesWorld_size]; omega, _, _, Lib.bytesWorld_at_new w 5 a, ?_, ?_, ?_⟩
  · show a.size ≤ (Lib.bytesCells w 5 a).size
    simp [Lib.bytesCells]
  · simp [Lib.bytesCells]
  · intro j hj
    have := Lib.bytesWorld_cell w 5 a j hj
    unfold World.cell? at this
    simp only [Lib.bytesWorld_at_new] at this
    simpa [byteU, bytes] using this
theorem Row.str {w : World} {g : Nat} {l : List UInt8} (h : Row w g l.length (fun j => l.getD j 0)) (C : Nat) : (convert 44 9 (.slice (some ⟨g, 0, none⟩) l.length C)).run Try.prog w = .ok (.string ⟨l.toArray⟩) w := by
  refine run_convert_bytes_back w 44 9 5 ⟨g, 0, none⟩ C l Try.underlying44 Try.underlying5 Try.underlying9 ?_
  intro j hj
  have := h.cell j hj
  have e : ((⟨g, 0, none⟩ : Addr).add j) = ⟨g, j, none⟩ := by unfold Addr.add; split <;> simp_all
  rw [e, this]
  simp [List.getD_eq_getElem?_getD, hj]
set_option maxRecDepth 100000 in
set_option maxHeartbeats 1000000 in
theorem xor_ok (a b : ByteArray) (w : World) (ha : a.size ≤ 100000) (hab : a.size = b.size) :
    Calls Try.prog 22 #[.string a, .string b] w fun e w' => e = .returned (.tuple #[.string ⟨(xorL a b a.size).toArray⟩, .int .i64 0]) ∧ Mod (fun _ => False) w w' := by
  have hne : (((a.size : Nat) : Int) != ((b.size : Nat) : Int)) = false := by rw [bne_eq_false_iff_eq]; omega
  have HAB := Lib.hid hab
  clear hab
  obtain ⟨C, W1, hcv, m1, hsz, row1⟩ := conv_row a w
  have HROW := Lib.hid row1
  have HM1 := Lib.hid m1
  clear row1 m1
  go_enter Try.func22, Try.ntmps22
  go_wp2_with fail
  clear hcv
  go_loopw [17] (fun i wr => ∃ k : Nat, k ≤ a.size ∧ i = .int .i64 (k : Int) ∧ Row wr w.heap.size a.size (xorF a b k) ∧ Mod (fun _ => False) w wr) (fun i _ => a.size - (intOf i).toNat)
  case atStart => exact ⟨0, by omega, rfl, HROW.out, HM1.out⟩
  case round =>
    obtain ⟨k, hk, rfl, row, hm⟩ := hrel
    by_cases hlt : k < a.size
    · have hi0 : (0 : Int) ≤ (k : Int) := by omega
      have hlt2 : (k : Int) < ((a.size : Nat) : Int) := by omega
      have hlt3 : (k : Int) < ((b.size : Nat) : Int) := by have := HAB.out; omega
      have Hb := Lib.hid (show k < b.size by have := HAB.out; omega)
      have ec : wr.cell? ⟨w.heap.size, k, none⟩ = some (.int .u8 (byteAt a k : Int)) := by
        have := row.cell k hlt
        unfold xorF at this
        rw [if_neg (by omega)] at this
        exact this
      have ef := row.free k hlt
      obtain ⟨X, HX, HX2⟩ : ∃ X : UInt8, Hid (bits BinOp.xor IntKind.u8 (byteAt a k : Int) (byteAt b k : Int) = (X.toNat : Int)) ∧ Hid (X = byteU a k ^^^ byteU b k) := ⟨_, xor_byte a b k, rfl⟩
      have HR := Lib.hid (row.set k hlt X (xorF a b (k + 1)) (by unfold xorF; rw [if_pos (by omega), HX2.out]) (fun j hj hne => by unfold xorF; by_cases e : j < k; rw [if_pos e, if_pos (by omega)]; rw [if_neg e, if_neg (by omega)]))
      have HM := Lib.hid (hm.setCell (p := ⟨w.heap.size, k, none⟩) (fun hlt => absurd hlt (Nat.lt_irrefl _)) (.int .u8 (X.toNat : Int)))
      clear row hm
      go_wp2_with fail
      refine wp_region_held_drew (S := (fun _ => True)) (by kernel_rfl) trivial (fun hHeld => ?_)
      refine held_take 0 20 (v := ?_) rfl rfl (by kernel_rfl) (by kernel_rfl) (by kernel_rfl) (fun _ _ _ _ h => h) (by rfl) ?_ hHeld ?_
      rotate_left; · (intro w hSw; clear hSw; go_simp; first | done | with_reducible rfl)
      simp only [List.setIfInBounds_toArray, List.set_cons_zero, List.set_cons_succ]
      refine held_take 1 21 (v := ?_) rfl rfl (by kernel_rfl) (by kernel_rfl) (by kernel_rfl) (fun _ _ _ _ h => h) (by rfl) ?_ hHeld ?_
      rotate_left; · (intro w hSw; clear hSw; go_simp; first | done | with_reducible rfl)
      simp only [List.setIfInBounds_toArray, List.set_cons_zero, List.set_cons_succ]
      refine held_take 2 22 (v := ?_) rfl rfl (by kernel_rfl) (by kernel_rfl) (by kernel_rfl) (fun _ _ _ _ h => h) (by rfl) ?_ hHeld ?_
      rotate_left; · (intro w hSw; clear hSw; go_simp; first | done | with_reducible rfl)
      simp only [List.setIfInBounds_toArray, List.set_cons_zero, List.set_cons_succ]
      refine held_take 4 24 (v := ?_) rfl rfl (by kernel_rfl) (by kernel_rfl) (by kernel_rfl) (fun _ _ _ _ h => h) (by rfl) ?_ hHeld ?_
      rotate_left; · (intro w hSw; clear hSw; go_simp; first | done | with_reducible rfl)
      simp only [List.setIfInBounds_toArray, List.set_cons_zero, List.set_cons_succ]
      refine held_take 5 25 (v := ?_) rfl rfl (by kernel_rfl) (by kernel_rfl) (by kernel_rfl) (fun _ _ _ _ h => h) (by rfl) ?_ hHeld ?_
      rotate_left; · (intro w hSw; clear hSw; go_simp; first | done | with_reducible rfl)
      simp only [List.setIfInBounds_toArray, List.set_cons_zero, List.set_cons_succ]
      refine held_take 6 26 (v := .int .u8 (byteAt b k)) rfl rfl (by kernel_rfl) (by kernel_rfl) (by kernel_rfl) (fun _ _ _ _ h => h) (by rfl) ?_ hHeld ?_
      · (have hb := Hb.out; intro w hSw; clear hSw; go_simp; first | (rw [byteAt_get _ _ hb]; done) | (rw [dif_pos ⟨by omega, by omega⟩]; simp only [Result.andThen]; first | (rw [byteAt_get _ _ hb]; done) | (rw [byteAt_int _ _ k (by omega)]; done)))
      simp only [List.setIfInBounds_toArray, List.set_cons_zero, List.set_cons_succ]
      refine held_make 3 23 rfl rfl (by kernel_rfl) (by rfl) (v := .int .u8 (byteAt a k)) (w' := wr.drew) ?_ ?_ (fun hNew => ?_)
      · (go_simp; first | done | with_reducible rfl)
      · trivial
      clear hHeld; have hHeld := hNew; clear hNew
      simp only [List.setIfInBounds_toArray, List.set_cons_zero, List.set_cons_succ]
      refine held_take 7 27 (v := .int .u8 (X.toNat : Int)) rfl rfl (by kernel_rfl) (by kernel_rfl) (by kernel_rfl) (fun _ _ _ _ h => h) (by rfl) ?_ hHeld ?_
      · (intro w hSw; clear hSw; go_simp; first | exact HX.out | (rw [HX.out]; done))
      simp only [List.setIfInBounds_toArray, List.set_cons_zero, List.set_cons_succ]
      refine held_take 8 28 (v := ?_) rfl rfl (by kernel_rfl) (by kernel_rfl) (by kernel_rfl) (fun _ _ _ _ h => h) (by rfl) ?_ hHeld ?_
      rotate_left; · (intro w hSw; clear hSw; go_simp; first | done | with_reducible rfl)
      simp only [List.setIfInBounds_toArray, List.set_cons_zero, List.set_cons_succ]
      refine held_store 9 rfl rfl (by kernel_rfl) (by rfl) (w' := ?_) ?_ ?_ (fun hNew => ?_)
      rotate_left 1; · (go_simp; first | done | with_reducible rfl | (constructor <;> with_reducible rfl))
      · trivial
      clear hHeld; have hHeld := hNew; clear hNew
      refine wpAnyH_done (by kernel_rfl) ?_ _
      go_wp2_with fail
      go_roundw
      case rel => exact ⟨k + 1, by omega, by go_num, HR.out.drew, HM.out.drew⟩
      case measure => simp [intOf]; omega
    · obtain rfl : k = a.size := by omega
      have hge : ¬ (((a.size : Nat) : Int) < ((b.size : Nat) : Int)) := by have := HAB.out; omega
      have hstr := Row.str (w := wr) (g := w.heap.size) (l := xorL a b a.size) (by
        rw [xorL_length]
        obtain ⟨cs, fr, h1, h2, h3, h4⟩ := row
        refine ⟨cs, fr, h1, h2, h3, fun j hj => ?_⟩
        rw [h4 j hj]
        unfold xorF xorL
        simp [hj]) C
      rw [xorL_length] at hstr
      go_wp2_with fail
      go_ret2
      exact ⟨rfl, hm⟩
theorem xor_bad (a b : ByteArray) (w : World) (hab : a.size ≠ b.size) :
    Calls Try.prog 22 #[.string a, .string b] w fun e w' => e = .returned (.tuple #[.string ⟨#[]⟩, .int .i64 1]) ∧ w = w' := by
  have hne : (((a.size : Nat) : Int) != ((b.size : Nat) : Int)) = true := by rw [bne_iff_ne]; omega
  go_enter Try.func22, Try.ntmps22
  go_wp2_with fail
  go_ret2
  exact ⟨rfl, rfl⟩
end Go.Proofs.Ytbmeejopfcpoaaa
