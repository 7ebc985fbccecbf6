/- What texts must be; the plain facts of there and back. -/
import Derived.Test.YtbmeejopfcpoaaaD5
namespace Go.Proofs.Ytbmeejopfcpoaaa
open Go.RowKit
set_option linter.unusedSimpArgs false
set_option linter.unusedVariables false

theorem byteU_mk (l : List UInt8) (j : Nat) : byteU ⟨l.toArray⟩ j = l.getD j 0 := rfl
theorem mk_size (l : List UInt8) : (⟨l.toArray⟩ : ByteArray).size = l.length := by show l.toArray.size = _; simp
theorem xor_back (a b : ByteArray) : (⟨(xorL ⟨(xorL a b a.size).toArray⟩ b a.size).toArray⟩ : ByteArray) = a := by
  have hl : (⟨(xorL ⟨(xorL a b a.size).toArray⟩ b a.size).toArray⟩ : ByteArray).size = a.size := by rw [mk_size, xorL_length]
  refine bytes_ext hl (fun j hj => ?_)
  rw [hl] at hj
  rw [byteU_mk]
  unfold xorL
  rw [List.getD_eq_getElem?_getD, List.getElem?_map, List.getElem?_range hj]
  simp only [Option.map_some, Option.getD_some]
  rw [byteU_mk, List.getD_eq_getElem?_getD, List.getElem?_map, List.getElem?_range hj]
  simp only [Option.map_some, Option.getD_some]
  rw [UInt8.xor_assoc, UInt8.xor_self, UInt8.xor_zero]
theorem hexL_get (s : ByteArray) (n : Nat) : ∀ k, k < n → (hexL s n)[2 * k]? = some (byteU digs (byteAt s k / 16)) ∧ (hexL s n)[2 * k + 1]? = some (byteU digs (byteAt s k % 16)) := by
  induction n with
  | zero => intro k hk; omega
  | succ n ih =>
    intro k hk
    have hl := hexL_length s n
    rw [hexL_succ]
    by_cases h : k < n
    · rw [List.getElem?_append_left (by omega), List.getElem?_append_left (by omega)]
      exact ih k h
    · obtain rfl : k = n := by omega
      rw [List.getElem?_append_right (by omega), List.getElem?_append_right (by omega), hl, Nat.sub_self, show 2 * k + 1 - 2 * k = 1 by omega]
      exact ⟨rfl, rfl⟩
theorem dig_digs : ∀ x : Fin 16, digN (byteAt digs x.1) = x.1 := by decide +kernel
theorem hex_dg (s : ByteArray) (k : Nat) (hk : k < s.size) : dg ⟨(hexL s s.size).toArray⟩ (2 * k) = byteAt s k / 16 ∧ dg ⟨(hexL s s.size).toArray⟩ (2 * k + 1) = byteAt s k % 16 := by
  have h := hexL_get s s.size k hk
  have hb := byteAt_lt s k
  constructor
  · unfold dg
    rw [show byteAt ⟨(hexL s s.size).toArray⟩ (2 * k) = byteAt digs (byteAt s k / 16) by
      rw [← byteU_at, byteU_mk, List.getD_eq_getElem?_getD, h.1, Option.getD_some, byteU_at]]
    exact dig_digs ⟨byteAt s k / 16, by omega⟩
  · unfold dg
    rw [show byteAt ⟨(hexL s s.size).toArray⟩ (2 * k + 1) = byteAt digs (byteAt s k % 16) by
      rw [← byteU_at, byteU_mk, List.getD_eq_getElem?_getD, h.2, Option.getD_some, byteU_at]]
    exact dig_digs ⟨byteAt s k % 16, by omega⟩
theorem hex_size (s : ByteArray) : (⟨(hexL s s.size).toArray⟩ : ByteArray).size = 2 * s.size := by rw [mk_size, hexL_length]
theorem hex_all (s : ByteArray) : AllDig ⟨(hexL s s.size).toArray⟩ (⟨(hexL s s.size).toArray⟩ : ByteArray).size := by
  rw [hex_size]
  intro i hi
  have h := hex_dg s (i / 2) (by omega)
  have hb := byteAt_lt s (i / 2)
  by_cases e : i % 2 = 0
  · rw [show i = 2 * (i / 2) by omega, h.1]; omega
  · rw [show i = 2 * (i / 2) + 1 by omega, h.2]; omega
theorem hex_back (s : ByteArray) : (⟨(unL ⟨(hexL s s.size).toArray⟩ s.size).toArray⟩ : ByteArray) = s := by
  have hl : (⟨(unL ⟨(hexL s s.size).toArray⟩ s.size).toArray⟩ : ByteArray).size = s.size := by rw [mk_size, unL_length]
  refine bytes_ext hl (fun j hj => ?_)
  rw [hl] at hj
  have h := hex_dg s j hj
  rw [byteU_mk]
  unfold unL
  rw [List.getD_eq_getElem?_getD, List.getElem?_map, List.getElem?_range hj]
  simp only [Option.map_some, Option.getD_some]
  rw [h.1, h.2, show 16 * (byteAt s j / 16) + byteAt s j % 16 = byteAt s j by omega, ← byteU_at, UInt8.ofNat_toNat]

def sAb : ByteArray := ⟨#[97, 98]⟩
def sOa : ByteArray := ⟨#[48, 97, 70, 102]⟩
def sTen : ByteArray := ⟨#[10, 255]⟩
theorem xor_ab (w : World) : Calls Try.prog 22 #[.string ⟨#[97, 98]⟩, .string ⟨#[97, 98]⟩] w fun e w' => e = .returned (.tuple #[.string ⟨#[0, 0]⟩, .int .i64 0]) ∧ Mod (fun _ => False) w w' := by
  refine (xor_ok sAb sAb w (by decide) rfl).mono ?_
  rintro e w' ⟨rfl, m⟩
  exact ⟨rfl, m⟩
theorem all_oa : AllDig sOa sOa.size := by
  have h : ∀ i : Fin 4, dg sOa i.1 < 16 := by decide +kernel
  intro i hi
  exact h ⟨i, hi⟩
theorem unhex_oa (w : World) : Calls Try.prog 26 #[.string ⟨#[48, 97, 70, 102]⟩] w fun e w' => e = .returned (.tuple #[.string ⟨#[10, 255]⟩, .int .i64 0]) ∧ Mod (fun _ => False) w w' := by
  refine (unhex_ok sOa w (by decide) 2 rfl).mono ?_
  rintro e w' ⟨⟨rfl, _⟩ | ⟨_, h⟩, m⟩
  · exact ⟨by rw [show unL sOa 2 = [10, 255] by decide +kernel], m⟩
  · exact (h all_oa).elim
theorem hex_ten (w : World) : Calls Try.prog 28 #[.string ⟨#[10, 255]⟩] w fun e w' => e = .returned (.string ⟨#[48, 97, 102, 102]⟩) ∧ Mod (fun _ => False) w w' := by
  refine (hex_any sTen w (by decide)).mono ?_
  rintro e w' ⟨rfl, m⟩
  exact ⟨by rw [show hexL sTen sTen.size = [48, 97, 102, 102] by decide +kernel], m⟩
theorem same_x (w : World) : Calls Try.prog 25 #[.string ⟨#[120]⟩, .string ⟨#[120]⟩] w fun e w' => e = .returned (.bool true) ∧ Mod (fun _ => False) w w' := by
  refine (same_any ⟨#[120]⟩ ⟨#[120]⟩ w (by decide)).mono ?_
  rintro e w' ⟨rfl, m⟩
  exact ⟨by rw [decide_eq_true rfl], m⟩
set_option maxRecDepth 100000 in
set_option maxHeartbeats 4000000 in
theorem texts_any (w : World) : Calls Try.prog 23 #[] w fun e w' => e = .returned (.bool true) ∧ Mod (fun _ => False) w w' := by
  go_enter Try.func23, Try.ntmps23
  go_wp2_with fail
  refine (xor_ab _).mono ?_
  rintro e w1 ⟨rfl, m1⟩
  go_wp2_with fail
  refine (unhex_oa _).mono ?_
  rintro e w2 ⟨rfl, m2⟩
  replace m2 := m1.tr m2
  go_wp2_with fail
  refine (hex_ten _).mono ?_
  rintro e w3 ⟨rfl, m3⟩
  replace m3 := m2.tr m3
  go_wp2_with fail
  refine (same_x _).mono ?_
  rintro e w4 ⟨rfl, m4⟩
  go_wp2_with fail
  go_ret
  exact ⟨rfl, m3.tr m4⟩
end Go.Proofs.Ytbmeejopfcpoaaa
