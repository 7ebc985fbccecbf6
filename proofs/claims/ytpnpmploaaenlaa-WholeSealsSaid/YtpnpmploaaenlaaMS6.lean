/- The sum of a text: plain words. -/
import Derived.Test.YtpnpmploaaenlaaMS3
import Derived.Test.YtpnpmploaaenlaaMS4
import Derived.Test.YtpnpmploaaenlaaMN2
namespace Go.Proofs.Ytpnpmploaaenlaa
open Go.RowKit
set_option linter.unusedSimpArgs false
set_option linter.unusedVariables false
abbrev wordB (s : ByteArray) (k : Nat) : Nat := Wd.wordAt true s k

theorem bytes_cut (b : ByteArray) (i j : Nat) : bytes (b.extract i j) = ((bytes b).drop i).take (j - i) := by
  unfold bytes
  simp [List.drop_take]
theorem ext_byte (b : ByteArray) (i j k : Nat) (h : i + k < j) : byteAt (b.extract i j) k = byteAt b (i + k) := by
  unfold byteAt
  rw [bytes_cut, List.getD_eq_getElem?_getD, List.getElem?_take, if_pos (by omega), List.getElem?_drop, List.getD_eq_getElem?_getD]
theorem wordB_ext (b : ByteArray) (i j k q : Nat) (hi : i = 4 * q) (h : i + (4 * k + 4) ≤ j) : wordB (b.extract i j) k = wordB b (q + k) := by
  subst hi
  show Wd.be4 (byteAt _ _) (byteAt _ _) (byteAt _ _) (byteAt _ _) = Wd.be4 (byteAt _ _) (byteAt _ _) (byteAt _ _) (byteAt _ _)
  rw [ext_byte _ _ _ _ (by omega), ext_byte _ _ _ _ (by omega), ext_byte _ _ _ _ (by omega), ext_byte _ _ _ _ (by omega), show 4 * q + 4 * k = 4 * (q + k) by omega, show 4 * q + (4 * k + 1) = 4 * (q + k) + 1 by omega, show 4 * q + (4 * k + 2) = 4 * (q + k) + 2 by omega, show 4 * q + (4 * k + 3) = 4 * (q + k) + 3 by omega]
theorem wordB_app (a b : ByteArray) (k : Nat) (h : 4 * k + 4 ≤ a.size) : wordB (a ++ b) k = wordB a k := by
  show Wd.be4 (byteAt _ _) (byteAt _ _) (byteAt _ _) (byteAt _ _) = Wd.be4 (byteAt _ _) (byteAt _ _) (byteAt _ _) (byteAt _ _)
  rw [byteAt_append_left _ _ _ (by omega), byteAt_append_left _ _ _ (by omega), byteAt_append_left _ _ _ (by omega), byteAt_append_left _ _ _ (by omega)]
theorem sched_congr (x y : Nat → Nat) (h : ∀ j, j < 16 → x j = y j) (k : Nat) : sched x k = sched y k := by
  induction k using Nat.strongRecOn with
  | _ k ih =>
    by_cases e : k < 16
    · rw [sched_low x k e, sched_low y k e, h k e]
    · rw [sched_high x k (by omega), sched_high y k (by omega), ih _ (by omega), ih _ (by omega), ih _ (by omega), ih _ (by omega)]
theorem stepN_congr (h x y : Nat → Nat) (e : ∀ j, j < 16 → x j = y j) : stepN h x = stepN h y := by
  have : sched x = sched y := funext (sched_congr x y e)
  funext j
  rw [stepN_eq, stepN_eq, this]
def hashN (t : ByteArray) : Nat → Nat → Nat
  | 0 => hN
  | k + 1 => stepN (hashN t k) (fun j => wordB t (16 * k + j))
theorem hashN_lt (t : ByteArray) (k j : Nat) : hashN t k j < 4294967296 := by
  cases k with
  | zero => exact hN_lt j
  | succ k => exact stepN_lt _ _ j
theorem hashN_succ (t b : ByteArray) (k : Nat) (h : ∀ j, j < 16 → wordB b j = wordB t (16 * k + j)) : stepN (hashN t k) (wordB b) = hashN t (k + 1) := by
  show _ = stepN (hashN t k) (fun j => wordB t (16 * k + j))
  exact stepN_congr _ _ _ h
theorem hashN_zero (t : ByteArray) : hashN t 0 = hN := rfl
theorem padL_len (n : Nat) : (padL n).length = 9 + (119 - n % 64) % 64 := by
  unfold padL
  rw [List.length_cons, List.length_append, List.length_replicate, putL_len]
  omega
def padded (s : ByteArray) : ByteArray := s ++ ⟨(padL s.size).toArray⟩
theorem padded_size (s : ByteArray) : (padded s).size = 64 * ((s.size + 72) / 64) := by
  have h : (⟨(padL s.size).toArray⟩ : ByteArray).size = (padL s.size).length := by show (padL s.size).toArray.size = _; simp
  unfold padded
  rw [ByteArray.size_append, h, padL_len]
  omega
def shaS (s : ByteArray) : ByteArray := ⟨(textL (hashN (padded s) ((s.size + 72) / 64))).toArray⟩
theorem shaS_size (s : ByteArray) : (shaS s).size = 32 := by
  show (textL _).toArray.size = 32
  unfold textL
  rw [List.size_toArray, putL_len]
theorem ext_ext (b : ByteArray) (i n : Nat) (hn : n = (b.extract i b.size).size) (k : Nat) : (b.extract i b.size).extract k n = b.extract (i + k) b.size := by
  subst hn
  apply ByteArray.ext
  simp
  congr 1
  omega
theorem rest_app (a b : ByteArray) (i n : Nat) (h : i ≤ a.size) (hn : n = a.size) : a.extract i n ++ b = (a ++ b).extract i (a ++ b).size := by
  subst hn
  apply ByteArray.ext
  simp only [ByteArray.data_append, ByteArray.data_extract, ByteArray.size_append]
  rw [Array.extract_append]
  have e1 : a.data.size = a.size := rfl
  have e2 : b.data.size = b.size := rfl
  rw [show i - a.data.size = 0 by omega, show a.size + b.size - a.data.size = b.data.size by omega, Array.extract_size]
  congr 1
  apply Array.ext_getElem?
  intro j
  rw [Array.getElem?_extract, Array.getElem?_extract]
  by_cases hj : j < a.size - i
  · rw [if_pos (by omega), if_pos (by omega)]
  · rw [if_neg (by omega), if_neg (by omega)]
theorem wpStill_load_row {P : Program} {ops : Array Oper} {w : World} {Q : Act → Prop} {rest : List Oper} {o : Oper} {a : Act} (hgd : o.guard = none) (ty : TypeId) (x : Operand) (ho : o.op = .load ty x)
    (g : Nat) (hx : a.eval x = .pointer (some ⟨g, 0, none⟩)) (t : TypeId) (cs : Array Value) (fr : Nat × Nat) (d : TypeDesc) (hg : w.heap[g]? = some (.cells cs t fr))
    (hu : P.underlying ty = some d) (hd : (match d with | .struct _ | .array _ _ => true | _ => false) = true) (hi : (P.info? ty).map (·.size) = some cs.size)
    (h : wpStill P ops w Q rest (a.put o.dst (.agg cs))) : wpStill P ops w Q (o :: rest) a := by
  refine wpStill_step (fun K hK => ?_)
  have hw : Region.wanted o (yielded ops a.tmps) = true := by simp [Region.wanted, hgd]
  rw [if_pos hw]
  unfold Oper.still execOp
  simp only [ho, hx, Instr.loadAt, Instr.sureAddr, Sem.run_bind, Sem.run_pure, Result.andThen_ok, run_loadVar_row w g t ty cs fr d hg hu hd hi]
  exact ⟨rfl, hK _ h⟩
end Go.Proofs.Ytpnpmploaaenlaa
