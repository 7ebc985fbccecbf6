/- Regions that draw their order, where some operations wait for the first write and others may float past it. -/
import Derived.Test.YtpnpmploaaenlaaMBase
import Derived.StillTail
namespace Go.Proofs.Ytpnpmploaaenlaa
open Go.RowKit
set_option linter.unusedSimpArgs false
set_option linter.unusedVariables false
section
variable {P : Program} {md : Region.Mode} {ops : Array Oper} {Q : Exit → Act → World → Prop} {F : World → Prop} {z : Nat}
/-- Whatever order is picked from here on; F holds until operation z has come up. -/
def wpAnyK (P : Program) (md : Region.Mode) (ops : Array Oper) (Q : Exit → Act → World → Prop) (F : World → Prop) (z : Nat) : Nat → Array Bool → Act → World → Prop
  | 0, listed, a, w => Region.ready md ops listed = [] ∧ Q .normal a w
  | f + 1, listed, a, w =>
    (Region.ready md ops listed = [] → Q .normal a w) ∧
    ∀ j ∈ Region.ready md ops listed, wpOp P ops Q j (fun a' w' => ((listed.setIfInBounds j true).getD z true = false → F w') ∧ wpAnyK P md ops Q F z f (listed.setIfInBounds j true) a' w') a w
theorem wpAny_of_K : ∀ (f : Nat) (listed : Array Bool) (a : Act) (w : World), wpAnyK P md ops Q F z f listed a w → wpAny P md ops Q f listed a w
  | 0, _, _, _, h => h
  | f + 1, _, _, _, h => ⟨h.1, fun j hj => wpOp_mono (fun a' w' h' => wpAny_of_K f _ a' w' h'.2) (h.2 j hj)⟩
theorem getD_set_same (listed : Array Bool) : (listed.setIfInBounds z true).getD z true = true := by
  by_cases h : z < listed.size
  · simp [h]
  · simp [Array.getElem?_eq_none (Nat.le_of_not_lt h)]
theorem K_first {i : Nat} {oi : Oper} {v : Value} (G : World → Prop) (hi : ops[i]? = some oi) (hsel : ∀ (j : Nat) (o : Oper) cs b, ops[j]? = some o → o.op ≠ .select cs b)
    (hQ : ∀ c a w, Q (.panic c) (a.put oi.dst v) w → Q (.panic c) a w) (hiz : i ≠ z)
    (hG : (∀ w, G w) ∨ ((∀ w, F w → G w) ∧ ∃ oz, ops[z]? = some oz ∧ ∃ e ∈ oz.after, Region.binds md e = true ∧ e.on = i)) :
    ∀ (f : Nat) (listed : Array Bool) (a : Act) (w : World), ((∀ w, G w) ∨ listed.getD z true = false) →
      (∀ j oj, ops[j]? = some oj → j ≠ i → listed.getD j true = false → (∀ e ∈ oj.after, Region.binds md e = true → e.on ≠ i) → oi.apart ops oj = true) →
      i ∈ Region.ready md ops listed → YieldsIf P ops G oi v a → (listed.getD z true = false → F w) → G w →
      wpAnyK P md ops Q F z f (listed.setIfInBounds i true) (a.put oi.dst v) w → wpAnyK P md ops Q F z (f + 1) listed a w := by
  intro f
  induction f with
  | zero =>
    intro listed a w hz hfree hr hy hF hGw H
    refine ⟨fun h => (by rw [h] at hr; cases hr), fun j hj => ?_⟩
    by_cases hji : j = i
    · subst hji
      exact hy.wpOp hi hGw ⟨fun h => hF (by rwa [getD_set_ne true hiz] at h), H⟩
    · have := ready_mono hj hji
      rw [H.1] at this
      cases this
  | succ f ih =>
    intro listed a w hz hfree hr hy hF hGw H
    refine ⟨fun h => (by rw [h] at hr; cases hr), fun j hj => ?_⟩
    by_cases hji : j = i
    · subst hji
      exact hy.wpOp hi hGw ⟨fun h => hF (by rwa [getD_set_ne true hiz] at h), H⟩
    · have h1 := H.2 j (ready_mono hj hji)
      obtain ⟨hjun, oj, hoj, hall⟩ := mem_ready.1 hj
      have hun := (mem_ready.1 hr).1
      have hnot : ∀ e ∈ oj.after, Region.binds md e = true → e.on ≠ i := fun e he hb heq => by
        have h1 := hall e he hb
        rw [heq, getD_both hun] at h1
        cases h1
      have h2 := wpOp_putIf hoj (hfree j oj hoj hji hjun hnot) (fun cs b => hsel i oi cs b hi) (fun cs b => hsel j oj cs b hoj) hQ hy h1
      have hfree' : ∀ k ok, ops[k]? = some ok → k ≠ i → (listed.setIfInBounds j true).getD k true = false →
          (∀ e ∈ ok.after, Region.binds md e = true → e.on ≠ i) → oi.apart ops ok = true := fun k ok hk hki hu hno => by
        refine hfree k ok hk hki ?_ hno
        by_cases hjk : j = k
        · subst hjk; exact hjun
        · rwa [getD_set_ne true hjk] at hu
      have hzj : (∀ w, G w) ∨ (j ≠ z ∧ listed.getD z true = false ∧ ∀ w, F w → G w) := by
        rcases hG with hG | ⟨hFG, oz, hoz, e, he, hb, hon⟩
        · exact .inl hG
        · rcases hz with hz | hz
          · exact .inl hz
          · refine .inr ⟨fun hjz => ?_, hz, hFG⟩
            subst hjz
            obtain rfl : oj = oz := Option.some.inj (hoj.symm.trans hoz)
            exact hnot e he hb hon
      refine wpOp_mono (fun a' w' h3 => ?_) h2
      have hc : (listed.setIfInBounds j true).getD z true = false → F w' := fun h => h3.2.1 (by rw [Array.setIfInBounds_comm _ _ (Ne.symm hji), getD_set_ne true hiz]; exact h)
      refine ⟨hc, ih (listed.setIfInBounds j true) a' w' ?_ hfree' (ready_mono hr (Ne.symm hji)) h3.1 hc ?_ ?_⟩
      · rcases hzj with h | ⟨hjz, hz', _⟩
        · exact .inl h
        · exact .inr (by rw [getD_set_ne true hjz]; exact hz')
      · rcases hzj with h | ⟨hjz, hz', hFG⟩
        · exact h w'
        · exact hFG w' (hc (by rw [getD_set_ne true hjz]; exact hz'))
      · rw [Array.setIfInBounds_comm _ _ hji]
        exact h3.2.2
/-- A read that z waits for. -/
theorem K_take (i : Nat) (d : Nat) {v : Value} {oi oz : Oper} {f : Nat} {listed : Array Bool} {a : Act} {w : World} (hi : ops[i]? = some oi) (hd : oi.dst = some d)
    (hs : Region.noSelect ops = true) (hf : Region.free md ops listed i = true) (hr : (Region.ready md ops listed).contains i = true)
    (hiz : i ≠ z) (hz : listed.getD z true = false) (hoz : ops[z]? = some oz) (hw : oz.after.any (fun e => Region.binds md e && e.on == i) = true)
    (hQ : ∀ c (a : Act) v w, Q (.panic c) (a.put (some d) v) w → Q (.panic c) a w) (hwant : Region.wanted oi (yielded ops a.tmps) = true)
    (hv : ∀ w, F w → (execOp a.eval oi).run P w = .ok (.value v) w) (hF : F w)
    (h : wpAnyK P md ops Q F z f (listed.setIfInBounds i true) { tmps := a.tmps.setIfInBounds d v, defers := a.defers } w) : wpAnyK P md ops Q F z (f + 1) listed a w := by
  rw [← Array.any_toList, List.any_eq_true] at hw
  obtain ⟨e, he, hb⟩ := hw
  have he := Array.mem_def.2 he
  simp only [Bool.and_eq_true, beq_iff_eq] at hb
  exact K_first F hi (Region.noSelect_spec hs) (fun c a w => by rw [hd]; exact hQ c a v w) hiz (.inr ⟨fun _ h => h, oz, hoz, e, he, hb.1, hb.2⟩) f listed a w (.inr hz) (Region.free_spec hi hf) (by simpa using hr) (.inl ⟨hwant, hv⟩) (fun _ => hF) hF (by rw [hd]; exact h)
/-- What yields in every world. -/
theorem K_float (i : Nat) (d : Nat) {v : Value} {oi : Oper} {f : Nat} {listed : Array Bool} {a : Act} {w : World} (hi : ops[i]? = some oi) (hd : oi.dst = some d)
    (hs : Region.noSelect ops = true) (hf : Region.free md ops listed i = true) (hr : (Region.ready md ops listed).contains i = true)
    (hiz : i ≠ z)
    (hQ : ∀ c (a : Act) v w, Q (.panic c) (a.put (some d) v) w → Q (.panic c) a w) (hwant : Region.wanted oi (yielded ops a.tmps) = true)
    (hv : ∀ w, (execOp a.eval oi).run P w = .ok (.value v) w) (hF : F w)
    (h : wpAnyK P md ops Q F z f (listed.setIfInBounds i true) { tmps := a.tmps.setIfInBounds d v, defers := a.defers } w) : wpAnyK P md ops Q F z (f + 1) listed a w :=
  K_first (fun _ => True) hi (Region.noSelect_spec hs) (fun c a w => by rw [hd]; exact hQ c a v w) hiz (.inl fun _ => trivial) f listed a w (.inl fun _ => trivial) (Region.free_spec hi hf) (by simpa using hr) (.inl ⟨hwant, fun w _ => hv w⟩) (fun _ => hF) trivial (by rw [hd]; exact h)
/-- A call that is the one operation that may come up, and leaves F. -/
theorem K_call (i : Nat) (d : Nat) {o : Oper} {fuel : Nat} {listed : Array Bool} {a : Act} {w : World} (ho : ops[i]? = some o) (hd : o.dst = some d)
    (hr : Region.ready md ops listed = [i]) (hwant : Region.wanted o (yielded ops a.tmps) = true)
    {f : FuncId} {args : Array Value} (he : (execOp a.eval o).run P w = .ok (.enter f args) w)
    (hc : Calls P f args w fun e w' => ∃ v, e = .returned v ∧ F w' ∧ (F w' → wpAnyK P md ops Q F z fuel (listed.setIfInBounds i true) { tmps := a.tmps.setIfInBounds d v, defers := a.defers } w')) :
    wpAnyK P md ops Q F z (fuel + 1) listed a w := by
  refine ⟨fun h0 => (by rw [hr] at h0; cases h0), fun j hj => ?_⟩
  rw [hr] at hj
  obtain rfl : j = i := by simpa using hj
  unfold wpOp
  simp only [ho]
  rw [if_pos hwant]
  refine .inl ?_
  unfold Oper.wp
  rw [he]
  simp only [Oper.upon]
  refine hc.mono fun e w' hh => ?_
  obtain ⟨v, rfl, hF, hk⟩ := hh
  refine ⟨fun _ => hF, ?_⟩
  rw [hd]
  exact hk hF
theorem K_seq : ∀ (l : List Oper) (k : Nat) (listed : Array Bool) (a : Act) (w : World), (∀ j, l[j]? = ops[k + j]?) →
    Region.seqB md ops l.length k listed = true → (k = z ∨ listed.getD z true = true) → wpList P ops Q l a w → wpAnyK P md ops Q F z l.length listed a w
  | [], _, _, _, _, _, hB, _, h => ⟨by simpa [Region.seqB] using hB, h⟩
  | o :: l, k, listed, a, w, hl, hB, hz, h => by
    have h0 : ops[k]? = some o := by simpa using (hl 0).symm
    simp only [List.length_cons, Region.seqB, Bool.and_eq_true, decide_eq_true_eq] at hB
    refine ⟨fun h1 => (by rw [hB.1] at h1; cases h1), fun j hj => ?_⟩
    rw [hB.1] at hj
    obtain rfl : j = k := by simpa using hj
    have hzz : (listed.setIfInBounds j true).getD z true = true := by
      by_cases hjz : j = z
      · subst hjz; exact getD_set_same listed
      · rcases hz with hz | hz
        · exact absurd hz hjz
        · rw [getD_set_ne true hjz]; exact hz
    have hw : wpOp P ops Q j (wpList P ops Q l) a w := by unfold wpOp; simp only [h0]; exact h
    exact wpOp_mono (fun a' w' h' => ⟨fun hh => (by rw [hzz] at hh; cases hh), K_seq l (j + 1) _ a' w' (fun i => by have := hl (i + 1); simpa [Nat.add_assoc, Nat.add_comm 1 i] using this) hB.2 (.inr hzz) h'⟩) hw
theorem wp_region_K {id : Nat} {a : Act} {w : World} (F : World → World → Prop) (z : Nat) (hm : P.follows .mixedOrders = true)
    (h : ∀ wd, w.drew = wd → wpAnyK P .any ops Q (F wd) z ops.size (Array.replicate ops.size false) a wd) : (Code.region id ops true).wp P Q a w :=
  wp_region_any hm (wpAny_of_K _ _ _ _ (h _ rfl))
/-- What is left stands in a chain. -/
theorem K_end (n : Nat) {fuel : Nat} {l : List Oper} {listed : Array Bool} {a : Act} {w : World} (hf : fuel = (l.drop n).length) (hB : Region.seqB md l.toArray (l.drop n).length n listed = true) (hz : n = z) (h : wpList P l.toArray Q (l.drop n) a w) :
    wpAnyK P md l.toArray Q F z fuel listed a w := by
  subst hf
  exact K_seq (l.drop n) n listed a w (fun j => by simp [List.getElem?_drop]) hB (.inl hz) h
end
end Go.Proofs.Ytpnpmploaaenlaa
