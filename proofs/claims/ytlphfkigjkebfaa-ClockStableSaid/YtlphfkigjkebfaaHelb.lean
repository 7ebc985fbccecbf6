/- Steps through a region that draws its order where several operations may come up. -/
import Derived.Test.YtlphfkigjkebfaaHeld
namespace Go.Proofs.Ytlphfkigjkebfaa
open Go.RowKit
section
variable {P : Program} {ops : Array Oper} {Q : Exit → Act → World → Prop} {md : Region.Mode} {S : World → Prop}
/-- Several operations may come up: a call comes. -/
theorem all_call (i : Nat) (d : Nat) {o : Oper} {fuel : Nat} {listed : Array Bool} {a : Act} {w : World} {rs : List Nat} (ho : ops[i]? = some o) (hd : o.dst = some d)
    (hwant : Region.wanted o (yielded ops a.tmps) = true)
    {f : FuncId} {args : Array Value} (he : (execOp a.eval o).run P w = .ok (.enter f args) w)
    (hc : Calls P f args w fun e w' => ∃ v, e = .returned v ∧ S w' ∧ (S w' → wpAnyH P md ops Q S fuel (listed.setIfInBounds i true) { tmps := a.tmps.setIfInBounds d v, defers := a.defers } w'))
    (hs : AllReadyH P md ops Q S fuel listed a w rs) : AllReadyH P md ops Q S fuel listed a w (i :: rs) := by
  refine AllReadyH.cons ho (fun K hK => ?_) hs
  rw [if_pos hwant]
  unfold Oper.wp
  rw [he]
  simp only [Oper.upon]
  refine hc.mono ?_
  rintro e w' ⟨v, rfl, hS, h⟩
  have := hK.out { tmps := a.tmps.setIfInBounds d v, defers := a.defers } w' hS h
  simpa [Act.put, hd] using this
/-- Several operations may come up: one that makes memory comes. -/
theorem all_make (i : Nat) (d : Nat) {o : Oper} {fuel : Nat} {listed : Array Bool} {a : Act} {w w' : World} {v : Value} {rs : List Nat} (ho : ops[i]? = some o) (hd : o.dst = some d)
    (hwant : Region.wanted o (yielded ops a.tmps) = true)
    (he : (execOp a.eval o).run P w = .ok (.value v) w') (hS : S w')
    (h : S w' → wpAnyH P md ops Q S fuel (listed.setIfInBounds i true) { tmps := a.tmps.setIfInBounds d v, defers := a.defers } w')
    (hs : AllReadyH P md ops Q S fuel listed a w rs) : AllReadyH P md ops Q S fuel listed a w (i :: rs) := by
  refine AllReadyH.cons ho (fun K hK => ?_) hs
  rw [if_pos hwant]
  unfold Oper.wp
  rw [he]
  simp only [Oper.upon]
  have := hK.out _ w' hS h
  simpa [Act.put, hd] using this
theorem all_skip (i : Nat) (d : Nat) {o : Oper} {fuel : Nat} {listed : Array Bool} {a : Act} {w : World} {rs : List Nat} (ho : ops[i]? = some o) (hd : o.dst = some d)
    (hwant : Region.wanted o (yielded ops a.tmps) = false) (hS : S w)
    (h : S w → wpAnyH P md ops Q S fuel (listed.setIfInBounds i true) { tmps := a.tmps.setIfInBounds d undef, defers := a.defers } w)
    (hs : AllReadyH P md ops Q S fuel listed a w rs) : AllReadyH P md ops Q S fuel listed a w (i :: rs) := by
  refine AllReadyH.cons ho (fun K hK => ?_) hs
  rw [if_neg (by rw [hwant]; simp)]
  have := hK.out _ w hS h
  simpa [Act.put, hd] using this
end
end Go.Proofs.Ytlphfkigjkebfaa
