/-
  No cell of these rows narrows 'for every input' (looked for: loops, veiled, ifaces, maps, wideKeys, modest, calm, conditions, laid).
  DERIVED. THE GIVEN ROWS OF THIS SEAT. 6 by the template 'for every input the law returns true; each argument reads behind the call as it read before'; 0 by the template 'total and deterministic' (their statements: YtlphfkigjkebfaaTotals.lean).
  GIVEN WITH THE SEED: the statements are not yours to turn. If you find one false, say at which input.
  Laid BY PROGRAM, IN A SANDBOX (cutbox-rows.mjs): the forced cells as the released guide's own fill.sh prints them over the translation eabd1028b7d14dc9… (all of the seat's roots in one cut). By AI agents, Wed Nov 11 2026. No macro, syntax, notation, axiom, sorry.
-/
import Derived.Test.YtlphfkigjkebfaaChecked
import GoSem.Claim
import GoSem.ClaimJoined
import GoSem.ClaimMapViews
import Derived.JoinedTies
import Derived.KernelRfl
namespace Go.Proofs.Ytlphfkigjkebfaa
/- THE CELL 'sum', in the pinned program and in every row, IS THE sha256 OF THE DUMP (.gsa) THAT YtlphfkigjkebfaaProg.lean LOADS. Nothing in Lean hashes anything: it is a label: what it is worth is what the hold of that sum in a sandbox is worth. -/
noncomputable def Try.pinned : Pinned := { name := "ytlphfkigjkebfaa", sum := "eabd1028b7d14dc9bf3b12c36f1b3cffd4e8c908504210e8dd157a36bbb27353", checked := Try.checked }
namespace Rows
def none {H : Type} : Left H := { results := [], args := [] }

/-- 'samphirelaw10.ClockOrders': WHATEVER THE INPUT: true; the input reads as it did. -/
def clockOrdersSpec : ChangeSpec := { name := "clockOrders", fn := fun _ => fun
  | [d1, d2, d3] => { results := [.lit (.bool true)], args := [d1, d2, d3] }
  | _ => none }
def clockOrdersRow : OpenClaim := { program := "ytlphfkigjkebfaa", sum := "eabd1028b7d14dc9bf3b12c36f1b3cffd4e8c908504210e8dd157a36bbb27353", func := "samphire/samphirelaw10.ClockOrders", spec := "clockOrders", apart := false }
def ClockOrdersSaid : Prop := clockOrdersRow.holds Try.pinned (OpenSpec.ofChange clockOrdersSpec)

/-- ITS FALSE NEIGHBOUR: 'it returns false'. Refute it at one input. -/
def clockOrdersWrong : ChangeSpec := { name := "clockOrders", fn := fun _ => fun
  | [d1, d2, d3] => { results := [.lit (.bool false)], args := [d1, d2, d3] }
  | _ => none }
def ClockOrdersWrongFalsely : Prop := clockOrdersRow.holds Try.pinned (OpenSpec.ofChange clockOrdersWrong)

/-- 'samphirelaw10.ClockPlays': WHATEVER THE INPUT: true; the input reads as it did. -/
def clockPlaysSpec : ChangeSpec := { name := "clockPlays", fn := fun _ => fun
  | [d1, d2] => { results := [.lit (.bool true)], args := [d1, d2] }
  | _ => none }
def clockPlaysRow : OpenClaim := { program := "ytlphfkigjkebfaa", sum := "eabd1028b7d14dc9bf3b12c36f1b3cffd4e8c908504210e8dd157a36bbb27353", func := "samphire/samphirelaw10.ClockPlays", spec := "clockPlays", apart := false }
def ClockPlaysSaid : Prop := clockPlaysRow.holds Try.pinned (OpenSpec.ofChange clockPlaysSpec)

/-- ITS FALSE NEIGHBOUR: 'it returns false'. Refute it at one input. -/
def clockPlaysWrong : ChangeSpec := { name := "clockPlays", fn := fun _ => fun
  | [d1, d2] => { results := [.lit (.bool false)], args := [d1, d2] }
  | _ => none }
def ClockPlaysWrongFalsely : Prop := clockPlaysRow.holds Try.pinned (OpenSpec.ofChange clockPlaysWrong)

/-- 'samphirelaw10.ClockRises': WHATEVER THE INPUT: true; the input reads as it did. -/
def clockRisesSpec : ChangeSpec := { name := "clockRises", fn := fun _ => fun
  | [d] => { results := [.lit (.bool true)], args := [d] }
  | _ => none }
def clockRisesRow : OpenClaim := { program := "ytlphfkigjkebfaa", sum := "eabd1028b7d14dc9bf3b12c36f1b3cffd4e8c908504210e8dd157a36bbb27353", func := "samphire/samphirelaw10.ClockRises", spec := "clockRises", apart := false }
def ClockRisesSaid : Prop := clockRisesRow.holds Try.pinned (OpenSpec.ofChange clockRisesSpec)

/-- ITS FALSE NEIGHBOUR: 'it returns false'. Refute it at one input. -/
def clockRisesWrong : ChangeSpec := { name := "clockRises", fn := fun _ => fun
  | [d] => { results := [.lit (.bool false)], args := [d] }
  | _ => none }
def ClockRisesWrongFalsely : Prop := clockRisesRow.holds Try.pinned (OpenSpec.ofChange clockRisesWrong)

/-- 'samphirelaw10.ClockSpent': WHATEVER THE INPUT: true; the input reads as it did. -/
def clockSpentSpec : ChangeSpec := { name := "clockSpent", fn := fun _ => fun
  | [d1, d2] => { results := [.lit (.bool true)], args := [d1, d2] }
  | _ => none }
def clockSpentRow : OpenClaim := { program := "ytlphfkigjkebfaa", sum := "eabd1028b7d14dc9bf3b12c36f1b3cffd4e8c908504210e8dd157a36bbb27353", func := "samphire/samphirelaw10.ClockSpent", spec := "clockSpent", apart := false }
def ClockSpentSaid : Prop := clockSpentRow.holds Try.pinned (OpenSpec.ofChange clockSpentSpec)

/-- ITS FALSE NEIGHBOUR: 'it returns false'. Refute it at one input. -/
def clockSpentWrong : ChangeSpec := { name := "clockSpent", fn := fun _ => fun
  | [d1, d2] => { results := [.lit (.bool false)], args := [d1, d2] }
  | _ => none }
def ClockSpentWrongFalsely : Prop := clockSpentRow.holds Try.pinned (OpenSpec.ofChange clockSpentWrong)

/-- 'samphirelaw10.ClockTwo': WHATEVER THE INPUT: true; the input reads as it did. -/
def clockTwoSpec : ChangeSpec := { name := "clockTwo", fn := fun _ => fun
  | [d1, d2] => { results := [.lit (.bool true)], args := [d1, d2] }
  | _ => none }
def clockTwoRow : OpenClaim := { program := "ytlphfkigjkebfaa", sum := "eabd1028b7d14dc9bf3b12c36f1b3cffd4e8c908504210e8dd157a36bbb27353", func := "samphire/samphirelaw10.ClockTwo", spec := "clockTwo", apart := false }
def ClockTwoSaid : Prop := clockTwoRow.holds Try.pinned (OpenSpec.ofChange clockTwoSpec)

/-- ITS FALSE NEIGHBOUR: 'it returns false'. Refute it at one input. -/
def clockTwoWrong : ChangeSpec := { name := "clockTwo", fn := fun _ => fun
  | [d1, d2] => { results := [.lit (.bool false)], args := [d1, d2] }
  | _ => none }
def ClockTwoWrongFalsely : Prop := clockTwoRow.holds Try.pinned (OpenSpec.ofChange clockTwoWrong)

/-- 'samphirelaw10.ClockStable': WHATEVER THE INPUT: true; the input reads as it did. -/
def clockStableSpec : ChangeSpec := { name := "clockStable", fn := fun _ => fun
  | [d1, d2, d3] => { results := [.lit (.bool true)], args := [d1, d2, d3] }
  | _ => none }
def clockStableRow : OpenClaim := { program := "ytlphfkigjkebfaa", sum := "eabd1028b7d14dc9bf3b12c36f1b3cffd4e8c908504210e8dd157a36bbb27353", func := "samphire/samphirelaw10.ClockStable", spec := "clockStable", unfollowed := true, recurses := true, apart := false }
def ClockStableSaid : Prop := clockStableRow.holds Try.pinned (OpenSpec.ofChange clockStableSpec)

/-- ITS FALSE NEIGHBOUR: 'it returns false'. Refute it at one input. -/
def clockStableWrong : ChangeSpec := { name := "clockStable", fn := fun _ => fun
  | [d1, d2, d3] => { results := [.lit (.bool false)], args := [d1, d2, d3] }
  | _ => none }
def ClockStableWrongFalsely : Prop := clockStableRow.holds Try.pinned (OpenSpec.ofChange clockStableWrong)

/- THE SECOND FORM. 'bulk': how many values and letters a reading holds, each counted each time it is reached (what is shared counts as often as it is met; a slice's spare places count too). A statement '..UptoSaid' is the law's where the arguments, and the package variables that the reading takes, are together of bulk at most 1048576: NARROWER than '..Said'. Prove '..Said' where nothing that the law and all that it calls make is longer than what came in: it says more and counts as full. Else prove '..UptoSaid'. A law counts once. -/
mutual
def uptoBulk {H : Type} : DataW H → Nat
  | .lit (.string bytes) => bytes.length + 1
  | .lit _ => 1
  | .nil => 1
  | .ptr d => uptoBulk d + 1
  | .slice elems spare => uptoBulkAll elems + uptoBulkAll spare + 1
  | .agg parts => uptoBulkAll parts + 1
  | .iface _ d => uptoBulk d + 1
  | .map entries => uptoBulkEntries entries + 1
  | .held _ => 1
def uptoBulkAll {H : Type} : List (DataW H) → Nat
  | [] => 0
  | d :: r => uptoBulk d + uptoBulkAll r
def uptoBulkEntries {H : Type} : List (Lit × DataW H) → Nat
  | [] => 0
  | x :: r => uptoBulkEntry x + uptoBulkEntries r
def uptoBulkEntry {H : Type} : Lit × DataW H → Nat
  | (.string bytes, d) => bytes.length + uptoBulk d + 1
  | (_, d) => uptoBulk d + 1
 end
def uptoSmall : (H : Type) → List (DataW H) → Bool := fun _ ds => decide (uptoBulkAll ds ≤ 1048576)
def OpenSpec.upto (s : _root_.Go.ChangeSpec) : _root_.Go.OpenSpec := { _root_.Go.OpenSpec.ofChange s with cond := some uptoSmall }

/-- 'samphirelaw10.ClockOrders', WHERE WHAT IT READS IS OF BULK AT MOST 1048576: true; the input reads as it did. -/
def clockOrdersUptoRow : OpenClaim := { program := "ytlphfkigjkebfaa", sum := "eabd1028b7d14dc9bf3b12c36f1b3cffd4e8c908504210e8dd157a36bbb27353", func := "samphire/samphirelaw10.ClockOrders", spec := "clockOrders", apart := false, narrowed := true }
def ClockOrdersUptoSaid : Prop := clockOrdersUptoRow.holds Try.pinned (OpenSpec.upto clockOrdersSpec)

/-- 'samphirelaw10.ClockPlays', WHERE WHAT IT READS IS OF BULK AT MOST 1048576: true; the input reads as it did. -/
def clockPlaysUptoRow : OpenClaim := { program := "ytlphfkigjkebfaa", sum := "eabd1028b7d14dc9bf3b12c36f1b3cffd4e8c908504210e8dd157a36bbb27353", func := "samphire/samphirelaw10.ClockPlays", spec := "clockPlays", apart := false, narrowed := true }
def ClockPlaysUptoSaid : Prop := clockPlaysUptoRow.holds Try.pinned (OpenSpec.upto clockPlaysSpec)

/-- 'samphirelaw10.ClockRises', WHERE WHAT IT READS IS OF BULK AT MOST 1048576: true; the input reads as it did. -/
def clockRisesUptoRow : OpenClaim := { program := "ytlphfkigjkebfaa", sum := "eabd1028b7d14dc9bf3b12c36f1b3cffd4e8c908504210e8dd157a36bbb27353", func := "samphire/samphirelaw10.ClockRises", spec := "clockRises", apart := false, narrowed := true }
def ClockRisesUptoSaid : Prop := clockRisesUptoRow.holds Try.pinned (OpenSpec.upto clockRisesSpec)

/-- 'samphirelaw10.ClockSpent', WHERE WHAT IT READS IS OF BULK AT MOST 1048576: true; the input reads as it did. -/
def clockSpentUptoRow : OpenClaim := { program := "ytlphfkigjkebfaa", sum := "eabd1028b7d14dc9bf3b12c36f1b3cffd4e8c908504210e8dd157a36bbb27353", func := "samphire/samphirelaw10.ClockSpent", spec := "clockSpent", apart := false, narrowed := true }
def ClockSpentUptoSaid : Prop := clockSpentUptoRow.holds Try.pinned (OpenSpec.upto clockSpentSpec)

/-- 'samphirelaw10.ClockTwo', WHERE WHAT IT READS IS OF BULK AT MOST 1048576: true; the input reads as it did. -/
def clockTwoUptoRow : OpenClaim := { program := "ytlphfkigjkebfaa", sum := "eabd1028b7d14dc9bf3b12c36f1b3cffd4e8c908504210e8dd157a36bbb27353", func := "samphire/samphirelaw10.ClockTwo", spec := "clockTwo", apart := false, narrowed := true }
def ClockTwoUptoSaid : Prop := clockTwoUptoRow.holds Try.pinned (OpenSpec.upto clockTwoSpec)

/-- 'samphirelaw10.ClockStable', WHERE WHAT IT READS IS OF BULK AT MOST 1048576: true; the input reads as it did. -/
def clockStableUptoRow : OpenClaim := { program := "ytlphfkigjkebfaa", sum := "eabd1028b7d14dc9bf3b12c36f1b3cffd4e8c908504210e8dd157a36bbb27353", func := "samphire/samphirelaw10.ClockStable", spec := "clockStable", unfollowed := true, recurses := true, apart := false, narrowed := true }
def ClockStableUptoSaid : Prop := clockStableUptoRow.holds Try.pinned (OpenSpec.upto clockStableSpec)

end Rows
end Go.Proofs.Ytlphfkigjkebfaa
