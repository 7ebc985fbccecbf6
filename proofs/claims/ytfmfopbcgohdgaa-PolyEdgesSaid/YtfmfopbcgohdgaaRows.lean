/-
  No cell of these rows narrows 'for every input' (looked for: loops, veiled, ifaces, maps, wideKeys, modest, calm, conditions, laid).
  DERIVED. THE GIVEN ROWS OF THIS SEAT. 5 by the template 'for every input the law returns true; each argument reads behind the call as it read before'; 0 by the template 'total and deterministic' (their statements: YtfmfopbcgohdgaaTotals.lean).
  GIVEN WITH THE SEED: the statements are not yours to turn. If you find one false, say at which input.
  Laid BY PROGRAM, IN A SANDBOX (cutbox-rows.mjs): the forced cells as the released guide's own fill.sh prints them over the translation 8aa015ee3ada6d6d… (all of the seat's roots in one cut). By AI agents, Wed Nov 11 2026. No macro, syntax, notation, axiom, sorry.
-/
import Derived.Test.YtfmfopbcgohdgaaChecked
import GoSem.Claim
import GoSem.ClaimJoined
import GoSem.ClaimMapViews
import Derived.JoinedTies
import Derived.KernelRfl
namespace Go.Proofs.Ytfmfopbcgohdgaa
/- THE CELL 'sum', in the pinned program and in every row, IS THE sha256 OF THE DUMP (.gsa) THAT YtfmfopbcgohdgaaProg.lean LOADS. Nothing in Lean hashes anything: it is a label: what it is worth is what the hold of that sum in a sandbox is worth. -/
noncomputable def Try.pinned : Pinned := { name := "ytfmfopbcgohdgaa", sum := "8aa015ee3ada6d6d7d33f37efdb7c4bdaba0539d307a4dc5f1c7c5a9fbe37edd", checked := Try.checked }
namespace Rows
def none {H : Type} : Left H := { results := [], args := [] }

/-- 'samphirelaw06.PolyMacs': WHATEVER THE INPUT: true; the input reads as it did. -/
def polyMacsSpec : ChangeSpec := { name := "polyMacs", fn := fun _ => fun
  | [d1, d2, d3] => { results := [.lit (.bool true)], args := [d1, d2, d3] }
  | _ => none }
def polyMacsRow : OpenClaim := { program := "ytfmfopbcgohdgaa", sum := "8aa015ee3ada6d6d7d33f37efdb7c4bdaba0539d307a4dc5f1c7c5a9fbe37edd", func := "samphire/samphirelaw06.PolyMacs", spec := "polyMacs", apart := false }
def PolyMacsSaid : Prop := polyMacsRow.holds Try.pinned (OpenSpec.ofChange polyMacsSpec)

/-- ITS FALSE NEIGHBOUR: 'it returns false'. Refute it at one input. -/
def polyMacsWrong : ChangeSpec := { name := "polyMacs", fn := fun _ => fun
  | [d1, d2, d3] => { results := [.lit (.bool false)], args := [d1, d2, d3] }
  | _ => none }
def PolyMacsWrongFalsely : Prop := polyMacsRow.holds Try.pinned (OpenSpec.ofChange polyMacsWrong)

/-- 'samphirelaw06.PolyClamps': WHATEVER THE INPUT: true; the input reads as it did. -/
def polyClampsSpec : ChangeSpec := { name := "polyClamps", fn := fun _ => fun
  | [d] => { results := [.lit (.bool true)], args := [d] }
  | _ => none }
def polyClampsRow : OpenClaim := { program := "ytfmfopbcgohdgaa", sum := "8aa015ee3ada6d6d7d33f37efdb7c4bdaba0539d307a4dc5f1c7c5a9fbe37edd", func := "samphire/samphirelaw06.PolyClamps", spec := "polyClamps", apart := false }
def PolyClampsSaid : Prop := polyClampsRow.holds Try.pinned (OpenSpec.ofChange polyClampsSpec)

/-- ITS FALSE NEIGHBOUR: 'it returns false'. Refute it at one input. -/
def polyClampsWrong : ChangeSpec := { name := "polyClamps", fn := fun _ => fun
  | [d] => { results := [.lit (.bool false)], args := [d] }
  | _ => none }
def PolyClampsWrongFalsely : Prop := polyClampsRow.holds Try.pinned (OpenSpec.ofChange polyClampsWrong)

/-- 'samphirelaw06.PolySecond': WHATEVER THE INPUT: true; the input reads as it did. -/
def polySecondSpec : ChangeSpec := { name := "polySecond", fn := fun _ => fun
  | [d1, d2] => { results := [.lit (.bool true)], args := [d1, d2] }
  | _ => none }
def polySecondRow : OpenClaim := { program := "ytfmfopbcgohdgaa", sum := "8aa015ee3ada6d6d7d33f37efdb7c4bdaba0539d307a4dc5f1c7c5a9fbe37edd", func := "samphire/samphirelaw06.PolySecond", spec := "polySecond", apart := false }
def PolySecondSaid : Prop := polySecondRow.holds Try.pinned (OpenSpec.ofChange polySecondSpec)

/-- ITS FALSE NEIGHBOUR: 'it returns false'. Refute it at one input. -/
def polySecondWrong : ChangeSpec := { name := "polySecond", fn := fun _ => fun
  | [d1, d2] => { results := [.lit (.bool false)], args := [d1, d2] }
  | _ => none }
def PolySecondWrongFalsely : Prop := polySecondRow.holds Try.pinned (OpenSpec.ofChange polySecondWrong)

/-- 'samphirelaw06.PolyOne': WHATEVER THE INPUT: true; the input reads as it did. -/
def polyOneSpec : ChangeSpec := { name := "polyOne", fn := fun _ => fun
  | [d1, d2] => { results := [.lit (.bool true)], args := [d1, d2] }
  | _ => none }
def polyOneRow : OpenClaim := { program := "ytfmfopbcgohdgaa", sum := "8aa015ee3ada6d6d7d33f37efdb7c4bdaba0539d307a4dc5f1c7c5a9fbe37edd", func := "samphire/samphirelaw06.PolyOne", spec := "polyOne", apart := false }
def PolyOneSaid : Prop := polyOneRow.holds Try.pinned (OpenSpec.ofChange polyOneSpec)

/-- ITS FALSE NEIGHBOUR: 'it returns false'. Refute it at one input. -/
def polyOneWrong : ChangeSpec := { name := "polyOne", fn := fun _ => fun
  | [d1, d2] => { results := [.lit (.bool false)], args := [d1, d2] }
  | _ => none }
def PolyOneWrongFalsely : Prop := polyOneRow.holds Try.pinned (OpenSpec.ofChange polyOneWrong)

/-- 'samphirelaw06.PolyEdges': WHATEVER THE INPUT: true; the input reads as it did. -/
def polyEdgesSpec : ChangeSpec := { name := "polyEdges", fn := fun _ => fun
  | [d1, d2, d3] => { results := [.lit (.bool true)], args := [d1, d2, d3] }
  | _ => none }
def polyEdgesRow : OpenClaim := { program := "ytfmfopbcgohdgaa", sum := "8aa015ee3ada6d6d7d33f37efdb7c4bdaba0539d307a4dc5f1c7c5a9fbe37edd", func := "samphire/samphirelaw06.PolyEdges", spec := "polyEdges", apart := false }
def PolyEdgesSaid : Prop := polyEdgesRow.holds Try.pinned (OpenSpec.ofChange polyEdgesSpec)

/-- ITS FALSE NEIGHBOUR: 'it returns false'. Refute it at one input. -/
def polyEdgesWrong : ChangeSpec := { name := "polyEdges", fn := fun _ => fun
  | [d1, d2, d3] => { results := [.lit (.bool false)], args := [d1, d2, d3] }
  | _ => none }
def PolyEdgesWrongFalsely : Prop := polyEdgesRow.holds Try.pinned (OpenSpec.ofChange polyEdgesWrong)

/- THE SECOND FORM. 'bulk': how many values and letters a reading holds, each counted each time it is reached (what is shared counts as often as it is met; a slice's spare places count too). A statement '..UptoSaid' is the law's where the arguments, and the package variables that the reading takes, are together of bulk at most 1048576: NARROWER than '..Said'. Prove '..Said' where nothing that the law and all that it calls make is longer than what came in: it says more and counts as full. Else prove '..UptoSaid'. A law counts once. -/
mutual
def uptoBulk {H : Type} : DataW H → Nat
  | .lit (.string bytes) => bytes.length + 1
  | .lit _ => 1
  | .nil => 1
  | .ptr d => uptoBulk d + 1
  | .slice elems spare => uptoBulkAll elems + uptoBulkAll spare + 1
  | .agg parts => uptoBulkAll parts + 1
  | .iface _ d => uptoBulk d + 1
  | .map entries => uptoBulkEntries entries + 1
  | .held _ => 1
def uptoBulkAll {H : Type} : List (DataW H) → Nat
  | [] => 0
  | d :: r => uptoBulk d + uptoBulkAll r
def uptoBulkEntries {H : Type} : List (Lit × DataW H) → Nat
  | [] => 0
  | x :: r => uptoBulkEntry x + uptoBulkEntries r
def uptoBulkEntry {H : Type} : Lit × DataW H → Nat
  | (.string bytes, d) => bytes.length + uptoBulk d + 1
  | (_, d) => uptoBulk d + 1
 end
def uptoSmall : (H : Type) → List (DataW H) → Bool := fun _ ds => decide (uptoBulkAll ds ≤ 1048576)
def OpenSpec.upto (s : _root_.Go.ChangeSpec) : _root_.Go.OpenSpec := { _root_.Go.OpenSpec.ofChange s with cond := some uptoSmall }

/-- 'samphirelaw06.PolyMacs', WHERE WHAT IT READS IS OF BULK AT MOST 1048576: true; the input reads as it did. -/
def polyMacsUptoRow : OpenClaim := { program := "ytfmfopbcgohdgaa", sum := "8aa015ee3ada6d6d7d33f37efdb7c4bdaba0539d307a4dc5f1c7c5a9fbe37edd", func := "samphire/samphirelaw06.PolyMacs", spec := "polyMacs", apart := false, narrowed := true }
def PolyMacsUptoSaid : Prop := polyMacsUptoRow.holds Try.pinned (OpenSpec.upto polyMacsSpec)

/-- 'samphirelaw06.PolyClamps', WHERE WHAT IT READS IS OF BULK AT MOST 1048576: true; the input reads as it did. -/
def polyClampsUptoRow : OpenClaim := { program := "ytfmfopbcgohdgaa", sum := "8aa015ee3ada6d6d7d33f37efdb7c4bdaba0539d307a4dc5f1c7c5a9fbe37edd", func := "samphire/samphirelaw06.PolyClamps", spec := "polyClamps", apart := false, narrowed := true }
def PolyClampsUptoSaid : Prop := polyClampsUptoRow.holds Try.pinned (OpenSpec.upto polyClampsSpec)

/-- 'samphirelaw06.PolySecond', WHERE WHAT IT READS IS OF BULK AT MOST 1048576: true; the input reads as it did. -/
def polySecondUptoRow : OpenClaim := { program := "ytfmfopbcgohdgaa", sum := "8aa015ee3ada6d6d7d33f37efdb7c4bdaba0539d307a4dc5f1c7c5a9fbe37edd", func := "samphire/samphirelaw06.PolySecond", spec := "polySecond", apart := false, narrowed := true }
def PolySecondUptoSaid : Prop := polySecondUptoRow.holds Try.pinned (OpenSpec.upto polySecondSpec)

/-- 'samphirelaw06.PolyOne', WHERE WHAT IT READS IS OF BULK AT MOST 1048576: true; the input reads as it did. -/
def polyOneUptoRow : OpenClaim := { program := "ytfmfopbcgohdgaa", sum := "8aa015ee3ada6d6d7d33f37efdb7c4bdaba0539d307a4dc5f1c7c5a9fbe37edd", func := "samphire/samphirelaw06.PolyOne", spec := "polyOne", apart := false, narrowed := true }
def PolyOneUptoSaid : Prop := polyOneUptoRow.holds Try.pinned (OpenSpec.upto polyOneSpec)

/-- 'samphirelaw06.PolyEdges', WHERE WHAT IT READS IS OF BULK AT MOST 1048576: true; the input reads as it did. -/
def polyEdgesUptoRow : OpenClaim := { program := "ytfmfopbcgohdgaa", sum := "8aa015ee3ada6d6d7d33f37efdb7c4bdaba0539d307a4dc5f1c7c5a9fbe37edd", func := "samphire/samphirelaw06.PolyEdges", spec := "polyEdges", apart := false, narrowed := true }
def PolyEdgesUptoSaid : Prop := polyEdgesUptoRow.holds Try.pinned (OpenSpec.upto polyEdgesSpec)

end Rows
end Go.Proofs.Ytfmfopbcgohdgaa
