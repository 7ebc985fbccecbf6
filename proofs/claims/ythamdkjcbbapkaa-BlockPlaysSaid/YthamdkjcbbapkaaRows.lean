/-
  No cell of these rows narrows 'for every input' (looked for: loops, veiled, ifaces, maps, wideKeys, modest, calm, conditions, laid).
  DERIVED. THE GIVEN ROWS OF THIS SEAT. 5 by the template 'for every input the law returns true; each argument reads behind the call as it read before'; 0 by the template 'total and deterministic' (their statements: YthamdkjcbbapkaaTotals.lean).
  GIVEN WITH THE SEED: the statements are not yours to turn. If you find one false, say at which input.
  Laid BY PROGRAM, IN A SANDBOX (cutbox-rows.mjs): the forced cells as the released guide's own fill.sh prints them over the translation 7f04021e28b815b1… (all of the seat's roots in one cut). By AI agents, Wed Nov 11 2026. No macro, syntax, notation, axiom, sorry.
-/
import Derived.Test.YthamdkjcbbapkaaChecked
import GoSem.Claim
import GoSem.ClaimJoined
import GoSem.ClaimMapViews
import Derived.JoinedTies
import Derived.KernelRfl
namespace Go.Proofs.Ythamdkjcbbapkaa
/- THE CELL 'sum', in the pinned program and in every row, IS THE sha256 OF THE DUMP (.gsa) THAT YthamdkjcbbapkaaProg.lean LOADS. Nothing in Lean hashes anything: it is a label: what it is worth is what the hold of that sum in a sandbox is worth. -/
noncomputable def Try.pinned : Pinned := { name := "ythamdkjcbbapkaa", sum := "7f04021e28b815b18a99a46b2c29bf03d05feba0c6826a50527575c1e9c0419a", checked := Try.checked }
namespace Rows
def none {H : Type} : Left H := { results := [], args := [] }

/-- 'samphirelaw17.BlockPlays': WHATEVER THE INPUT: true; the input reads as it did. -/
def blockPlaysSpec : ChangeSpec := { name := "blockPlays", fn := fun _ => fun
  | [d1, d2] => { results := [.lit (.bool true)], args := [d1, d2] }
  | _ => none }
def blockPlaysRow : OpenClaim := { program := "ythamdkjcbbapkaa", sum := "7f04021e28b815b18a99a46b2c29bf03d05feba0c6826a50527575c1e9c0419a", func := "samphire/samphirelaw17.BlockPlays", spec := "blockPlays", apart := false }
def BlockPlaysSaid : Prop := blockPlaysRow.holds Try.pinned (OpenSpec.ofChange blockPlaysSpec)

/-- ITS FALSE NEIGHBOUR: 'it returns false'. Refute it at one input. -/
def blockPlaysWrong : ChangeSpec := { name := "blockPlays", fn := fun _ => fun
  | [d1, d2] => { results := [.lit (.bool false)], args := [d1, d2] }
  | _ => none }
def BlockPlaysWrongFalsely : Prop := blockPlaysRow.holds Try.pinned (OpenSpec.ofChange blockPlaysWrong)

/-- 'samphirelaw17.BlockStays': WHATEVER THE INPUT: true; the input reads as it did. -/
def blockStaysSpec : ChangeSpec := { name := "blockStays", fn := fun _ => fun
  | [d1, d2] => { results := [.lit (.bool true)], args := [d1, d2] }
  | _ => none }
def blockStaysRow : OpenClaim := { program := "ythamdkjcbbapkaa", sum := "7f04021e28b815b18a99a46b2c29bf03d05feba0c6826a50527575c1e9c0419a", func := "samphire/samphirelaw17.BlockStays", spec := "blockStays", apart := false }
def BlockStaysSaid : Prop := blockStaysRow.holds Try.pinned (OpenSpec.ofChange blockStaysSpec)

/-- ITS FALSE NEIGHBOUR: 'it returns false'. Refute it at one input. -/
def blockStaysWrong : ChangeSpec := { name := "blockStays", fn := fun _ => fun
  | [d1, d2] => { results := [.lit (.bool false)], args := [d1, d2] }
  | _ => none }
def BlockStaysWrongFalsely : Prop := blockStaysRow.holds Try.pinned (OpenSpec.ofChange blockStaysWrong)

/-- 'samphirelaw17.BlockApart': WHATEVER THE INPUT: true; the input reads as it did. -/
def blockApartSpec : ChangeSpec := { name := "blockApart", fn := fun _ => fun
  | [d1, d2] => { results := [.lit (.bool true)], args := [d1, d2] }
  | _ => none }
def blockApartRow : OpenClaim := { program := "ythamdkjcbbapkaa", sum := "7f04021e28b815b18a99a46b2c29bf03d05feba0c6826a50527575c1e9c0419a", func := "samphire/samphirelaw17.BlockApart", spec := "blockApart", apart := false }
def BlockApartSaid : Prop := blockApartRow.holds Try.pinned (OpenSpec.ofChange blockApartSpec)

/-- ITS FALSE NEIGHBOUR: 'it returns false'. Refute it at one input. -/
def blockApartWrong : ChangeSpec := { name := "blockApart", fn := fun _ => fun
  | [d1, d2] => { results := [.lit (.bool false)], args := [d1, d2] }
  | _ => none }
def BlockApartWrongFalsely : Prop := blockApartRow.holds Try.pinned (OpenSpec.ofChange blockApartWrong)

/-- 'samphirelaw17.BlockNobody': WHATEVER THE INPUT: true; the input reads as it did. -/
def blockNobodySpec : ChangeSpec := { name := "blockNobody", fn := fun _ => fun
  | [d1, d2] => { results := [.lit (.bool true)], args := [d1, d2] }
  | _ => none }
def blockNobodyRow : OpenClaim := { program := "ythamdkjcbbapkaa", sum := "7f04021e28b815b18a99a46b2c29bf03d05feba0c6826a50527575c1e9c0419a", func := "samphire/samphirelaw17.BlockNobody", spec := "blockNobody", apart := false }
def BlockNobodySaid : Prop := blockNobodyRow.holds Try.pinned (OpenSpec.ofChange blockNobodySpec)

/-- ITS FALSE NEIGHBOUR: 'it returns false'. Refute it at one input. -/
def blockNobodyWrong : ChangeSpec := { name := "blockNobody", fn := fun _ => fun
  | [d1, d2] => { results := [.lit (.bool false)], args := [d1, d2] }
  | _ => none }
def BlockNobodyWrongFalsely : Prop := blockNobodyRow.holds Try.pinned (OpenSpec.ofChange blockNobodyWrong)

/-- 'samphirelaw17.BlockCounts': WHATEVER THE INPUT: true; the input reads as it did. -/
def blockCountsSpec : ChangeSpec := { name := "blockCounts", fn := fun _ => fun
  | [d1, d2] => { results := [.lit (.bool true)], args := [d1, d2] }
  | _ => none }
def blockCountsRow : OpenClaim := { program := "ythamdkjcbbapkaa", sum := "7f04021e28b815b18a99a46b2c29bf03d05feba0c6826a50527575c1e9c0419a", func := "samphire/samphirelaw17.BlockCounts", spec := "blockCounts", apart := false }
def BlockCountsSaid : Prop := blockCountsRow.holds Try.pinned (OpenSpec.ofChange blockCountsSpec)

/-- ITS FALSE NEIGHBOUR: 'it returns false'. Refute it at one input. -/
def blockCountsWrong : ChangeSpec := { name := "blockCounts", fn := fun _ => fun
  | [d1, d2] => { results := [.lit (.bool false)], args := [d1, d2] }
  | _ => none }
def BlockCountsWrongFalsely : Prop := blockCountsRow.holds Try.pinned (OpenSpec.ofChange blockCountsWrong)

/- THE SECOND FORM. 'bulk': how many values and letters a reading holds, each counted each time it is reached (what is shared counts as often as it is met; a slice's spare places count too). A statement '..UptoSaid' is the law's where the arguments, and the package variables that the reading takes, are together of bulk at most 1048576: NARROWER than '..Said'. Prove '..Said' where nothing that the law and all that it calls make is longer than what came in: it says more and counts as full. Else prove '..UptoSaid'. A law counts once. -/
mutual
def uptoBulk {H : Type} : DataW H → Nat
  | .lit (.string bytes) => bytes.length + 1
  | .lit _ => 1
  | .nil => 1
  | .ptr d => uptoBulk d + 1
  | .slice elems spare => uptoBulkAll elems + uptoBulkAll spare + 1
  | .agg parts => uptoBulkAll parts + 1
  | .iface _ d => uptoBulk d + 1
  | .map entries => uptoBulkEntries entries + 1
  | .held _ => 1
def uptoBulkAll {H : Type} : List (DataW H) → Nat
  | [] => 0
  | d :: r => uptoBulk d + uptoBulkAll r
def uptoBulkEntries {H : Type} : List (Lit × DataW H) → Nat
  | [] => 0
  | x :: r => uptoBulkEntry x + uptoBulkEntries r
def uptoBulkEntry {H : Type} : Lit × DataW H → Nat
  | (.string bytes, d) => bytes.length + uptoBulk d + 1
  | (_, d) => uptoBulk d + 1
 end
def uptoSmall : (H : Type) → List (DataW H) → Bool := fun _ ds => decide (uptoBulkAll ds ≤ 1048576)
def OpenSpec.upto (s : _root_.Go.ChangeSpec) : _root_.Go.OpenSpec := { _root_.Go.OpenSpec.ofChange s with cond := some uptoSmall }

/-- 'samphirelaw17.BlockPlays', WHERE WHAT IT READS IS OF BULK AT MOST 1048576: true; the input reads as it did. -/
def blockPlaysUptoRow : OpenClaim := { program := "ythamdkjcbbapkaa", sum := "7f04021e28b815b18a99a46b2c29bf03d05feba0c6826a50527575c1e9c0419a", func := "samphire/samphirelaw17.BlockPlays", spec := "blockPlays", apart := false, narrowed := true }
def BlockPlaysUptoSaid : Prop := blockPlaysUptoRow.holds Try.pinned (OpenSpec.upto blockPlaysSpec)

/-- 'samphirelaw17.BlockStays', WHERE WHAT IT READS IS OF BULK AT MOST 1048576: true; the input reads as it did. -/
def blockStaysUptoRow : OpenClaim := { program := "ythamdkjcbbapkaa", sum := "7f04021e28b815b18a99a46b2c29bf03d05feba0c6826a50527575c1e9c0419a", func := "samphire/samphirelaw17.BlockStays", spec := "blockStays", apart := false, narrowed := true }
def BlockStaysUptoSaid : Prop := blockStaysUptoRow.holds Try.pinned (OpenSpec.upto blockStaysSpec)

/-- 'samphirelaw17.BlockApart', WHERE WHAT IT READS IS OF BULK AT MOST 1048576: true; the input reads as it did. -/
def blockApartUptoRow : OpenClaim := { program := "ythamdkjcbbapkaa", sum := "7f04021e28b815b18a99a46b2c29bf03d05feba0c6826a50527575c1e9c0419a", func := "samphire/samphirelaw17.BlockApart", spec := "blockApart", apart := false, narrowed := true }
def BlockApartUptoSaid : Prop := blockApartUptoRow.holds Try.pinned (OpenSpec.upto blockApartSpec)

/-- 'samphirelaw17.BlockNobody', WHERE WHAT IT READS IS OF BULK AT MOST 1048576: true; the input reads as it did. -/
def blockNobodyUptoRow : OpenClaim := { program := "ythamdkjcbbapkaa", sum := "7f04021e28b815b18a99a46b2c29bf03d05feba0c6826a50527575c1e9c0419a", func := "samphire/samphirelaw17.BlockNobody", spec := "blockNobody", apart := false, narrowed := true }
def BlockNobodyUptoSaid : Prop := blockNobodyUptoRow.holds Try.pinned (OpenSpec.upto blockNobodySpec)

/-- 'samphirelaw17.BlockCounts', WHERE WHAT IT READS IS OF BULK AT MOST 1048576: true; the input reads as it did. -/
def blockCountsUptoRow : OpenClaim := { program := "ythamdkjcbbapkaa", sum := "7f04021e28b815b18a99a46b2c29bf03d05feba0c6826a50527575c1e9c0419a", func := "samphire/samphirelaw17.BlockCounts", spec := "blockCounts", apart := false, narrowed := true }
def BlockCountsUptoSaid : Prop := blockCountsUptoRow.holds Try.pinned (OpenSpec.upto blockCountsSpec)

end Rows
end Go.Proofs.Ythamdkjcbbapkaa
