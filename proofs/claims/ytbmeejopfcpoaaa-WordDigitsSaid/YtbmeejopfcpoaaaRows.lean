/-
  No cell of these rows narrows 'for every input' (looked for: loops, veiled, ifaces, maps, wideKeys, modest, calm, conditions, laid).
  DERIVED. THE GIVEN ROWS OF THIS SEAT. 6 by the template 'for every input the law returns true; each argument reads behind the call as it read before'; 0 by the template 'total and deterministic' (their statements: YtbmeejopfcpoaaaTotals.lean).
  GIVEN WITH THE SEED: the statements are not yours to turn. If you find one false, say at which input.
  Laid BY PROGRAM, IN A SANDBOX (cutbox-rows.mjs): the forced cells as the released guide's own fill.sh prints them over the translation c33d7b9e1f4991d1… (all of the seat's roots in one cut). By AI agents, Wed Nov 11 2026. No macro, syntax, notation, axiom, sorry.
-/
import Derived.Test.YtbmeejopfcpoaaaChecked
import GoSem.Claim
import GoSem.ClaimJoined
import GoSem.ClaimMapViews
import Derived.JoinedTies
import Derived.KernelRfl
namespace Go.Proofs.Ytbmeejopfcpoaaa
/- THE CELL 'sum', in the pinned program and in every row, IS THE sha256 OF THE DUMP (.gsa) THAT YtbmeejopfcpoaaaProg.lean LOADS. Nothing in Lean hashes anything: it is a label: what it is worth is what the hold of that sum in a sandbox is worth. -/
noncomputable def Try.pinned : Pinned := { name := "ytbmeejopfcpoaaa", sum := "c33d7b9e1f4991d1dd04a32807e6d6dc05a3a397447c67ff626fda86a875cb2c", checked := Try.checked }
namespace Rows
def none {H : Type} : Left H := { results := [], args := [] }

/-- 'samphirelaw01.WordTurns': WHATEVER THE INPUT: true; the input reads as it did. -/
def wordTurnsSpec : ChangeSpec := { name := "wordTurns", fn := fun _ => fun
  | [d1, d2, d3] => { results := [.lit (.bool true)], args := [d1, d2, d3] }
  | _ => none }
def wordTurnsRow : OpenClaim := { program := "ytbmeejopfcpoaaa", sum := "c33d7b9e1f4991d1dd04a32807e6d6dc05a3a397447c67ff626fda86a875cb2c", func := "samphire/samphirelaw01.WordTurns", spec := "wordTurns", unfollowed := true, recurses := true, apart := false }
def WordTurnsSaid : Prop := wordTurnsRow.holds Try.pinned (OpenSpec.ofChange wordTurnsSpec)

/-- ITS FALSE NEIGHBOUR: 'it returns false'. Refute it at one input. -/
def wordTurnsWrong : ChangeSpec := { name := "wordTurns", fn := fun _ => fun
  | [d1, d2, d3] => { results := [.lit (.bool false)], args := [d1, d2, d3] }
  | _ => none }
def WordTurnsWrongFalsely : Prop := wordTurnsRow.holds Try.pinned (OpenSpec.ofChange wordTurnsWrong)

/-- 'samphirelaw01.WordBig': WHATEVER THE INPUT: true; the input reads as it did. -/
def wordBigSpec : ChangeSpec := { name := "wordBig", fn := fun _ => fun
  | [d1, d2] => { results := [.lit (.bool true)], args := [d1, d2] }
  | _ => none }
def wordBigRow : OpenClaim := { program := "ytbmeejopfcpoaaa", sum := "c33d7b9e1f4991d1dd04a32807e6d6dc05a3a397447c67ff626fda86a875cb2c", func := "samphire/samphirelaw01.WordBig", spec := "wordBig", inPlace := ["internal/abi.NoEscape"], unfollowed := true, recurses := true, apart := false }
def WordBigSaid : Prop := wordBigRow.holds Try.pinned (OpenSpec.ofChange wordBigSpec)

/-- ITS FALSE NEIGHBOUR: 'it returns false'. Refute it at one input. -/
def wordBigWrong : ChangeSpec := { name := "wordBig", fn := fun _ => fun
  | [d1, d2] => { results := [.lit (.bool false)], args := [d1, d2] }
  | _ => none }
def WordBigWrongFalsely : Prop := wordBigRow.holds Try.pinned (OpenSpec.ofChange wordBigWrong)

/-- 'samphirelaw01.WordSmall': WHATEVER THE INPUT: true; the input reads as it did. -/
def wordSmallSpec : ChangeSpec := { name := "wordSmall", fn := fun _ => fun
  | [d1, d2] => { results := [.lit (.bool true)], args := [d1, d2] }
  | _ => none }
def wordSmallRow : OpenClaim := { program := "ytbmeejopfcpoaaa", sum := "c33d7b9e1f4991d1dd04a32807e6d6dc05a3a397447c67ff626fda86a875cb2c", func := "samphire/samphirelaw01.WordSmall", spec := "wordSmall", inPlace := ["internal/abi.NoEscape"], unfollowed := true, recurses := true, apart := false }
def WordSmallSaid : Prop := wordSmallRow.holds Try.pinned (OpenSpec.ofChange wordSmallSpec)

/-- ITS FALSE NEIGHBOUR: 'it returns false'. Refute it at one input. -/
def wordSmallWrong : ChangeSpec := { name := "wordSmall", fn := fun _ => fun
  | [d1, d2] => { results := [.lit (.bool false)], args := [d1, d2] }
  | _ => none }
def WordSmallWrongFalsely : Prop := wordSmallRow.holds Try.pinned (OpenSpec.ofChange wordSmallWrong)

/-- 'samphirelaw01.WordMixes': WHATEVER THE INPUT: true; the input reads as it did. -/
def wordMixesSpec : ChangeSpec := { name := "wordMixes", fn := fun _ => fun
  | [d1, d2, d3] => { results := [.lit (.bool true)], args := [d1, d2, d3] }
  | _ => none }
def wordMixesRow : OpenClaim := { program := "ytbmeejopfcpoaaa", sum := "c33d7b9e1f4991d1dd04a32807e6d6dc05a3a397447c67ff626fda86a875cb2c", func := "samphire/samphirelaw01.WordMixes", spec := "wordMixes", inPlace := ["internal/abi.NoEscape"], unfollowed := true, recurses := true, apart := false }
def WordMixesSaid : Prop := wordMixesRow.holds Try.pinned (OpenSpec.ofChange wordMixesSpec)

/-- ITS FALSE NEIGHBOUR: 'it returns false'. Refute it at one input. -/
def wordMixesWrong : ChangeSpec := { name := "wordMixes", fn := fun _ => fun
  | [d1, d2, d3] => { results := [.lit (.bool false)], args := [d1, d2, d3] }
  | _ => none }
def WordMixesWrongFalsely : Prop := wordMixesRow.holds Try.pinned (OpenSpec.ofChange wordMixesWrong)

/-- 'samphirelaw01.WordXors': WHATEVER THE INPUT: true; the input reads as it did. -/
def wordXorsSpec : ChangeSpec := { name := "wordXors", fn := fun _ => fun
  | [d1, d2] => { results := [.lit (.bool true)], args := [d1, d2] }
  | _ => none }
def wordXorsRow : OpenClaim := { program := "ytbmeejopfcpoaaa", sum := "c33d7b9e1f4991d1dd04a32807e6d6dc05a3a397447c67ff626fda86a875cb2c", func := "samphire/samphirelaw01.WordXors", spec := "wordXors", inPlace := ["internal/bytealg.IndexByteString", "internal/abi.NoEscape"], apart := false }
def WordXorsSaid : Prop := wordXorsRow.holds Try.pinned (OpenSpec.ofChange wordXorsSpec)

/-- ITS FALSE NEIGHBOUR: 'it returns false'. Refute it at one input. -/
def wordXorsWrong : ChangeSpec := { name := "wordXors", fn := fun _ => fun
  | [d1, d2] => { results := [.lit (.bool false)], args := [d1, d2] }
  | _ => none }
def WordXorsWrongFalsely : Prop := wordXorsRow.holds Try.pinned (OpenSpec.ofChange wordXorsWrong)

/-- 'samphirelaw01.WordDigits': WHATEVER THE INPUT: true; the input reads as it did. -/
def wordDigitsSpec : ChangeSpec := { name := "wordDigits", fn := fun _ => fun
  | [d1, d2] => { results := [.lit (.bool true)], args := [d1, d2] }
  | _ => none }
def wordDigitsRow : OpenClaim := { program := "ytbmeejopfcpoaaa", sum := "c33d7b9e1f4991d1dd04a32807e6d6dc05a3a397447c67ff626fda86a875cb2c", func := "samphire/samphirelaw01.WordDigits", spec := "wordDigits", inPlace := ["internal/bytealg.IndexByteString", "internal/abi.NoEscape"], apart := false }
def WordDigitsSaid : Prop := wordDigitsRow.holds Try.pinned (OpenSpec.ofChange wordDigitsSpec)

/-- ITS FALSE NEIGHBOUR: 'it returns false'. Refute it at one input. -/
def wordDigitsWrong : ChangeSpec := { name := "wordDigits", fn := fun _ => fun
  | [d1, d2] => { results := [.lit (.bool false)], args := [d1, d2] }
  | _ => none }
def WordDigitsWrongFalsely : Prop := wordDigitsRow.holds Try.pinned (OpenSpec.ofChange wordDigitsWrong)

/- THE SECOND FORM. 'bulk': how many values and letters a reading holds, each counted each time it is reached (what is shared counts as often as it is met; a slice's spare places count too). A statement '..UptoSaid' is the law's where the arguments, and the package variables that the reading takes, are together of bulk at most 1048576: NARROWER than '..Said'. Prove '..Said' where nothing that the law and all that it calls make is longer than what came in: it says more and counts as full. Else prove '..UptoSaid'. A law counts once. -/
mutual
def uptoBulk {H : Type} : DataW H → Nat
  | .lit (.string bytes) => bytes.length + 1
  | .lit _ => 1
  | .nil => 1
  | .ptr d => uptoBulk d + 1
  | .slice elems spare => uptoBulkAll elems + uptoBulkAll spare + 1
  | .agg parts => uptoBulkAll parts + 1
  | .iface _ d => uptoBulk d + 1
  | .map entries => uptoBulkEntries entries + 1
  | .held _ => 1
def uptoBulkAll {H : Type} : List (DataW H) → Nat
  | [] => 0
  | d :: r => uptoBulk d + uptoBulkAll r
def uptoBulkEntries {H : Type} : List (Lit × DataW H) → Nat
  | [] => 0
  | x :: r => uptoBulkEntry x + uptoBulkEntries r
def uptoBulkEntry {H : Type} : Lit × DataW H → Nat
  | (.string bytes, d) => bytes.length + uptoBulk d + 1
  | (_, d) => uptoBulk d + 1
 end
def uptoSmall : (H : Type) → List (DataW H) → Bool := fun _ ds => decide (uptoBulkAll ds ≤ 1048576)
def OpenSpec.upto (s : _root_.Go.ChangeSpec) : _root_.Go.OpenSpec := { _root_.Go.OpenSpec.ofChange s with cond := some uptoSmall }

/-- 'samphirelaw01.WordTurns', WHERE WHAT IT READS IS OF BULK AT MOST 1048576: true; the input reads as it did. -/
def wordTurnsUptoRow : OpenClaim := { program := "ytbmeejopfcpoaaa", sum := "c33d7b9e1f4991d1dd04a32807e6d6dc05a3a397447c67ff626fda86a875cb2c", func := "samphire/samphirelaw01.WordTurns", spec := "wordTurns", unfollowed := true, recurses := true, apart := false, narrowed := true }
def WordTurnsUptoSaid : Prop := wordTurnsUptoRow.holds Try.pinned (OpenSpec.upto wordTurnsSpec)

/-- 'samphirelaw01.WordBig', WHERE WHAT IT READS IS OF BULK AT MOST 1048576: true; the input reads as it did. -/
def wordBigUptoRow : OpenClaim := { program := "ytbmeejopfcpoaaa", sum := "c33d7b9e1f4991d1dd04a32807e6d6dc05a3a397447c67ff626fda86a875cb2c", func := "samphire/samphirelaw01.WordBig", spec := "wordBig", inPlace := ["internal/abi.NoEscape"], unfollowed := true, recurses := true, apart := false, narrowed := true }
def WordBigUptoSaid : Prop := wordBigUptoRow.holds Try.pinned (OpenSpec.upto wordBigSpec)

/-- 'samphirelaw01.WordSmall', WHERE WHAT IT READS IS OF BULK AT MOST 1048576: true; the input reads as it did. -/
def wordSmallUptoRow : OpenClaim := { program := "ytbmeejopfcpoaaa", sum := "c33d7b9e1f4991d1dd04a32807e6d6dc05a3a397447c67ff626fda86a875cb2c", func := "samphire/samphirelaw01.WordSmall", spec := "wordSmall", inPlace := ["internal/abi.NoEscape"], unfollowed := true, recurses := true, apart := false, narrowed := true }
def WordSmallUptoSaid : Prop := wordSmallUptoRow.holds Try.pinned (OpenSpec.upto wordSmallSpec)

/-- 'samphirelaw01.WordMixes', WHERE WHAT IT READS IS OF BULK AT MOST 1048576: true; the input reads as it did. -/
def wordMixesUptoRow : OpenClaim := { program := "ytbmeejopfcpoaaa", sum := "c33d7b9e1f4991d1dd04a32807e6d6dc05a3a397447c67ff626fda86a875cb2c", func := "samphire/samphirelaw01.WordMixes", spec := "wordMixes", inPlace := ["internal/abi.NoEscape"], unfollowed := true, recurses := true, apart := false, narrowed := true }
def WordMixesUptoSaid : Prop := wordMixesUptoRow.holds Try.pinned (OpenSpec.upto wordMixesSpec)

/-- 'samphirelaw01.WordXors', WHERE WHAT IT READS IS OF BULK AT MOST 1048576: true; the input reads as it did. -/
def wordXorsUptoRow : OpenClaim := { program := "ytbmeejopfcpoaaa", sum := "c33d7b9e1f4991d1dd04a32807e6d6dc05a3a397447c67ff626fda86a875cb2c", func := "samphire/samphirelaw01.WordXors", spec := "wordXors", inPlace := ["internal/bytealg.IndexByteString", "internal/abi.NoEscape"], apart := false, narrowed := true }
def WordXorsUptoSaid : Prop := wordXorsUptoRow.holds Try.pinned (OpenSpec.upto wordXorsSpec)

/-- 'samphirelaw01.WordDigits', WHERE WHAT IT READS IS OF BULK AT MOST 1048576: true; the input reads as it did. -/
def wordDigitsUptoRow : OpenClaim := { program := "ytbmeejopfcpoaaa", sum := "c33d7b9e1f4991d1dd04a32807e6d6dc05a3a397447c67ff626fda86a875cb2c", func := "samphire/samphirelaw01.WordDigits", spec := "wordDigits", inPlace := ["internal/bytealg.IndexByteString", "internal/abi.NoEscape"], apart := false, narrowed := true }
def WordDigitsUptoSaid : Prop := wordDigitsUptoRow.holds Try.pinned (OpenSpec.upto wordDigitsSpec)

end Rows
end Go.Proofs.Ytbmeejopfcpoaaa
