/-
  No cell of these rows narrows 'for every input' (looked for: loops, veiled, ifaces, maps, wideKeys, modest, calm, conditions, laid).
  DERIVED. THE GIVEN ROWS OF THIS SEAT. 3 by the template 'for every input the law returns true; each argument reads behind the call as it read before'; 0 by the template 'total and deterministic' (their statements: YtbaifjdealmckaaTotals.lean).
  GIVEN WITH THE SEED: the statements are not yours to turn. If you find one false, say at which input.
  Laid BY PROGRAM, IN A SANDBOX (cutbox-rows.mjs): the forced cells as the released guide's own fill.sh prints them over the translation 65c7fa0d4985217e… (all of the seat's roots in one cut). By AI agents, Wed Nov 11 2026. No macro, syntax, notation, axiom, sorry.
-/
import Derived.Test.YtbaifjdealmckaaChecked
import GoSem.Claim
import GoSem.ClaimJoined
import GoSem.ClaimMapViews
import Derived.JoinedTies
import Derived.KernelRfl
namespace Go.Proofs.Ytbaifjdealmckaa
/- THE CELL 'sum', in the pinned program and in every row, IS THE sha256 OF THE DUMP (.gsa) THAT YtbaifjdealmckaaProg.lean LOADS. Nothing in Lean hashes anything: it is a label: what it is worth is what the hold of that sum in a sandbox is worth. -/
noncomputable def Try.pinned : Pinned := { name := "ytbaifjdealmckaa", sum := "65c7fa0d4985217e224985d5a4015250893152645575695a8ccfcbdba595bd03", checked := Try.checked }
namespace Rows
def none {H : Type} : Left H := { results := [], args := [] }

/-- 'eyrielaw19.PlaceChecks': WHATEVER THE INPUT: true; the input reads as it did. -/
def placeChecksSpec : ChangeSpec := { name := "placeChecks", fn := fun _ => fun
  | [d1, d2, d3] => { results := [.lit (.bool true)], args := [d1, d2, d3] }
  | _ => none }
def placeChecksRow : OpenClaim := { program := "ytbaifjdealmckaa", sum := "65c7fa0d4985217e224985d5a4015250893152645575695a8ccfcbdba595bd03", func := "eyrie/eyrielaw19.PlaceChecks", spec := "placeChecks", unfollowed := true, recurses := true, apart := false }
def PlaceChecksSaid : Prop := placeChecksRow.holds Try.pinned (OpenSpec.ofChange placeChecksSpec)

/-- ITS FALSE NEIGHBOUR: 'it returns false'. Refute it at one input. -/
def placeChecksWrong : ChangeSpec := { name := "placeChecks", fn := fun _ => fun
  | [d1, d2, d3] => { results := [.lit (.bool false)], args := [d1, d2, d3] }
  | _ => none }
def PlaceChecksWrongFalsely : Prop := placeChecksRow.holds Try.pinned (OpenSpec.ofChange placeChecksWrong)

/-- 'eyrielaw19.PlaceCheaper': WHATEVER THE INPUT: true; the input reads as it did. -/
def placeCheaperSpec : ChangeSpec := { name := "placeCheaper", fn := fun _ => fun
  | [d1, d2] => { results := [.lit (.bool true)], args := [d1, d2] }
  | _ => none }
def placeCheaperRow : OpenClaim := { program := "ytbaifjdealmckaa", sum := "65c7fa0d4985217e224985d5a4015250893152645575695a8ccfcbdba595bd03", func := "eyrie/eyrielaw19.PlaceCheaper", spec := "placeCheaper", unfollowed := true, recurses := true, apart := false }
def PlaceCheaperSaid : Prop := placeCheaperRow.holds Try.pinned (OpenSpec.ofChange placeCheaperSpec)

/-- ITS FALSE NEIGHBOUR: 'it returns false'. Refute it at one input. -/
def placeCheaperWrong : ChangeSpec := { name := "placeCheaper", fn := fun _ => fun
  | [d1, d2] => { results := [.lit (.bool false)], args := [d1, d2] }
  | _ => none }
def PlaceCheaperWrongFalsely : Prop := placeCheaperRow.holds Try.pinned (OpenSpec.ofChange placeCheaperWrong)

/-- 'eyrielaw19.PlaceSettled': WHATEVER THE INPUT: true; the input reads as it did. -/
def placeSettledSpec : ChangeSpec := { name := "placeSettled", fn := fun _ => fun
  | [d1, d2] => { results := [.lit (.bool true)], args := [d1, d2] }
  | _ => none }
def placeSettledRow : OpenClaim := { program := "ytbaifjdealmckaa", sum := "65c7fa0d4985217e224985d5a4015250893152645575695a8ccfcbdba595bd03", func := "eyrie/eyrielaw19.PlaceSettled", spec := "placeSettled", unfollowed := true, recurses := true, apart := false }
def PlaceSettledSaid : Prop := placeSettledRow.holds Try.pinned (OpenSpec.ofChange placeSettledSpec)

/-- ITS FALSE NEIGHBOUR: 'it returns false'. Refute it at one input. -/
def placeSettledWrong : ChangeSpec := { name := "placeSettled", fn := fun _ => fun
  | [d1, d2] => { results := [.lit (.bool false)], args := [d1, d2] }
  | _ => none }
def PlaceSettledWrongFalsely : Prop := placeSettledRow.holds Try.pinned (OpenSpec.ofChange placeSettledWrong)

/- THE SECOND FORM. 'bulk': how many values and letters a reading holds, each counted each time it is reached (what is shared counts as often as it is met; a slice's spare places count too). A statement '..UptoSaid' is the law's where the arguments, and the package variables that the reading takes, are together of bulk at most 1048576: NARROWER than '..Said'. Prove '..Said' where nothing that the law and all that it calls make is longer than what came in: it says more and counts as full. Else prove '..UptoSaid'. A law counts once. -/
mutual
def uptoBulk {H : Type} : DataW H → Nat
  | .lit (.string bytes) => bytes.length + 1
  | .lit _ => 1
  | .nil => 1
  | .ptr d => uptoBulk d + 1
  | .slice elems spare => uptoBulkAll elems + uptoBulkAll spare + 1
  | .agg parts => uptoBulkAll parts + 1
  | .iface _ d => uptoBulk d + 1
  | .map entries => uptoBulkEntries entries + 1
  | .held _ => 1
def uptoBulkAll {H : Type} : List (DataW H) → Nat
  | [] => 0
  | d :: r => uptoBulk d + uptoBulkAll r
def uptoBulkEntries {H : Type} : List (Lit × DataW H) → Nat
  | [] => 0
  | x :: r => uptoBulkEntry x + uptoBulkEntries r
def uptoBulkEntry {H : Type} : Lit × DataW H → Nat
  | (.string bytes, d) => bytes.length + uptoBulk d + 1
  | (_, d) => uptoBulk d + 1
 end
def uptoSmall : (H : Type) → List (DataW H) → Bool := fun _ ds => decide (uptoBulkAll ds ≤ 1048576)
def OpenSpec.upto (s : _root_.Go.ChangeSpec) : _root_.Go.OpenSpec := { _root_.Go.OpenSpec.ofChange s with cond := some uptoSmall }

/-- 'eyrielaw19.PlaceChecks', WHERE WHAT IT READS IS OF BULK AT MOST 1048576: true; the input reads as it did. -/
def placeChecksUptoRow : OpenClaim := { program := "ytbaifjdealmckaa", sum := "65c7fa0d4985217e224985d5a4015250893152645575695a8ccfcbdba595bd03", func := "eyrie/eyrielaw19.PlaceChecks", spec := "placeChecks", unfollowed := true, recurses := true, apart := false, narrowed := true }
def PlaceChecksUptoSaid : Prop := placeChecksUptoRow.holds Try.pinned (OpenSpec.upto placeChecksSpec)

/-- 'eyrielaw19.PlaceCheaper', WHERE WHAT IT READS IS OF BULK AT MOST 1048576: true; the input reads as it did. -/
def placeCheaperUptoRow : OpenClaim := { program := "ytbaifjdealmckaa", sum := "65c7fa0d4985217e224985d5a4015250893152645575695a8ccfcbdba595bd03", func := "eyrie/eyrielaw19.PlaceCheaper", spec := "placeCheaper", unfollowed := true, recurses := true, apart := false, narrowed := true }
def PlaceCheaperUptoSaid : Prop := placeCheaperUptoRow.holds Try.pinned (OpenSpec.upto placeCheaperSpec)

/-- 'eyrielaw19.PlaceSettled', WHERE WHAT IT READS IS OF BULK AT MOST 1048576: true; the input reads as it did. -/
def placeSettledUptoRow : OpenClaim := { program := "ytbaifjdealmckaa", sum := "65c7fa0d4985217e224985d5a4015250893152645575695a8ccfcbdba595bd03", func := "eyrie/eyrielaw19.PlaceSettled", spec := "placeSettled", unfollowed := true, recurses := true, apart := false, narrowed := true }
def PlaceSettledUptoSaid : Prop := placeSettledUptoRow.holds Try.pinned (OpenSpec.upto placeSettledSpec)

end Rows
end Go.Proofs.Ytbaifjdealmckaa
