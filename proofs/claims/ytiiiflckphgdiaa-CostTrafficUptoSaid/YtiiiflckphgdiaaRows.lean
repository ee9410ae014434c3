/-
  No cell of these rows narrows 'for every input' (looked for: loops, veiled, ifaces, maps, wideKeys, modest, calm, conditions, laid).
  DERIVED. THE GIVEN ROWS OF THIS SEAT. 6 by the template 'for every input the law returns true; each argument reads behind the call as it read before'; 0 by the template 'total and deterministic' (their statements: YtiiiflckphgdiaaTotals.lean).
  GIVEN WITH THE SEED: the statements are not yours to turn. If you find one false, say at which input.
  Laid BY PROGRAM, IN A SANDBOX (cutbox-rows.mjs): the forced cells as the released guide's own fill.sh prints them over the translation 2218e3bae8ce7504… (all of the seat's roots in one cut). By AI agents, Wed Nov 11 2026. No macro, syntax, notation, axiom, sorry.
-/
import Derived.Test.YtiiiflckphgdiaaChecked
import GoSem.Claim
import GoSem.ClaimJoined
import GoSem.ClaimMapViews
import Derived.JoinedTies
import Derived.KernelRfl
namespace Go.Proofs.Ytiiiflckphgdiaa
/- THE CELL 'sum', in the pinned program and in every row, IS THE sha256 OF THE DUMP (.gsa) THAT YtiiiflckphgdiaaProg.lean LOADS. Nothing in Lean hashes anything: it is a label: what it is worth is what the hold of that sum in a sandbox is worth. -/
noncomputable def Try.pinned : Pinned := { name := "ytiiiflckphgdiaa", sum := "2218e3bae8ce75048af23ede0c6aa0188f4ecb250ac151a2c436a23c0777b9c6", checked := Try.checked }
namespace Rows
def none {H : Type} : Left H := { results := [], args := [] }

/-- 'eyrielaw18.CostSums': WHATEVER THE INPUT: true; the input reads as it did. -/
def costSumsSpec : ChangeSpec := { name := "costSums", fn := fun _ => fun
  | [d] => { results := [.lit (.bool true)], args := [d] }
  | _ => none }
def costSumsRow : OpenClaim := { program := "ytiiiflckphgdiaa", sum := "2218e3bae8ce75048af23ede0c6aa0188f4ecb250ac151a2c436a23c0777b9c6", func := "eyrie/eyrielaw18.CostSums", spec := "costSums", unfollowed := true, recurses := true, apart := false }
def CostSumsSaid : Prop := costSumsRow.holds Try.pinned (OpenSpec.ofChange costSumsSpec)

/-- ITS FALSE NEIGHBOUR: 'it returns false'. Refute it at one input. -/
def costSumsWrong : ChangeSpec := { name := "costSums", fn := fun _ => fun
  | [d] => { results := [.lit (.bool false)], args := [d] }
  | _ => none }
def CostSumsWrongFalsely : Prop := costSumsRow.holds Try.pinned (OpenSpec.ofChange costSumsWrong)

/-- 'eyrielaw18.CostOuts': WHATEVER THE INPUT: true; the input reads as it did. -/
def costOutsSpec : ChangeSpec := { name := "costOuts", fn := fun _ => fun
  | [d1, d2, d3] => { results := [.lit (.bool true)], args := [d1, d2, d3] }
  | _ => none }
def costOutsRow : OpenClaim := { program := "ytiiiflckphgdiaa", sum := "2218e3bae8ce75048af23ede0c6aa0188f4ecb250ac151a2c436a23c0777b9c6", func := "eyrie/eyrielaw18.CostOuts", spec := "costOuts", unfollowed := true, recurses := true, apart := false }
def CostOutsSaid : Prop := costOutsRow.holds Try.pinned (OpenSpec.ofChange costOutsSpec)

/-- ITS FALSE NEIGHBOUR: 'it returns false'. Refute it at one input. -/
def costOutsWrong : ChangeSpec := { name := "costOuts", fn := fun _ => fun
  | [d1, d2, d3] => { results := [.lit (.bool false)], args := [d1, d2, d3] }
  | _ => none }
def CostOutsWrongFalsely : Prop := costOutsRow.holds Try.pinned (OpenSpec.ofChange costOutsWrong)

/-- 'eyrielaw18.CostGrows': WHATEVER THE INPUT: true; the input reads as it did. -/
def costGrowsSpec : ChangeSpec := { name := "costGrows", fn := fun _ => fun
  | [d1, d2, d3] => { results := [.lit (.bool true)], args := [d1, d2, d3] }
  | _ => none }
def costGrowsRow : OpenClaim := { program := "ytiiiflckphgdiaa", sum := "2218e3bae8ce75048af23ede0c6aa0188f4ecb250ac151a2c436a23c0777b9c6", func := "eyrie/eyrielaw18.CostGrows", spec := "costGrows", unfollowed := true, recurses := true, apart := false }
def CostGrowsSaid : Prop := costGrowsRow.holds Try.pinned (OpenSpec.ofChange costGrowsSpec)

/-- ITS FALSE NEIGHBOUR: 'it returns false'. Refute it at one input. -/
def costGrowsWrong : ChangeSpec := { name := "costGrows", fn := fun _ => fun
  | [d1, d2, d3] => { results := [.lit (.bool false)], args := [d1, d2, d3] }
  | _ => none }
def CostGrowsWrongFalsely : Prop := costGrowsRow.holds Try.pinned (OpenSpec.ofChange costGrowsWrong)

/-- 'eyrielaw18.CostOne': WHATEVER THE INPUT: true; the input reads as it did. -/
def costOneSpec : ChangeSpec := { name := "costOne", fn := fun _ => fun
  | [d1, d2, d3, d4] => { results := [.lit (.bool true)], args := [d1, d2, d3, d4] }
  | _ => none }
def costOneRow : OpenClaim := { program := "ytiiiflckphgdiaa", sum := "2218e3bae8ce75048af23ede0c6aa0188f4ecb250ac151a2c436a23c0777b9c6", func := "eyrie/eyrielaw18.CostOne", spec := "costOne", unfollowed := true, recurses := true, apart := false }
def CostOneSaid : Prop := costOneRow.holds Try.pinned (OpenSpec.ofChange costOneSpec)

/-- ITS FALSE NEIGHBOUR: 'it returns false'. Refute it at one input. -/
def costOneWrong : ChangeSpec := { name := "costOne", fn := fun _ => fun
  | [d1, d2, d3, d4] => { results := [.lit (.bool false)], args := [d1, d2, d3, d4] }
  | _ => none }
def CostOneWrongFalsely : Prop := costOneRow.holds Try.pinned (OpenSpec.ofChange costOneWrong)

/-- 'eyrielaw18.CostTraffic': WHATEVER THE INPUT: true; the input reads as it did. -/
def costTrafficSpec : ChangeSpec := { name := "costTraffic", fn := fun _ => fun
  | [d1, d2, d3, d4, d5, d6, d7] => { results := [.lit (.bool true)], args := [d1, d2, d3, d4, d5, d6, d7] }
  | _ => none }
def costTrafficRow : OpenClaim := { program := "ytiiiflckphgdiaa", sum := "2218e3bae8ce75048af23ede0c6aa0188f4ecb250ac151a2c436a23c0777b9c6", func := "eyrie/eyrielaw18.CostTraffic", spec := "costTraffic", unfollowed := true, recurses := true, apart := false }
def CostTrafficSaid : Prop := costTrafficRow.holds Try.pinned (OpenSpec.ofChange costTrafficSpec)

/-- ITS FALSE NEIGHBOUR: 'it returns false'. Refute it at one input. -/
def costTrafficWrong : ChangeSpec := { name := "costTraffic", fn := fun _ => fun
  | [d1, d2, d3, d4, d5, d6, d7] => { results := [.lit (.bool false)], args := [d1, d2, d3, d4, d5, d6, d7] }
  | _ => none }
def CostTrafficWrongFalsely : Prop := costTrafficRow.holds Try.pinned (OpenSpec.ofChange costTrafficWrong)

/-- 'eyrielaw18.CostMoves': WHATEVER THE INPUT: true; the input reads as it did. -/
def costMovesSpec : ChangeSpec := { name := "costMoves", fn := fun _ => fun
  | [d1, d2, d3, d4, d5, d6, d7] => { results := [.lit (.bool true)], args := [d1, d2, d3, d4, d5, d6, d7] }
  | _ => none }
def costMovesRow : OpenClaim := { program := "ytiiiflckphgdiaa", sum := "2218e3bae8ce75048af23ede0c6aa0188f4ecb250ac151a2c436a23c0777b9c6", func := "eyrie/eyrielaw18.CostMoves", spec := "costMoves", unfollowed := true, recurses := true, apart := false }
def CostMovesSaid : Prop := costMovesRow.holds Try.pinned (OpenSpec.ofChange costMovesSpec)

/-- ITS FALSE NEIGHBOUR: 'it returns false'. Refute it at one input. -/
def costMovesWrong : ChangeSpec := { name := "costMoves", fn := fun _ => fun
  | [d1, d2, d3, d4, d5, d6, d7] => { results := [.lit (.bool false)], args := [d1, d2, d3, d4, d5, d6, d7] }
  | _ => none }
def CostMovesWrongFalsely : Prop := costMovesRow.holds Try.pinned (OpenSpec.ofChange costMovesWrong)

/- THE SECOND FORM. 'bulk': how many values and letters a reading holds, each counted each time it is reached (what is shared counts as often as it is met; a slice's spare places count too). A statement '..UptoSaid' is the law's where the arguments, and the package variables that the reading takes, are together of bulk at most 1048576: NARROWER than '..Said'. Prove '..Said' where nothing that the law and all that it calls make is longer than what came in: it says more and counts as full. Else prove '..UptoSaid'. A law counts once. -/
mutual
def uptoBulk {H : Type} : DataW H → Nat
  | .lit (.string bytes) => bytes.length + 1
  | .lit _ => 1
  | .nil => 1
  | .ptr d => uptoBulk d + 1
  | .slice elems spare => uptoBulkAll elems + uptoBulkAll spare + 1
  | .agg parts => uptoBulkAll parts + 1
  | .iface _ d => uptoBulk d + 1
  | .map entries => uptoBulkEntries entries + 1
  | .held _ => 1
def uptoBulkAll {H : Type} : List (DataW H) → Nat
  | [] => 0
  | d :: r => uptoBulk d + uptoBulkAll r
def uptoBulkEntries {H : Type} : List (Lit × DataW H) → Nat
  | [] => 0
  | x :: r => uptoBulkEntry x + uptoBulkEntries r
def uptoBulkEntry {H : Type} : Lit × DataW H → Nat
  | (.string bytes, d) => bytes.length + uptoBulk d + 1
  | (_, d) => uptoBulk d + 1
 end
def uptoSmall : (H : Type) → List (DataW H) → Bool := fun _ ds => decide (uptoBulkAll ds ≤ 1048576)
def OpenSpec.upto (s : _root_.Go.ChangeSpec) : _root_.Go.OpenSpec := { _root_.Go.OpenSpec.ofChange s with cond := some uptoSmall }

/-- 'eyrielaw18.CostSums', WHERE WHAT IT READS IS OF BULK AT MOST 1048576: true; the input reads as it did. -/
def costSumsUptoRow : OpenClaim := { program := "ytiiiflckphgdiaa", sum := "2218e3bae8ce75048af23ede0c6aa0188f4ecb250ac151a2c436a23c0777b9c6", func := "eyrie/eyrielaw18.CostSums", spec := "costSums", unfollowed := true, recurses := true, apart := false, narrowed := true }
def CostSumsUptoSaid : Prop := costSumsUptoRow.holds Try.pinned (OpenSpec.upto costSumsSpec)

/-- 'eyrielaw18.CostOuts', WHERE WHAT IT READS IS OF BULK AT MOST 1048576: true; the input reads as it did. -/
def costOutsUptoRow : OpenClaim := { program := "ytiiiflckphgdiaa", sum := "2218e3bae8ce75048af23ede0c6aa0188f4ecb250ac151a2c436a23c0777b9c6", func := "eyrie/eyrielaw18.CostOuts", spec := "costOuts", unfollowed := true, recurses := true, apart := false, narrowed := true }
def CostOutsUptoSaid : Prop := costOutsUptoRow.holds Try.pinned (OpenSpec.upto costOutsSpec)

/-- 'eyrielaw18.CostGrows', WHERE WHAT IT READS IS OF BULK AT MOST 1048576: true; the input reads as it did. -/
def costGrowsUptoRow : OpenClaim := { program := "ytiiiflckphgdiaa", sum := "2218e3bae8ce75048af23ede0c6aa0188f4ecb250ac151a2c436a23c0777b9c6", func := "eyrie/eyrielaw18.CostGrows", spec := "costGrows", unfollowed := true, recurses := true, apart := false, narrowed := true }
def CostGrowsUptoSaid : Prop := costGrowsUptoRow.holds Try.pinned (OpenSpec.upto costGrowsSpec)

/-- 'eyrielaw18.CostOne', WHERE WHAT IT READS IS OF BULK AT MOST 1048576: true; the input reads as it did. -/
def costOneUptoRow : OpenClaim := { program := "ytiiiflckphgdiaa", sum := "2218e3bae8ce75048af23ede0c6aa0188f4ecb250ac151a2c436a23c0777b9c6", func := "eyrie/eyrielaw18.CostOne", spec := "costOne", unfollowed := true, recurses := true, apart := false, narrowed := true }
def CostOneUptoSaid : Prop := costOneUptoRow.holds Try.pinned (OpenSpec.upto costOneSpec)

/-- 'eyrielaw18.CostTraffic', WHERE WHAT IT READS IS OF BULK AT MOST 1048576: true; the input reads as it did. -/
def costTrafficUptoRow : OpenClaim := { program := "ytiiiflckphgdiaa", sum := "2218e3bae8ce75048af23ede0c6aa0188f4ecb250ac151a2c436a23c0777b9c6", func := "eyrie/eyrielaw18.CostTraffic", spec := "costTraffic", unfollowed := true, recurses := true, apart := false, narrowed := true }
def CostTrafficUptoSaid : Prop := costTrafficUptoRow.holds Try.pinned (OpenSpec.upto costTrafficSpec)

/-- 'eyrielaw18.CostMoves', WHERE WHAT IT READS IS OF BULK AT MOST 1048576: true; the input reads as it did. -/
def costMovesUptoRow : OpenClaim := { program := "ytiiiflckphgdiaa", sum := "2218e3bae8ce75048af23ede0c6aa0188f4ecb250ac151a2c436a23c0777b9c6", func := "eyrie/eyrielaw18.CostMoves", spec := "costMoves", unfollowed := true, recurses := true, apart := false, narrowed := true }
def CostMovesUptoSaid : Prop := costMovesUptoRow.holds Try.pinned (OpenSpec.upto costMovesSpec)

end Rows
end Go.Proofs.Ytiiiflckphgdiaa
