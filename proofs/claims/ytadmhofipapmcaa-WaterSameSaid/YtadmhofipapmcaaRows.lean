/-
  No cell of these rows narrows 'for every input' (looked for: loops, veiled, ifaces, maps, wideKeys, modest, calm, conditions, laid).
  DERIVED. THE GIVEN ROWS OF THIS SEAT. 4 by the template 'for every input the law returns true; each argument reads behind the call as it read before'; 0 by the template 'total and deterministic' (their statements: YtadmhofipapmcaaTotals.lean).
  GIVEN WITH THE SEED: the statements are not yours to turn. If you find one false, say at which input.
  Laid BY PROGRAM, IN A SANDBOX (cutbox-rows.mjs): the forced cells as the released guide's own fill.sh prints them over the translation 7d2c9f133e587880… (all of the seat's roots in one cut). By AI agents, Wed Nov 11 2026. No macro, syntax, notation, axiom, sorry.
-/
import Derived.Test.YtadmhofipapmcaaChecked
import GoSem.Claim
import GoSem.ClaimJoined
import GoSem.ClaimMapViews
import Derived.JoinedTies
import Derived.KernelRfl
namespace Go.Proofs.Ytadmhofipapmcaa
/- THE CELL 'sum', in the pinned program and in every row, IS THE sha256 OF THE DUMP (.gsa) THAT YtadmhofipapmcaaProg.lean LOADS. Nothing in Lean hashes anything: it is a label: what it is worth is what the hold of that sum in a sandbox is worth. -/
noncomputable def Try.pinned : Pinned := { name := "ytadmhofipapmcaa", sum := "7d2c9f133e58788070030aac0698343a0ad3af63ec968c8605c08dfd8787c65e", checked := Try.checked }
namespace Rows
def none {H : Type} : Left H := { results := [], args := [] }

/-- 'eyrielaw12.WaterLets': WHATEVER THE INPUT: true; the input reads as it did. -/
def waterLetsSpec : ChangeSpec := { name := "waterLets", fn := fun _ => fun
  | [d1, d2, d3, d4, d5] => { results := [.lit (.bool true)], args := [d1, d2, d3, d4, d5] }
  | _ => none }
def waterLetsRow : OpenClaim := { program := "ytadmhofipapmcaa", sum := "7d2c9f133e58788070030aac0698343a0ad3af63ec968c8605c08dfd8787c65e", func := "eyrie/eyrielaw12.WaterLets", spec := "waterLets", apart := false }
def WaterLetsSaid : Prop := waterLetsRow.holds Try.pinned (OpenSpec.ofChange waterLetsSpec)

/-- ITS FALSE NEIGHBOUR: 'it returns false'. Refute it at one input. -/
def waterLetsWrong : ChangeSpec := { name := "waterLets", fn := fun _ => fun
  | [d1, d2, d3, d4, d5] => { results := [.lit (.bool false)], args := [d1, d2, d3, d4, d5] }
  | _ => none }
def WaterLetsWrongFalsely : Prop := waterLetsRow.holds Try.pinned (OpenSpec.ofChange waterLetsWrong)

/-- 'eyrielaw12.WaterRises': WHATEVER THE INPUT: true; the input reads as it did. -/
def waterRisesSpec : ChangeSpec := { name := "waterRises", fn := fun _ => fun
  | [d1, d2] => { results := [.lit (.bool true)], args := [d1, d2] }
  | _ => none }
def waterRisesRow : OpenClaim := { program := "ytadmhofipapmcaa", sum := "7d2c9f133e58788070030aac0698343a0ad3af63ec968c8605c08dfd8787c65e", func := "eyrie/eyrielaw12.WaterRises", spec := "waterRises", apart := false }
def WaterRisesSaid : Prop := waterRisesRow.holds Try.pinned (OpenSpec.ofChange waterRisesSpec)

/-- ITS FALSE NEIGHBOUR: 'it returns false'. Refute it at one input. -/
def waterRisesWrong : ChangeSpec := { name := "waterRises", fn := fun _ => fun
  | [d1, d2] => { results := [.lit (.bool false)], args := [d1, d2] }
  | _ => none }
def WaterRisesWrongFalsely : Prop := waterRisesRow.holds Try.pinned (OpenSpec.ofChange waterRisesWrong)

/-- 'eyrielaw12.WaterDoes': WHATEVER THE INPUT: true; the input reads as it did. -/
def waterDoesSpec : ChangeSpec := { name := "waterDoes", fn := fun _ => fun
  | [d1, d2, d3, d4, d5, d6] => { results := [.lit (.bool true)], args := [d1, d2, d3, d4, d5, d6] }
  | _ => none }
def waterDoesRow : OpenClaim := { program := "ytadmhofipapmcaa", sum := "7d2c9f133e58788070030aac0698343a0ad3af63ec968c8605c08dfd8787c65e", func := "eyrie/eyrielaw12.WaterDoes", spec := "waterDoes", apart := false }
def WaterDoesSaid : Prop := waterDoesRow.holds Try.pinned (OpenSpec.ofChange waterDoesSpec)

/-- ITS FALSE NEIGHBOUR: 'it returns false'. Refute it at one input. -/
def waterDoesWrong : ChangeSpec := { name := "waterDoes", fn := fun _ => fun
  | [d1, d2, d3, d4, d5, d6] => { results := [.lit (.bool false)], args := [d1, d2, d3, d4, d5, d6] }
  | _ => none }
def WaterDoesWrongFalsely : Prop := waterDoesRow.holds Try.pinned (OpenSpec.ofChange waterDoesWrong)

/-- 'eyrielaw12.WaterSame': WHATEVER THE INPUT: true; the input reads as it did. -/
def waterSameSpec : ChangeSpec := { name := "waterSame", fn := fun _ => fun
  | [d1, d2] => { results := [.lit (.bool true)], args := [d1, d2] }
  | _ => none }
def waterSameRow : OpenClaim := { program := "ytadmhofipapmcaa", sum := "7d2c9f133e58788070030aac0698343a0ad3af63ec968c8605c08dfd8787c65e", func := "eyrie/eyrielaw12.WaterSame", spec := "waterSame", apart := false }
def WaterSameSaid : Prop := waterSameRow.holds Try.pinned (OpenSpec.ofChange waterSameSpec)

/-- ITS FALSE NEIGHBOUR: 'it returns false'. Refute it at one input. -/
def waterSameWrong : ChangeSpec := { name := "waterSame", fn := fun _ => fun
  | [d1, d2] => { results := [.lit (.bool false)], args := [d1, d2] }
  | _ => none }
def WaterSameWrongFalsely : Prop := waterSameRow.holds Try.pinned (OpenSpec.ofChange waterSameWrong)

/- THE SECOND FORM. 'bulk': how many values and letters a reading holds, each counted each time it is reached (what is shared counts as often as it is met; a slice's spare places count too). A statement '..UptoSaid' is the law's where the arguments, and the package variables that the reading takes, are together of bulk at most 1048576: NARROWER than '..Said'. Prove '..Said' where nothing that the law and all that it calls make is longer than what came in: it says more and counts as full. Else prove '..UptoSaid'. A law counts once. -/
mutual
def uptoBulk {H : Type} : DataW H → Nat
  | .lit (.string bytes) => bytes.length + 1
  | .lit _ => 1
  | .nil => 1
  | .ptr d => uptoBulk d + 1
  | .slice elems spare => uptoBulkAll elems + uptoBulkAll spare + 1
  | .agg parts => uptoBulkAll parts + 1
  | .iface _ d => uptoBulk d + 1
  | .map entries => uptoBulkEntries entries + 1
  | .held _ => 1
def uptoBulkAll {H : Type} : List (DataW H) → Nat
  | [] => 0
  | d :: r => uptoBulk d + uptoBulkAll r
def uptoBulkEntries {H : Type} : List (Lit × DataW H) → Nat
  | [] => 0
  | x :: r => uptoBulkEntry x + uptoBulkEntries r
def uptoBulkEntry {H : Type} : Lit × DataW H → Nat
  | (.string bytes, d) => bytes.length + uptoBulk d + 1
  | (_, d) => uptoBulk d + 1
 end
def uptoSmall : (H : Type) → List (DataW H) → Bool := fun _ ds => decide (uptoBulkAll ds ≤ 1048576)
def OpenSpec.upto (s : _root_.Go.ChangeSpec) : _root_.Go.OpenSpec := { _root_.Go.OpenSpec.ofChange s with cond := some uptoSmall }

/-- 'eyrielaw12.WaterLets', WHERE WHAT IT READS IS OF BULK AT MOST 1048576: true; the input reads as it did. -/
def waterLetsUptoRow : OpenClaim := { program := "ytadmhofipapmcaa", sum := "7d2c9f133e58788070030aac0698343a0ad3af63ec968c8605c08dfd8787c65e", func := "eyrie/eyrielaw12.WaterLets", spec := "waterLets", apart := false, narrowed := true }
def WaterLetsUptoSaid : Prop := waterLetsUptoRow.holds Try.pinned (OpenSpec.upto waterLetsSpec)

/-- 'eyrielaw12.WaterRises', WHERE WHAT IT READS IS OF BULK AT MOST 1048576: true; the input reads as it did. -/
def waterRisesUptoRow : OpenClaim := { program := "ytadmhofipapmcaa", sum := "7d2c9f133e58788070030aac0698343a0ad3af63ec968c8605c08dfd8787c65e", func := "eyrie/eyrielaw12.WaterRises", spec := "waterRises", apart := false, narrowed := true }
def WaterRisesUptoSaid : Prop := waterRisesUptoRow.holds Try.pinned (OpenSpec.upto waterRisesSpec)

/-- 'eyrielaw12.WaterDoes', WHERE WHAT IT READS IS OF BULK AT MOST 1048576: true; the input reads as it did. -/
def waterDoesUptoRow : OpenClaim := { program := "ytadmhofipapmcaa", sum := "7d2c9f133e58788070030aac0698343a0ad3af63ec968c8605c08dfd8787c65e", func := "eyrie/eyrielaw12.WaterDoes", spec := "waterDoes", apart := false, narrowed := true }
def WaterDoesUptoSaid : Prop := waterDoesUptoRow.holds Try.pinned (OpenSpec.upto waterDoesSpec)

/-- 'eyrielaw12.WaterSame', WHERE WHAT IT READS IS OF BULK AT MOST 1048576: true; the input reads as it did. -/
def waterSameUptoRow : OpenClaim := { program := "ytadmhofipapmcaa", sum := "7d2c9f133e58788070030aac0698343a0ad3af63ec968c8605c08dfd8787c65e", func := "eyrie/eyrielaw12.WaterSame", spec := "waterSame", apart := false, narrowed := true }
def WaterSameUptoSaid : Prop := waterSameUptoRow.holds Try.pinned (OpenSpec.upto waterSameSpec)

end Rows
end Go.Proofs.Ytadmhofipapmcaa
