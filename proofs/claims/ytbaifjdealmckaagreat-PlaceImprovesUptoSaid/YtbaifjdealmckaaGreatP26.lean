/- How many come on the inputs of each operator: the program's Held. -/
import Derived.Test.YtbaifjdealmckaaGreatRows
import Derived.WalkKit
import Derived.WalkSpells
import Derived.WalkLawsBesides
import Derived.Deep.QuietTactic
import Derived.BigQuiet
import Derived.Lib.Hide
import Derived.BigRegion
import Derived.Shelf.Abstract
import Derived.Lib.ConvBytes
import Derived.Deep.RegionHeld3
import Derived.Deep.AppendLies
import Derived.Deep.DrawnRows
import Derived.Deep.DeepCutAuto
import Derived.Deep.CutBlock
import Derived.Laws.EntriesVeiled
import Derived.StillTailTactics
import Derived.Laws.AppendOwnNone
import Derived.Deep.Slices
import Derived.ProofKit
import Derived.SizedLaws
import Derived.Test.YtbaifjdealmckaaGreatP14
set_option linter.unusedVariables false
set_option linter.unusedSimpArgs false
set_option linter.unnecessarySimpa false
namespace Go.Proofs.YtbaifjdealmckaaGreat
open Go.RowKit Go.Shelf
attribute [local go_sem] Oper.semAt_some

theorem outGo_len (x : PlanD) (r : RatesD) : ∀ (m : Nat) (L : List Int), (outGo x r m L).length = L.length + m
  | 0, L => rfl
  | m + 1, L => by rw [outGo, outGo_len x r m]; simp; omega
theorem outV_len (x : PlanD) (r : RatesD) : (outV x r).length = x.1.length := by rw [outV, outGo_len]; simp
def heldAt (x : PlanD) (out : List Int) (k : Nat) : Int := addV (insV out (rowAt x k))
def heldV (x : PlanD) (r : RatesD) : List Int := (List.range x.1.length).map (heldAt x (outV x r))

end Go.Proofs.YtbaifjdealmckaaGreat
