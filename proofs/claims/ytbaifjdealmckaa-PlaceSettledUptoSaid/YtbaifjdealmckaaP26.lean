/- How many come on the inputs of each operator: the program's Held. -/
import Derived.Test.YtbaifjdealmckaaP15
set_option linter.unusedVariables false
set_option linter.unusedSimpArgs false
set_option linter.unnecessarySimpa false
namespace Go.Proofs.Ytbaifjdealmckaa
open Go.RowKit Go.Shelf
attribute [local go_sem] Oper.semAt_some

theorem outGo_len (x : PlanD) (r : RatesD) : ∀ (m : Nat) (L : List Int), (outGo x r m L).length = L.length + m
  | 0, L => rfl
  | m + 1, L => by rw [outGo, outGo_len x r m]; simp; omega
theorem outV_len (x : PlanD) (r : RatesD) : (outV x r).length = x.1.length := by rw [outV, outGo_len]; simp
def heldAt (x : PlanD) (out : List Int) (k : Nat) : Int := addV (insV out (rowAt x k))
def heldV (x : PlanD) (r : RatesD) : List Int := (List.range x.1.length).map (heldAt x (outV x r))

end Go.Proofs.Ytbaifjdealmckaa
