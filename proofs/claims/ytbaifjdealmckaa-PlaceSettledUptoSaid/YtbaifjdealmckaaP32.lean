/- What comes out of each operator: the document's Out. -/
import Derived.Test.YtbaifjdealmckaaP31
set_option linter.unusedVariables false
set_option linter.unusedSimpArgs false
set_option linter.unnecessarySimpa false
namespace Go.Proofs.Ytbaifjdealmckaa
open Go.RowKit Go.Shelf
attribute [local go_sem] Oper.semAt_some

theorem opN_term {x : PlanD} {r : RatesD} {L : List Int} {k : Nat} (h : (opAt x k).1 = 1) : opN x r L k = byV (addV r.1) (r.2.1.getD k 0) := by
  unfold opN opL
  rw [if_neg (by omega), if_pos h]
  exact addV_one (byV_bd _ _).1 (byV_bd _ _).2
theorem opN_prod {x : PlanD} {r : RatesD} {L : List Int} {k : Nat} (h : (opAt x k).1 = 2 ∨ (opAt x k).1 = 3) : opN x r L k = prodV (insV L (rowAt x k)) := by
  unfold opN opL
  rw [if_pos h, if_neg (by omega)]
theorem opN_sum {x : PlanD} {r : RatesD} {L : List Int} {k : Nat} (h1 : (opAt x k).1 ≠ 1) (h : ¬ ((opAt x k).1 = 2 ∨ (opAt x k).1 = 3)) : opN x r L k = addV (insV L (rowAt x k)) := by
  unfold opN opL
  rw [if_neg h, if_neg h1]

/- One operator's inputs, put together. slots: the list and the counter; q, qi: their names. -/
/- The last statement of a round: by what passes, and put to the list. wz: the world; nv: the number. -/

end Go.Proofs.Ytbaifjdealmckaa
