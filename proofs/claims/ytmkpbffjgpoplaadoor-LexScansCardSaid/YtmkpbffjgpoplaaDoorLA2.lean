/- LexScans: the row's walk. -/
import Derived.Test.YtmkpbffjgpoplaaDoorLA
import Derived.Test.YtmkpbffjgpoplaaDoorVL
set_option linter.unusedVariables false
namespace Go.Proofs.YtmkpbffjgpoplaaDoor
open Go.RowKit Go.Shelf
theorem scans_row (w : World) (hL : laidMetH Tryd.prog Rows.lexScansRow.laid w) (s : ByteArray) (hs : s.size ≤ 140737488351232) :
    Calls Tryd.prog 3 #[.string s] w fun e w' => e = .returned (.bool true) ∧ Below w.heap.size w w' :=
  (lawScans_any s (by unfold maxLen; omega) w (vars_of_laid hL)).mono fun e w' ⟨he, hk⟩ => ⟨he, hk.below⟩

end Go.Proofs.YtmkpbffjgpoplaaDoor
