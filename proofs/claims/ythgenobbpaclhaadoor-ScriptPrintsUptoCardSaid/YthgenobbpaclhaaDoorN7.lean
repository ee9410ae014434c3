/- Names, walked: the program's. -/
import Derived.Test.YthgenobbpaclhaaDoorRows
import Derived.WalkKit
import Derived.WalkSpells
import Derived.WalkLawsBesides
import Derived.Deep.QuietTactic
import Derived.BigQuiet
import Derived.Lib.Hide
import Derived.Lib.ConvBytes
import Derived.Deep.Slices
import Derived.ProofKit
import Derived.SizedLaws
import Derived.Test.YthgenobbpaclhaaDoorShelf
import Derived.Test.YthgenobbpaclhaaDoorBase
import Derived.Test.YthgenobbpaclhaaDoorN5
set_option linter.unusedVariables false
set_option linter.unusedSimpArgs false
set_option linter.unnecessarySimpa false
namespace Go.Proofs.YthgenobbpaclhaaDoor
open Go.RowKit Go.Shelf

theorem kept_bytes (w : World) (e : TypeId) (s : ByteArray) : Kept [] w (Lib.bytesWorld w e s) :=
  ⟨rfl, rfl, rfl, by rw [Lib.bytesWorld_size]; omega, fun k hk _ => Lib.bytesWorld_at_old w e s k hk⟩

theorem nameV_long {s : ByteArray} {n : Nat} (hn : s.size = n) : nameV s = (decide (n ≠ 0) && decide (n ≤ 32) && namGo s n 0) := by subst hn; rfl

end Go.Proofs.YthgenobbpaclhaaDoor
