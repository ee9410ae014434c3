/- A value that comes in. -/
import Derived.Test.YthgenobbpaclhaaDoorRows
import Derived.WalkKit
import Derived.WalkSpells
import Derived.WalkLawsBesides
import Derived.Deep.QuietTactic
import Derived.BigQuiet
import Derived.Lib.Hide
import Derived.Lib.ConvBytes
import Derived.Deep.Slices
import Derived.ProofKit
import Derived.SizedLaws
import Derived.Test.YthgenobbpaclhaaDoorShelf
import Derived.Laws.BytesArg
import Derived.Laws.BitsLemmas
import Derived.Deep.RegionHeld3
import Derived.Deep.AppendLies
import Derived.Maps.AppendAt
import Derived.Test.YthgenobbpaclhaaDoorReader
import Derived.Test.YthgenobbpaclhaaDoorV1
set_option linter.unusedVariables false
set_option linter.unusedSimpArgs false
namespace Go.Proofs.YthgenobbpaclhaaDoor
open Go.RowKit Go.Shelf

def valR : Rk ValD := (Rk.int .i64).pair ((Rk.int .i64).pair Rk.str)
theorem intR_of : (Rk.int .i64).Of Tryd.prog 3 := Rk.of_int Tryd.underlying3
theorem int64R_of : (Rk.int .i64).Of Tryd.prog 2 := Rk.of_int Tryd.underlying2
theorem strR_of : Rk.str.Of Tryd.prog 9 := Rk.of_str Tryd.underlying9
theorem valR_of : valR.Of Tryd.prog 59 :=
  Rk.of_struct Tryd.underlying59 (Rk.fields_cons intR_of rfl (by kernel_rfl) (Rk.fields_cons int64R_of rfl (by kernel_rfl) (Rk.fields_one strR_of rfl (by kernel_rfl)))) (by kernel_rfl)
theorem valR_cells {w : World} {x : ValD} {c : Array Value} (h : valR.K w x c.toList) : c = #[.int .i64 x.1, .int .i64 x.2.1, .string x.2.2] ∧ x.2.2.size ≤ maxLen := by
  obtain ⟨_, _, e, ⟨rfl, _⟩, _, _, rfl, ⟨rfl, _⟩, ⟨rfl, hz⟩⟩ := h
  exact ⟨by cases c; simpa using e, hz⟩

end Go.Proofs.YthgenobbpaclhaaDoor
