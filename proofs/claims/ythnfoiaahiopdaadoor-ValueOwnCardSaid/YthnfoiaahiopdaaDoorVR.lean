/- A value that comes in. -/
import Derived.Test.YthnfoiaahiopdaaDoorRows
import Derived.WalkKit
import Derived.WalkSpells
import Derived.WalkLawsBesides
import Derived.Deep.QuietTactic
import Derived.BigQuiet
import Derived.Lib.Hide
import Derived.Lib.ConvBytes
import Derived.Deep.Slices
import Derived.ProofKit
import Derived.SizedLaws
import Derived.Test.YthnfoiaahiopdaaDoorShelf
import Derived.Laws.BytesArg
import Derived.Laws.BitsLemmas
import Derived.Deep.RegionHeld3
import Derived.Deep.AppendLies
import Derived.Maps.AppendAt
import Derived.Test.YthnfoiaahiopdaaDoorReader
import Derived.Test.YthnfoiaahiopdaaDoorV8
import Derived.Test.YthnfoiaahiopdaaDoorV9
set_option linter.unusedVariables false
set_option linter.unusedSimpArgs false
namespace Go.Proofs.YthnfoiaahiopdaaDoor
open Go.RowKit Go.Shelf

def valR : Rk ValD := (Rk.int .i64).pair ((Rk.int .i64).pair Rk.str)
theorem intR_of : (Rk.int .i64).Of Tryd.prog 3 := Rk.of_int Tryd.underlying3
theorem int64R_of : (Rk.int .i64).Of Tryd.prog 2 := Rk.of_int Tryd.underlying2
theorem strR_of : Rk.str.Of Tryd.prog 9 := Rk.of_str Tryd.underlying9
theorem valR_of : valR.Of Tryd.prog 23 :=
  Rk.of_struct Tryd.underlying23 (Rk.fields_cons intR_of rfl (by kernel_rfl) (Rk.fields_cons int64R_of rfl (by kernel_rfl) (Rk.fields_one strR_of rfl (by kernel_rfl)))) (by kernel_rfl)
theorem valR_cells {w : World} {x : ValD} {c : Array Value} (h : valR.K w x c.toList) : c = #[.int .i64 x.1, .int .i64 x.2.1, .string x.2.2] ∧ x.2.2.size ≤ maxLen := by
  obtain ⟨_, _, e, ⟨rfl, _⟩, _, _, rfl, ⟨rfl, _⟩, ⟨rfl, hz⟩⟩ := h
  exact ⟨by cases c; simpa using e, hz⟩

theorem order_row (w : World) (c1 : Array Value) (x1 : ValD) (h1 : valR.K w x1 c1.toList) (c2 : Array Value) (x2 : ValD) (h2 : valR.K w x2 c2.toList) (c3 : Array Value) (x3 : ValD) (h3 : valR.K w x3 c3.toList) :
    Calls Tryd.prog 3 #[.agg c1, .agg c2, .agg c3] w fun e w' => e = .returned (.bool true) ∧ Below w.heap.size w w' := by
  obtain ⟨rfl, _⟩ := valR_cells h1
  obtain ⟨rfl, _⟩ := valR_cells h2
  obtain ⟨rfl, _⟩ := valR_cells h3
  exact (lawOrder_any _ _ _ _ _ _ _ _ _ w).mono fun e w' ⟨he, hk⟩ => ⟨he, hk.below⟩
theorem holds_row (w : World) (r : Int) (wr : (Lit.int .i64 r).wf = true) (c1 : Array Value) (x1 : ValD) (h1 : valR.K w x1 c1.toList) (c2 : Array Value) (x2 : ValD) (h2 : valR.K w x2 c2.toList) :
    Calls Tryd.prog 4 #[.int .i64 r, .agg c1, .agg c2] w fun e w' => e = .returned (.bool true) ∧ Below w.heap.size w w' := by
  obtain ⟨rfl, _⟩ := valR_cells h1
  obtain ⟨rfl, _⟩ := valR_cells h2
  exact (lawHolds_any _ _ _ _ _ _ _ w).mono fun e w' ⟨he, hk⟩ => ⟨he, hk.below⟩
theorem turns_row (w : World) (r : Int) (wr : (Lit.int .i64 r).wf = true) (c1 : Array Value) (x1 : ValD) (h1 : valR.K w x1 c1.toList) (c2 : Array Value) (x2 : ValD) (h2 : valR.K w x2 c2.toList) :
    Calls Tryd.prog 5 #[.int .i64 r, .agg c1, .agg c2] w fun e w' => e = .returned (.bool true) ∧ Below w.heap.size w w' := by
  obtain ⟨rfl, _⟩ := valR_cells h1
  obtain ⟨rfl, _⟩ := valR_cells h2
  exact (turns_any _ _ _ _ _ _ _ w).mono fun e w' ⟨he, hk⟩ => ⟨he, hk.below⟩

end Go.Proofs.YthnfoiaahiopdaaDoor
