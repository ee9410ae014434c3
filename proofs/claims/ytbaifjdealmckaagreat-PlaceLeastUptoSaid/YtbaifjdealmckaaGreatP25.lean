/- What comes out of a sequence of two terms is what the document fixes: begun. -/
import Derived.Test.YtbaifjdealmckaaGreatP24
import Derived.Test.YtbaifjdealmckaaGreatP15
set_option linter.unusedVariables false
set_option linter.unusedSimpArgs false
set_option linter.unnecessarySimpa false
namespace Go.Proofs.YtbaifjdealmckaaGreat
open Go.RowKit Go.Shelf
attribute [local go_sem] Oper.semAt_some

theorem RdI.built (W : World) (l : List Int) (t : TypeId) (k : IntKind) (hl : l.length ≤ 100) (g : Nat) (hg : g = W.heap.size) : RdI (W.alloc (.cells (l.map (Value.int k)).toArray t)) k (.slice (some ⟨g, 0, none⟩) l.length l.length) l := by
  subst hg
  refine ⟨_, _, rfl, by unfold maxLen; omega, fun _ => ⟨W.heap.size, 0, rfl, fun i x hx => ?_⟩⟩
  rw [Nat.zero_add, (Blk.new W (l.map (Value.int k)).toArray t).cell i]
  simp [hx]

abbrev begunX : PlanD := (begunO.map bareD, begunF)
theorem begun_plan : planV begunX = true := by kernel_rfl
theorem begun_even : evenE begunX 2 = 0 := by kernel_rfl
theorem begun_rates : evenV begunX 2 = ([1024, 1024], ([1024, 1024, 1024, 1024], [1024, 1024, 1024, 1024])) := by kernel_rfl
abbrev begunR : RatesD := ([1024, 1024], ([1024, 1024, 1024, 1024], [1024, 1024, 1024, 1024]))
theorem begun_check : checkE begunX begunR = 0 := by kernel_rfl
theorem begun_out : outV begunX begunR = [2048, 2048, 4096, 4096] := by kernel_rfl
theorem begun_top : mulV [4611686018427387904, 3] = 9223372036854775807 := by kernel_rfl
def BegunPost (w : World) : Ending → World → Prop := fun e w' => e = .returned (.bool true) ∧ Kept [] w w'
end Go.Proofs.YtbaifjdealmckaaGreat
