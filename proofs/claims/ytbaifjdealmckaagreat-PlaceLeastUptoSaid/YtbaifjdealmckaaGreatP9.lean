/- Plans that may be: the program's Check. -/
import Derived.Test.YtbaifjdealmckaaGreatRows
import Derived.WalkKit
import Derived.WalkSpells
import Derived.WalkLawsBesides
import Derived.Deep.QuietTactic
import Derived.BigQuiet
import Derived.Lib.Hide
import Derived.BigRegion
import Derived.Shelf.Abstract
import Derived.Lib.ConvBytes
import Derived.StillTailTactics
import Derived.Laws.AppendOwnNone
import Derived.Deep.AppendLies
import Derived.Deep.Slices
import Derived.ProofKit
import Derived.SizedLaws
import Derived.Test.YtbaifjdealmckaaGreatP4
import Derived.Test.YtbaifjdealmckaaGreatP7
set_option linter.unusedVariables false
set_option linter.unusedSimpArgs false
set_option linter.unnecessarySimpa false
namespace Go.Proofs.YtbaifjdealmckaaGreat
open Go.RowKit Go.Shelf
attribute [local go_sem] Oper.semAt_some

def zeroOp : OpD := (0, { data := #[] }, { data := #[] }, [], [], 0, 0)
def opAt (x : PlanD) (k : Nat) : OpD := x.1.getD k zeroOp
def rowAt (x : PlanD) (k : Nat) : List Int := x.2.getD k []
/-- Whether an input is bad. -/
def badV (term : Bool) (i : Nat) (f : Int) : Bool := (term && !(f == -1)) || (!term && (decide (f < 0) || decide ((i : Int) ≤ f)))
def feeds (x : PlanD) (k : Nat) : Nat := (usesGo k 0 x.2).length
def placeOk (x : PlanD) (k : Nat) : Bool :=
  opV (opAt x k) && (((opAt x k).2.2.2.2.2.2 == ((rowAt x k).length : Int)) && (((opAt x k).2.2.2.2.2.1 == (opAt x 0).2.2.2.2.2.1) && (!(rowAt x k).any (badV ((opAt x k).1 == 1) k) &&
    ((((opAt x k).1 == 5) == ((k : Int) == (x.1.length : Int) - 1)) && (((k : Int) == (x.1.length : Int) - 1) || (!(((feeds x k : Nat) : Int) == 0) && decide (((feeds x k : Nat) : Int) ≤ 64)))))))
def planGo (x : PlanD) : Nat → Nat → Bool
  | 0, _ => true
  | r + 1, k => placeOk x k && planGo x r (k + 1)
def planV (x : PlanD) : Bool := decide (2 ≤ x.1.length) && (decide (x.1.length ≤ 32) && (decide (x.2.length = x.1.length) && planGo x x.1.length 0))
def errPlan (b : Bool) : Int := if b then 0 else 150

set_option maxRecDepth 100000 in
set_option maxHeartbeats 2000000 in
theorem bad_any (term : Bool) (i : Nat) (f : Int) (A B : Nat) (w : World) (hA : w.cell? ⟨A, 0, none⟩ = some (.bool term)) (hB : w.cell? ⟨B, 0, none⟩ = some (.int .i64 i)) :
    Calls Tryz.prog 60 #[.int .i64 f, .pointer (some ⟨A, 0, none⟩), .pointer (some ⟨B, 0, none⟩)] w fun e w' => e = .returned (.bool (badV term i f)) ∧ Kept [] w w' := by
  obtain ⟨G, hG⟩ : ∃ G, badV term i f = G := ⟨_, rfl⟩
  rw [hG]
  have HG : Hid (G = ((term && !(f == -1)) || (!term && (decide (f < 0) || decide ((i : Int) ≤ f))))) := hG.symm
  clear hG
  cases term with
  | true =>
    by_cases q : f = -1
    · subst q
      have hE : Hid (G = false) := by show _ = _; rw [HG.out]; rfl
      rw [hE.out]
      clear HG hE
      go_enter Tryz.func60, Tryz.ntmps60
      go_wp2_with fail
      go_ret
      exact ⟨rfl, Kept.refl _ _⟩
    · have q1 : (f == -1) = false := by rw [beq_eq_false_iff_ne]; exact q
      have q2 : (f != -1) = true := by unfold bne; rw [q1]; rfl
      have hE : Hid (G = true) := by show _ = _; rw [HG.out, q1]; rfl
      rw [hE.out]
      clear HG hE q
      go_enter Tryz.func60, Tryz.ntmps60
      go_wp2_with fail
      go_ret
      exact ⟨rfl, Kept.refl _ _⟩
  | false =>
    by_cases h0 : f < 0
    · have hE : Hid (G = true) := by show _ = _; rw [HG.out]; simp [h0]
      rw [hE.out]
      clear HG hE
      go_enter Tryz.func60, Tryz.ntmps60
      go_wp2_with fail
      go_ret
      exact ⟨rfl, Kept.refl _ _⟩
    · by_cases h1 : (i : Int) ≤ f
      · have hE : Hid (G = true) := by show _ = _; rw [HG.out]; simp [h1]
        rw [hE.out]
        clear HG hE
        go_enter Tryz.func60, Tryz.ntmps60
        go_wp2_with fail
        go_ret
        exact ⟨rfl, Kept.refl _ _⟩
      · have hE : Hid (G = false) := by show _ = _; rw [HG.out]; simp [h0, h1]
        rw [hE.out]
        clear HG hE
        go_enter Tryz.func60, Tryz.ntmps60
        go_wp2_with fail
        go_ret
        exact ⟨rfl, Kept.refl _ _⟩

end Go.Proofs.YtbaifjdealmckaaGreat
