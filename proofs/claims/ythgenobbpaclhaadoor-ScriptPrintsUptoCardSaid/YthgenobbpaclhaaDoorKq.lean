/- A region that draws its order, whose operations only read and whose calls keep what was there: one walk serves every order. -/
import Derived.Test.YthgenobbpaclhaaDoorRows
import Derived.WalkKit
import Derived.WalkSpells
import Derived.WalkLawsBesides
import Derived.Deep.QuietTactic
import Derived.BigQuiet
import Derived.Lib.Hide
import Derived.Test.YthgenobbpaclhaaDoorBase
set_option linter.unusedVariables false
set_option linter.unusedSimpArgs false
namespace Go.Proofs.YthgenobbpaclhaaDoor
open Go.RowKit

/-- A world of which S holds. -/
structure SW (S : World → Prop) where
  to : World
  ok : S to
/-- What stands where old blocks stay. -/
def Stays (S : World → Prop) : Prop := ∀ a b, S a → Kept [] a b → S b

theorem stays_kept (w : World) : Stays (Kept [] w) := fun _ _ h hk => h.trans hk

theorem wp_region_sw {P : Program} {id : Nat} {Q : Exit → Act → World → Prop} {a : Act} {w : World} {l : List Oper} (S : World → Prop) (hS : Stays S) (h0 : S w)
    (hm : P.follows .mixedOrders = true) (hB : Region.lexB .any l.toArray = true)
    (h : Nonempty (SW S) → wpQuiet P l.toArray (fun w' => ∃ s : SW S, w' = s.to) (fun a' => ∀ w', S w' → Q .normal a' w') l a) : (Code.region id l.toArray true).wp P Q a w := by
  refine wp_region_quiet (C := fun w' => ∃ s : SW S, w' = s.to) hm hB ⟨⟨_, hS _ _ h0 ((Kept.refl [] w).drewN 1)⟩, rfl⟩ ?_
  have hq := h ⟨⟨w, h0⟩⟩
  have e : (fun a' : Act => ∀ w', (∃ s : SW S, w' = s.to) → Q .normal a' w') = (fun a' => ∀ w', S w' → Q .normal a' w') := by
    funext a'
    apply propext
    constructor
    · intro k w' hw'; exact k w' ⟨⟨w', hw'⟩, rfl⟩
    · rintro k w' ⟨s, rfl⟩; exact k _ s.ok
  rw [e]
  simpa using hq

/-- A call that hands back a value and keeps what was there. -/
theorem SW.calls {P : Program} {f : FuncId} {args : Array Value} {S : World → Prop} (hS : Stays S) {s : SW S} {v : Value}
    (h : Calls P f args s.to fun e w' => e = .returned v ∧ Kept [] s.to w') : Calls P f args s.to fun e w'' => e = .returned v ∧ ∃ t : SW S, w'' = t.to :=
  h.mono fun _ w' ⟨he, hk⟩ => ⟨he, ⟨w', hS _ _ s.ok hk⟩, rfl⟩
theorem SW.calls_of {P : Program} {f : FuncId} {args : Array Value} {S : World → Prop} (hS : Stays S) {s : SW S} {v : Value}
    (h : ∀ W, S W → Calls P f args W fun e w' => e = .returned v ∧ Kept [] W w') : Calls P f args s.to fun e w'' => e = .returned v ∧ ∃ t : SW S, w'' = t.to :=
  SW.calls hS (h s.to s.ok)
theorem SW.calls_same {P : Program} {f : FuncId} {args : Array Value} {S : World → Prop} {s : SW S} {v : Value}
    (h : Calls P f args s.to fun e w' => e = .returned v ∧ s.to = w') : Calls P f args s.to fun e w'' => e = .returned v ∧ ∃ t : SW S, w'' = t.to :=
  h.mono fun _ _ ⟨he, hk⟩ => ⟨he, s, hk.symm⟩

end Go.Proofs.YthgenobbpaclhaaDoor
