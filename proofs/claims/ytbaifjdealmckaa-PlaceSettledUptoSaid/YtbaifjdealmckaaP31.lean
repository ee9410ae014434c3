/- What comes out of each operator: the document's by, and one operator's inputs. -/
import Derived.Test.YtbaifjdealmckaaP30
import Derived.Test.YtbaifjdealmckaaP26
import Derived.Test.YtbaifjdealmckaaC4
set_option linter.unusedVariables false
set_option linter.unusedSimpArgs false
set_option linter.unnecessarySimpa false
namespace Go.Proofs.Ytbaifjdealmckaa
open Go.RowKit Go.Shelf
attribute [local go_sem] Oper.semAt_some

theorem addV_one {a : Int} (h0 : 0 ≤ a) (h1 : a ≤ 9223372036854775807) : addV [a] = a := by
  unfold addV addGo addGo
  rw [if_neg (by omega)]
  omega
theorem insV_all (out : List Int) : ∀ (l : List Int), (∀ f ∈ l, 0 ≤ f) → insV out l = l.map (fun f => out.getD f.toNat 0)
  | [], _ => rfl
  | f :: l, h => by
    unfold insV
    rw [if_pos (h f (by simp)), insV_all out l (fun g hg => h g (by simp [hg]))]
    rfl
theorem prodGo_drop {l : List Int} {j : Nat} {f n : Int} (h : l[j]? = some f) : prodGo n (l.drop j) = prodGo (byV n f) (l.drop (j + 1)) := by
  obtain ⟨h1, h2⟩ := List.getElem?_eq_some_iff.1 h
  rw [List.drop_eq_getElem_cons h1, h2, prodGo]
end Go.Proofs.Ytbaifjdealmckaa
