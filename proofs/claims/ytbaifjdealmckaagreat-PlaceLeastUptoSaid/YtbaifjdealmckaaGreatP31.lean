/- What comes out of each operator: the document's by, and one operator's inputs. -/
import Derived.Test.YtbaifjdealmckaaGreatRows
import Derived.WalkKit
import Derived.WalkSpells
import Derived.WalkLawsBesides
import Derived.Deep.QuietTactic
import Derived.BigQuiet
import Derived.Lib.Hide
import Derived.BigRegion
import Derived.Shelf.Abstract
import Derived.Lib.ConvBytes
import Derived.Deep.RegionHeld3
import Derived.Deep.AppendLies
import Derived.Deep.DrawnRows
import Derived.Deep.DeepCutAuto
import Derived.Deep.CutBlock
import Derived.Laws.EntriesVeiled
import Derived.StillTailTactics
import Derived.Laws.AppendOwnNone
import Derived.Deep.Slices
import Derived.ProofKit
import Derived.SizedLaws
import Derived.Test.YtbaifjdealmckaaGreatC4
import Derived.Test.YtbaifjdealmckaaGreatP12
import Derived.Test.YtbaifjdealmckaaGreatP13
set_option linter.unusedVariables false
set_option linter.unusedSimpArgs false
set_option linter.unnecessarySimpa false
namespace Go.Proofs.YtbaifjdealmckaaGreat
open Go.RowKit Go.Shelf
attribute [local go_sem] Oper.semAt_some

set_option maxRecDepth 100000 in
set_option maxHeartbeats 1000000 in
theorem rby_any (a b : Int) (w : World) : Calls Tryz.prog 101 #[.int .i64 a, .int .i64 b] w fun e w' => e = .returned (.int .i64 (byV a b)) ∧ Kept [] w w' := by
  obtain ⟨g, hg⟩ : ∃ g, mulV [a, b] = g := ⟨_, rfl⟩
  obtain ⟨hg1, hg2⟩ : 0 ≤ g ∧ g ≤ 9223372036854775807 := by rw [← hg]; exact mulV_bd _
  have hq2 : Int.tdiv g 1024 = g / 1024 := Int.tdiv_eq_ediv_of_nonneg hg1
  have hw2 : IntKind.i64.wrap (g / 1024) = g / 1024 := by unfold IntKind.wrap; simp [IntKind.signed, IntKind.bits]; omega
  have HQ : Hid (byV a b = g / 1024) := by show _ = _; rw [byV, hg, hq2]
  have HM : Hid (∀ (W : World) (q : Nat), q = W.heap.size → Calls Tryz.prog 75 #[.slice (some ⟨q, 0, none⟩) 2 2] (W.alloc (.cells #[.int .i64 a, .int .i64 b] 2)) fun e w' => e = .returned (.int .i64 g) ∧ ∃ m, w' = (W.alloc (.cells #[.int .i64 a, .int .i64 b] 2)).drewN m) := fun W q hq => by
    subst hq
    have := rmul_any _ [a, b] _ (two_built (w := W) (a := a) (b := b) (t := 2))
    rwa [hg] at this
  rw [HQ.out]
  clear hg
  go_enter Tryz.func101, Tryz.ntmps101
  go_wp2_with fail
  refine (HM.out _ _ rfl).mono ?_
  rintro e w5 ⟨rfl, m, rfl⟩
  go_wp2_with fail
  go_ret
  exact ⟨rfl, ((Kept.refl [] w).alloc _).drewN m⟩

theorem addV_one {a : Int} (h0 : 0 ≤ a) (h1 : a ≤ 9223372036854775807) : addV [a] = a := by
  unfold addV addGo addGo
  rw [if_neg (by omega)]
  omega
theorem insV_all (out : List Int) : ∀ (l : List Int), (∀ f ∈ l, 0 ≤ f) → insV out l = l.map (fun f => out.getD f.toNat 0)
  | [], _ => rfl
  | f :: l, h => by
    unfold insV
    rw [if_pos (h f (by simp)), insV_all out l (fun g hg => h g (by simp [hg]))]
    rfl
theorem prodGo_drop {l : List Int} {j : Nat} {f n : Int} (h : l[j]? = some f) : prodGo n (l.drop j) = prodGo (byV n f) (l.drop (j + 1)) := by
  obtain ⟨h1, h2⟩ := List.getElem?_eq_some_iff.1 h
  rw [List.drop_eq_getElem_cons h1, h2, prodGo]
end Go.Proofs.YtbaifjdealmckaaGreat
