/- What comes out of each operator: the value, and what a plan that may be says of a place. -/
import Derived.Test.YtbaifjdealmckaaGreatRows
import Derived.WalkKit
import Derived.WalkSpells
import Derived.WalkLawsBesides
import Derived.Deep.QuietTactic
import Derived.BigQuiet
import Derived.Lib.Hide
import Derived.BigRegion
import Derived.Shelf.Abstract
import Derived.Lib.ConvBytes
import Derived.StillTailTactics
import Derived.Laws.AppendOwnNone
import Derived.Deep.AppendLies
import Derived.Deep.Slices
import Derived.ProofKit
import Derived.SizedLaws
import Derived.Test.YtbaifjdealmckaaGreatP11
import Derived.Test.YtbaifjdealmckaaGreatP12
import Derived.Test.YtbaifjdealmckaaGreatP13
set_option linter.unusedVariables false
set_option linter.unusedSimpArgs false
set_option linter.unnecessarySimpa false
namespace Go.Proofs.YtbaifjdealmckaaGreat
open Go.RowKit Go.Shelf

def opL (x : PlanD) (r : RatesD) (out : List Int) (k : Nat) : List Int :=
  if (opAt x k).1 = 1 then [byV (addV r.1) (r.2.1.getD k 0)] else insV out (rowAt x k)
def opN (x : PlanD) (r : RatesD) (out : List Int) (k : Nat) : Int :=
  if (opAt x k).1 = 2 ∨ (opAt x k).1 = 3 then prodV (opL x r out k) else addV (opL x r out k)
def outStep (x : PlanD) (r : RatesD) (out : List Int) (k : Nat) : Int := byV (opN x r out k) (r.2.2.getD k 0)
def outGo (x : PlanD) (r : RatesD) : Nat → List Int → List Int
  | 0, out => out
  | m + 1, out => outGo x r m (out ++ [outStep x r out out.length])
def outV (x : PlanD) (r : RatesD) : List Int := outGo x r x.1.length []
theorem outGo_at (x : PlanD) (r : RatesD) (n k : Nat) (L : List Int) (h : k < n) (hl : L.length = k) : outGo x r (n - k) L = outGo x r (n - (k + 1)) (L ++ [outStep x r L k]) := by
  rw [show n - k = (n - (k + 1)) + 1 by omega, outGo, hl]

theorem plan_place {x : PlanD} (h : planV x = true) : 2 ≤ x.1.length ∧ x.1.length ≤ 32 ∧ x.2.length = x.1.length ∧ ∀ k, k < x.1.length → placeOk x k = true := by
  unfold planV at h
  simp only [Bool.and_eq_true, decide_eq_true_eq] at h
  obtain ⟨h1, h2, h3, h4⟩ := h
  refine ⟨h1, h2, h3, ?_⟩
  have key : ∀ k, k ≤ x.1.length → planGo x (x.1.length - k) k = true := by
    intro k
    induction k with
    | zero => intro _; exact h4
    | succ k ih =>
      intro hk
      have := ih (by omega)
      rw [planGo_at x _ k (by omega), Bool.and_eq_true] at this
      exact this.2
  intro k hk
  have := key k (by omega)
  rw [planGo_at x _ k hk, Bool.and_eq_true] at this
  exact this.1

structure PlaceIs (x : PlanD) (k : Nat) : Prop where
  kind : (opAt x k).1 = 1 ∨ (opAt x k).1 = 2 ∨ (opAt x k).1 = 3 ∨ (opAt x k).1 = 4 ∨ (opAt x k).1 = 5
  below : ∀ f ∈ rowAt x k, f < (k : Int)
  low : (opAt x k).1 ≠ 1 → ∀ f ∈ rowAt x k, 0 ≤ f
  term : (opAt x k).1 = 1 → ∀ f ∈ rowAt x k, f = -1
  two : (opAt x k).1 = 2 ∨ (opAt x k).1 = 3 → 2 ≤ (rowAt x k).length
  one : 1 ≤ (rowAt x k).length
theorem place_is {x : PlanD} {k : Nat} (h : placeOk x k = true) : PlaceIs x k := by
  unfold placeOk at h
  simp only [Bool.and_eq_true, Bool.not_eq_true', beq_iff_eq] at h
  obtain ⟨h1, h2, _, h4, _⟩ := h
  have hk : kindV (opAt x k) = true := by
    unfold opV at h1
    simp only [Bool.and_eq_true] at h1
    exact h1.2
  unfold kindV at hk
  rw [List.any_eq_false] at h4
  refine ⟨?_, ?_, ?_, ?_, ?_, ?_⟩
  · by_cases a1 : (opAt x k).1 = 1
    · omega
    · by_cases a5 : (opAt x k).1 = 5
      · omega
      · rw [if_neg a1, if_neg a5] at hk
        by_cases a : (opAt x k).1 = 2 ∨ (opAt x k).1 = 3 ∨ (opAt x k).1 = 4
        · omega
        · rw [if_neg a] at hk; cases hk
  · intro f hf
    have := h4 f hf
    unfold badV at this
    by_cases a1 : (opAt x k).1 = 1
    · simp [a1] at this; omega
    · simp [a1] at this; omega
  · intro a1 f hf
    have := h4 f hf
    unfold badV at this
    simp [a1] at this; omega
  · intro a1 f hf
    have := h4 f hf
    unfold badV at this
    simp [a1] at this; omega
  · intro a
    rw [if_neg (by omega), if_neg (by omega), if_pos (by omega)] at hk
    simp only [Bool.and_eq_true, decide_eq_true_eq] at hk
    omega
  · by_cases a1 : (opAt x k).1 = 1
    · rw [if_pos a1] at hk
      simp only [Bool.and_eq_true, decide_eq_true_eq] at hk
      omega
    · by_cases a5 : (opAt x k).1 = 5
      · rw [if_neg a1, if_pos a5] at hk
        simp only [Bool.and_eq_true, decide_eq_true_eq] at hk
        omega
      · rw [if_neg a1, if_neg a5] at hk
        by_cases a : (opAt x k).1 = 2 ∨ (opAt x k).1 = 3 ∨ (opAt x k).1 = 4
        · rw [if_pos a] at hk
          simp only [Bool.and_eq_true, decide_eq_true_eq] at hk
          omega
        · rw [if_neg a] at hk; cases hk

theorem insV_len (out : List Int) : ∀ (l : List Int), (∀ f ∈ l, 0 ≤ f) → (insV out l).length = l.length
  | [], _ => rfl
  | f :: l, h => by
    unfold insV
    rw [if_pos (h f (by simp)), List.length_cons, List.length_cons, insV_len out l (fun g hg => h g (by simp [hg]))]
theorem row_fromLen : ∀ {F : List (List Int)} {k : Nat} {row : List Int}, F[k]? = some row → row.length ≤ fromLen F
  | [], k, row, h => by simp at h
  | r :: F, 0, row, h => by
    injection h with h
    subst h
    unfold fromLen
    simp
  | r :: F, k + 1, row, h => by
    have := row_fromLen (F := F) (k := k) (row := row) (by simpa using h)
    unfold fromLen at *
    simp
    omega
theorem ratesOk_is {n : Nat} {r : RatesD} (h : ratesOk n r = true) : 1 ≤ r.1.length ∧ r.1.length ≤ 12 ∧ r.2.1.length = n ∧ r.2.2.length = n := by
  unfold ratesOk at h
  simp only [Bool.and_eq_true, decide_eq_true_eq] at h
  exact ⟨h.1, h.2.1, h.2.2.1, h.2.2.2.1⟩
theorem checkE_zero {x : PlanD} {r : RatesD} (h : checkE x r = 0) : planV x = true ∧ ratesOk x.1.length r = true := by
  unfold checkE errRates at h
  cases hp : planV x with
  | false => rw [hp] at h; simp at h
  | true =>
    rw [hp] at h
    cases hr : ratesOk x.1.length r with
    | false => rw [hr] at h; simp at h
    | true => exact ⟨rfl, rfl⟩

end Go.Proofs.YtbaifjdealmckaaGreat
