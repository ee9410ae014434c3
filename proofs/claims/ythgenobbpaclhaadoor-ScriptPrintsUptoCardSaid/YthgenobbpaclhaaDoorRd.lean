/- Slices of whole numbers that are read. -/
import Derived.StillTailTactics
import Derived.Laws.AppendOwnNone
import Derived.Deep.AppendLies
import Derived.Test.YthgenobbpaclhaaDoorRows
import Derived.WalkKit
import Derived.WalkSpells
import Derived.WalkLawsBesides
import Derived.Deep.QuietTactic
import Derived.BigQuiet
import Derived.Lib.Hide
import Derived.Deep.Slices
import Derived.ProofKit
import Derived.SizedLaws
import Derived.Test.YthgenobbpaclhaaDoorReader
set_option linter.unusedVariables false
set_option linter.unusedSimpArgs false
namespace Go.Proofs.YthgenobbpaclhaaDoor
open Go.RowKit

/-- v reads as the numbers xs. -/
def RdI (w : World) (k : IntKind) (v : Value) (xs : List Int) : Prop :=
  ∃ A c, v = .slice A xs.length c ∧ xs.length ≤ maxLen ∧ (xs ≠ [] → ∃ b off, A = some ⟨b, off, none⟩ ∧ ∀ i x, xs[i]? = some x → w.cell? ⟨b, off + i, none⟩ = some (.int k x))
theorem RdI.kept {S : List Nat} {w w' : World} {k : IntKind} {v : Value} {xs : List Int} (h : RdI w k v xs) (hk : Kept S w w') (hs : ∀ b, v.ownBlock = some b → b ∉ S) : RdI w' k v xs := by
  obtain ⟨A, c, rfl, hm, h⟩ := h
  refine ⟨A, c, rfl, hm, fun hn => ?_⟩
  obtain ⟨b, off, rfl, hc⟩ := h hn
  exact ⟨b, off, rfl, fun i x hx => hk.cell (hs b rfl) (hc i x hx)⟩
theorem RdI.keep {w w' : World} {k : IntKind} {v : Value} {xs : List Int} (h : RdI w k v xs) (hk : Kept [] w w') : RdI w' k v xs := h.kept hk (by simp)
theorem RdI.drewN {w : World} {k : IntKind} {v : Value} {xs : List Int} (h : RdI w k v xs) (n : Nat) : RdI (w.drewN n) k v xs := h
theorem RdI.of_rk {w : World} {k : IntKind} {v : Value} {xs : List Int} (h : (Rk.slice (Rk.int k)).K w xs [v]) : RdI w k v xs := by
  obtain ⟨A, c, he, h1, h2, _, hE⟩ := h
  simp only [List.cons.injEq, and_true] at he
  subst he
  refine ⟨A, c, rfl, by omega, fun hn => ?_⟩
  obtain ⟨b, off, rfl, hx⟩ := hE hn
  refine ⟨b, off, rfl, fun i x hxi => ?_⟩
  obtain ⟨cs, ⟨rfl, _⟩, hc⟩ := hx i x hxi
  have := hc 0 (by show 0 < 1; omega)
  simpa [Rk.int] using this
theorem RdI.of_own {w : World} {base : Nat} {e : TypeId} {k : IntKind} {v : Value} {n : Nat} {xs : List Int} (h : w.ownsRow base e 1 v n (xs.map (.int k))) : RdI w k v xs ∧ n = xs.length := by
  have hl : n = xs.length := by have := h.1; simpa using this.symm
  subst hl
  refine ⟨?_, rfl⟩
  rcases h.2 with ⟨rfl, h0⟩ | ⟨g, cap, cur, rfl, _, _, h1, h2, _, _⟩
  · exact ⟨none, 0, by rw [h0], by rw [h0]; exact Nat.zero_le _, fun hn => absurd (List.eq_nil_of_length_eq_zero h0) hn⟩
  · refine ⟨_, cap, rfl, by omega, fun hn => ⟨g, 0, rfl, fun i x hx => ?_⟩⟩
    have := h.cells (g := g) rfl i (.int k x) (by simp [hx])
    rw [Nat.zero_add]
    have ha : (⟨g, 0, none⟩ : Addr).add i = ⟨g, i, none⟩ := by unfold Addr.add; split <;> simp_all
    rwa [ha] at this
theorem RdI.cell {w : World} {k : IntKind} {b off n c : Nat} {xs : List Int} (h : RdI w k (.slice (some ⟨b, off, none⟩) n c) xs) (i : Nat) (x : Int) (hx : xs[i]? = some x) : w.cell? ⟨b, off + i, none⟩ = some (.int k x) := by
  obtain ⟨A, c', he, _, h⟩ := h
  injection he with h1 h2 h3
  subst h1 h3
  obtain ⟨b', o', he, hc⟩ := h (by intro e; subst e; simp at hx)
  injection he with he
  injection he with h4 h5
  subst h4 h5
  exact hc i x hx
theorem ownsRow_keep {S : List Nat} {w w' : World} {base : Nat} {e : TypeId} {size : Nat} {v : Value} {n : Nat} {xs : List Value} (h : w.ownsRow base e size v n xs) (hk : Kept S w w') (hs : ∀ b, v.ownBlock = some b → b ∉ S) : w'.ownsRow base e size v n xs := by
  refine ⟨h.1, ?_⟩
  rcases h.2 with h0 | ⟨g, cap, cur, rfl, h1, h2, h3⟩
  · exact .inl h0
  · exact .inr ⟨g, cap, cur, rfl, h1, by rw [hk.block g (Array.getElem?_eq_some_iff.1 h2).1 (hs g rfl)]; exact h2, h3⟩

end Go.Proofs.YthgenobbpaclhaaDoor
