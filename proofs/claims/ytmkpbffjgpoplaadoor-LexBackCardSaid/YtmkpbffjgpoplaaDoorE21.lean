/- Lists of words that are read; whether two are the same: the document's. -/
import Derived.Test.YtmkpbffjgpoplaaDoorRows
import Derived.WalkKit
import Derived.WalkSpells
import Derived.WalkLawsBesides
import Derived.Deep.QuietTactic
import Derived.BigQuiet
import Derived.Lib.Hide
import Derived.Lib.ConvBytes
import Derived.Deep.Slices
import Derived.ProofKit
import Derived.SizedLaws
import Derived.Test.YtmkpbffjgpoplaaDoorShelf
import Derived.Laws.BytesArg
import Derived.Laws.BitsLemmas
import Derived.Deep.RegionHeld3
import Derived.Deep.AppendLies
import Derived.Maps.AppendAt
import Derived.Lib.ItoaLen
import Derived.Laws.Runes
import Derived.Laws.Concat
import Derived.Laws.Cover4
import Derived.Lib.SmallJoins
import Derived.Laws.AppendOwnNone
import Derived.Deep.DeepCutAuto
import Derived.Test.YtmkpbffjgpoplaaDoorE10
set_option linter.unusedVariables false
set_option linter.unusedSimpArgs false
set_option linter.unnecessarySimpa false
namespace Go.Proofs.YtmkpbffjgpoplaaDoor
open Go.RowKit Go.Shelf
attribute [local go_sem] Oper.semAt_some

/-- v reads as the words L. -/
def RdT (w : World) (v : Value) (L : List TokD) : Prop := ∃ A c, v = .slice A L.length c ∧ L.length ≤ 1048576 ∧ (L ≠ [] → ∃ b, A = some ⟨b, 0, none⟩ ∧ ∀ i t, L[i]? = some t → ∀ j x, (tokC t)[j]? = some x → w.cell? ⟨b, i * 6 + j, none⟩ = some x)
theorem RdT.keep {w w' : World} {v : Value} {L : List TokD} (h : RdT w v L) (hk : Kept [] w w') : RdT w' v L := by
  obtain ⟨A, c, rfl, hm, h⟩ := h
  refine ⟨A, c, rfl, hm, fun hn => ?_⟩
  obtain ⟨b, rfl, hc⟩ := h hn
  exact ⟨b, rfl, fun i t ht j x hx => hk.cell (by simp) (hc i t ht j x hx)⟩
theorem cT_get : ∀ (L : List TokD) (i : Nat) (t : TokD), L[i]? = some t → ∀ (j : Nat) (x : Value), (tokC t)[j]? = some x → (cT L)[i * 6 + j]? = some x
  | [], i, t, h, _, _, _ => by simp at h
  | t0 :: L, 0, t, h, j, x, hx => by
    simp at h
    subst h
    have hj : j < (tokC t0).length := by
      rcases Nat.lt_or_ge j (tokC t0).length with h1 | h1
      · exact h1
      · rw [List.getElem?_eq_none h1] at hx; cases hx
    unfold cT
    rw [List.flatMap_cons, List.getElem?_append_left (by simpa using hj)]
    simpa using hx
  | t0 :: L, i + 1, t, h, j, x, hx => by
    have ih := cT_get L i t (by simpa using h) j x hx
    unfold cT at ih ⊢
    have hl : (tokC t0).length = 6 := rfl
    rw [List.flatMap_cons, List.getElem?_append_right (by omega), hl, show (i + 1) * 6 + j - 6 = i * 6 + j by omega]
    exact ih
theorem RdT.of_own {w : World} {base : Nat} {e : TypeId} {v : Value} {L : List TokD} (h : w.ownsRow base e 6 v L.length (cT L)) (hm : L.length ≤ 1048576) : RdT w v L := by
  obtain ⟨A, c, rfl⟩ := own_len h
  refine ⟨A, c, rfl, hm, fun hn => ?_⟩
  rcases h.2 with ⟨_, h0⟩ | ⟨g, cap, cur, he, _⟩
  · exact absurd (List.eq_nil_of_length_eq_zero h0) hn
  · injection he with h1 h2 h3
    subst h1
    refine ⟨g, rfl, fun i t ht j x hx => ?_⟩
    have hc := h.cells (g := g) rfl (i * 6 + j) x (cT_get L i t ht j x hx)
    have ha : (⟨g, 0, none⟩ : Addr).add (i * 6 + j) = ⟨g, i * 6 + j, none⟩ := by unfold Addr.add; split <;> simp_all
    rwa [ha] at hc

end Go.Proofs.YtmkpbffjgpoplaaDoor
