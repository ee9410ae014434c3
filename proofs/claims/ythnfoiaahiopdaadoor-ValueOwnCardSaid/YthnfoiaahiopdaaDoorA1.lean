/- Attributes in order: the plain laws. -/
import Derived.Test.YthnfoiaahiopdaaDoorRows
import Derived.WalkKit
import Derived.WalkSpells
import Derived.WalkLawsBesides
import Derived.Deep.QuietTactic
import Derived.BigQuiet
import Derived.Lib.Hide
import Derived.Lib.ConvBytes
import Derived.Deep.Slices
import Derived.ProofKit
import Derived.SizedLaws
import Derived.Test.YthnfoiaahiopdaaDoorShelf
import Derived.Laws.BytesArg
import Derived.Laws.BitsLemmas
import Derived.Deep.RegionHeld3
import Derived.Deep.AppendLies
import Derived.Maps.AppendAt
import Derived.Test.YthnfoiaahiopdaaDoorV10
set_option linter.unusedVariables false
set_option linter.unusedSimpArgs false
set_option linter.unnecessarySimpa false
namespace Go.Proofs.YthnfoiaahiopdaaDoor
open Go.RowKit Go.Shelf

/-- The one's name is below the other's. -/
def ltA (x y : AttrD) : Bool := decide (cmpB x.1 y.1 < 0)
def dA : AttrD := (ByteArray.empty, 0, 0, ByteArray.empty)
/-- Two places changed. -/
def swapL (X : List AttrD) (i j : Nat) : List AttrD := (X.set i (X.getD j dA)).set j (X.getD i dA)
theorem swapL_len (X : List AttrD) (i j : Nat) : (swapL X i j).length = X.length := by simp [swapL]
/-- What stands at j goes down while it is below what stands beneath it, not further than a. -/
def bub (a : Nat) : Nat → List AttrD → List AttrD
  | 0, X => X
  | j + 1, X => if a < j + 1 ∧ ltA (X.getD (j + 1) dA) (X.getD j dA) = true then bub a j (swapL X (j + 1) j) else X
/-- The rounds of the sort by insertion. -/
def isortG (a : Nat) : Nat → Nat → List AttrD → List AttrD
  | 0, _, X => X
  | r + 1, i, X => isortG a r (i + 1) (bub a i X)
theorem bub_len (a : Nat) : ∀ (j : Nat) (X : List AttrD), (bub a j X).length = X.length
  | 0, X => rfl
  | j + 1, X => by
    rw [bub]
    split
    · rw [bub_len a j, swapL_len]
    · rfl
theorem isortG_len (a : Nat) : ∀ (r i : Nat) (X : List AttrD), (isortG a r i X).length = X.length
  | 0, _, _ => rfl
  | r + 1, i, X => by rw [isortG, isortG_len a r, bub_len]

/-- One more put in from the right: the turned list. -/
def insRev (x : AttrD) : List AttrD → List AttrD
  | [] => [x]
  | y :: Q => if ltA x y = true then y :: insRev x Q else x :: y :: Q
def insR (P : List AttrD) (x : AttrD) : List AttrD := (insRev x P.reverse).reverse
def sortL (L : List AttrD) : List AttrD := L.foldl insR []
theorem insR_snoc (Q : List AttrD) (y x : AttrD) : insR (Q ++ [y]) x = if ltA x y = true then insR Q x ++ [y] else Q ++ [y, x] := by
  unfold insR
  rw [List.reverse_append, List.reverse_singleton, List.singleton_append, insRev]
  split
  · rw [List.reverse_cons]
  · simp
theorem insRev_len (x : AttrD) : ∀ Q : List AttrD, (insRev x Q).length = Q.length + 1
  | [] => rfl
  | y :: Q => by
    rw [insRev]
    split
    · rw [List.length_cons, insRev_len x Q, List.length_cons]
    · rfl
theorem insR_len (P : List AttrD) (x : AttrD) : (insR P x).length = P.length + 1 := by unfold insR; rw [List.length_reverse, insRev_len, List.length_reverse]
theorem sortL_snoc (L : List AttrD) (x : AttrD) : sortL (L ++ [x]) = insR (sortL L) x := by unfold sortL; rw [List.foldl_append]; rfl
theorem sortL_len : ∀ (n : Nat) (L : List AttrD), L.length = n → (sortL L).length = n
  | 0, L, h => by rw [List.eq_nil_of_length_eq_zero h]; rfl
  | n + 1, L, h => by
    rcases List.eq_nil_or_concat L with rfl | ⟨M, x, rfl⟩
    · simp at h
    · rw [List.concat_eq_append] at h ⊢
      rw [List.length_append] at h
      rw [sortL_snoc, insR_len, sortL_len n M (by simpa using h)]
theorem swap_mid (Q R : List AttrD) (y x : AttrD) : swapL (Q ++ y :: x :: R) (Q.length + 1) Q.length = Q ++ x :: y :: R := by
  unfold swapL
  have h1 : (Q ++ y :: x :: R).getD Q.length dA = y := by rw [List.getD_eq_getElem?_getD, List.getElem?_append_right (Nat.le_refl _)]; simp
  have h2 : (Q ++ y :: x :: R).getD (Q.length + 1) dA = x := by rw [List.getD_eq_getElem?_getD, List.getElem?_append_right (by omega)]; simp
  rw [h1, h2, List.set_append_right _ _ (by omega), List.set_append_right _ _ (Nat.le_refl _)]
  simp
theorem bub_ins : ∀ (n : Nat) (P R : List AttrD) (x : AttrD), P.length = n → bub 0 P.length (P ++ x :: R) = insR P x ++ R
  | 0, P, R, x, h => by rw [List.eq_nil_of_length_eq_zero h]; rfl
  | n + 1, P, R, x, h => by
    rcases List.eq_nil_or_concat P with rfl | ⟨Q, y, rfl⟩
    · simp at h
    · rw [List.concat_eq_append] at h ⊢
      rw [List.length_append] at h
      have hq : Q.length = n := by simpa using h
      have hl : (Q ++ [y]).length = Q.length + 1 := by simp
      have e : Q ++ [y] ++ x :: R = Q ++ y :: x :: R := by simp
      rw [hl, e, bub]
      have h1 : (Q ++ y :: x :: R).getD Q.length dA = y := by rw [List.getD_eq_getElem?_getD, List.getElem?_append_right (Nat.le_refl _)]; simp
      have h2 : (Q ++ y :: x :: R).getD (Q.length + 1) dA = x := by rw [List.getD_eq_getElem?_getD, List.getElem?_append_right (by omega)]; simp
      rw [h1, h2, swap_mid, insR_snoc]
      by_cases hc : ltA x y = true
      · rw [if_pos ⟨by omega, hc⟩, if_pos hc, bub_ins n Q (y :: R) x hq]; simp
      · rw [if_neg (fun hh => hc hh.2), if_neg hc]; simp
theorem isort_go : ∀ (r : Nat) (L : List AttrD) (i : Nat), i + r = L.length → isortG 0 r i (sortL (L.take i) ++ L.drop i) = sortL L
  | 0, L, i, h => by
    rw [isortG, List.take_of_length_le (by omega), List.drop_of_length_le (by omega), List.append_nil]
  | r + 1, L, i, h => by
    have hi : i < L.length := by omega
    rw [isortG, List.drop_eq_getElem_cons hi]
    have hl := sortL_len i (L.take i) (by rw [List.length_take]; omega)
    have := bub_ins i (sortL (L.take i)) (L.drop (i + 1)) L[i] hl
    rw [hl] at this
    rw [this, ← sortL_snoc, ← List.take_succ_eq_append_getElem hi]
    exact isort_go r L (i + 1) (by omega)
theorem isort_all (L : List AttrD) (h : 0 < L.length) : isortG 0 (L.length - 1) 1 L = sortL L := by
  have := isort_go (L.length - 1) L 1 (by omega)
  have e : sortL (L.take 1) ++ L.drop 1 = L := by
    cases L with
    | nil => simp at h
    | cons x L => rfl
  rw [e] at this
  exact this

end Go.Proofs.YthnfoiaahiopdaaDoor
