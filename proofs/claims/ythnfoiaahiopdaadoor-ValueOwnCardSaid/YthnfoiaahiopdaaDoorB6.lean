/- Attributes, sorted: where the document puts one more (the plain laws). -/
import Derived.Test.YthnfoiaahiopdaaDoorB5
set_option linter.unusedVariables false
set_option linter.unusedSimpArgs false
set_option linter.unnecessarySimpa false
namespace Go.Proofs.YthnfoiaahiopdaaDoor
open Go.RowKit Go.Shelf

/-- What stands above: the test of the document's loop. -/
theorem above_lt (x y : AttrD) : (!(Op.bytesLess y.1.toList x.1.toList || (y.1.toList == x.1.toList))) = ltA x y := by
  have L1 : Op.bytesLess y.1.toList x.1.toList = decide (cmpB x.1 y.1 = 1) := by
    rw [ByteArray.toList_eq, ByteArray.toList_eq, less_cmp, cmp_swap]; unfold cmpB
    congr 1; apply propext; omega
  have L3 : (y.1.toList == x.1.toList) = decide (cmpB x.1 y.1 = 0) := by
    rw [ByteArray.toList_eq, ByteArray.toList_eq, Bool.eq_iff_iff, beq_iff_eq, decide_eq_true_eq]
    unfold cmpB
    rw [cmp_zero]
    exact eq_comm
  rw [L1, L3]
  unfold ltA
  rcases cmp_range x.1.data.toList y.1.data.toList with hc | hc | hc
  · rw [show cmpB x.1 y.1 = -1 from hc]; decide
  · rw [show cmpB x.1 y.1 = 0 from hc]; decide
  · rw [show cmpB x.1 y.1 = 1 from hc]; decide
/-- The place at which one more is put in: from k down. -/
def kdn (x : AttrD) (P : List AttrD) : Nat → Nat
  | 0 => 0
  | k + 1 => if ltA x (P.getD k dA) = true then kdn x P k else k + 1
theorem kdn_le (x : AttrD) (P : List AttrD) : ∀ k, kdn x P k ≤ k
  | 0 => Nat.le_refl _
  | k + 1 => by
    rw [kdn]
    split
    · have := kdn_le x P k; omega
    · exact Nat.le_refl _
theorem kdn_app (x : AttrD) (Q R : List AttrD) : ∀ k, k ≤ Q.length → kdn x (Q ++ R) k = kdn x Q k
  | 0, _ => rfl
  | k + 1, h => by
    have e : (Q ++ R).getD k dA = Q.getD k dA := by rw [List.getD_eq_getElem?_getD, List.getD_eq_getElem?_getD, List.getElem?_append_left (by omega)]
    rw [kdn, kdn, e, kdn_app x Q R k (by omega)]
theorem insR_kdn : ∀ (n : Nat) (P : List AttrD) (x : AttrD), P.length = n → insR P x = P.take (kdn x P n) ++ x :: P.drop (kdn x P n)
  | 0, P, x, h => by rw [List.eq_nil_of_length_eq_zero h]; rfl
  | n + 1, P, x, h => by
    rcases List.eq_nil_or_concat P with rfl | ⟨Q, y, rfl⟩
    · simp at h
    · rw [List.concat_eq_append] at h ⊢
      have hq : Q.length = n := by rw [List.length_append] at h; simpa using h
      have hy : (Q ++ [y]).getD n dA = y := by rw [List.getD_eq_getElem?_getD, ← hq, List.getElem?_append_right (Nat.le_refl _)]; simp
      rw [insR_snoc, kdn, hy]
      by_cases hc : ltA x y = true
      · have hle := kdn_le x Q n
        rw [if_pos hc, if_pos hc, kdn_app x Q [y] n (by omega), insR_kdn n Q x hq, List.take_append_of_le_length (by omega), List.drop_append_of_le_length (by omega)]
        simp
      · rw [if_neg hc, if_neg hc]
        have hl : (Q ++ [y]).length = n + 1 := by simp [hq]
        rw [List.take_of_length_le (by omega), List.drop_of_length_le (by omega)]
        simp
theorem sortL_step {l : List AttrD} {i : Nat} {x : AttrD} (hx : l[i]? = some x) : sortL (l.take (i + 1)) = (sortL (l.take i)).take (kdn x (sortL (l.take i)) i) ++ x :: (sortL (l.take i)).drop (kdn x (sortL (l.take i)) i) := by
  obtain ⟨g1, g2⟩ := List.getElem?_eq_some_iff.1 hx
  have hl := sortL_len i (l.take i) (by rw [List.length_take]; omega)
  rw [List.take_succ_eq_append_getElem g1, g2, sortL_snoc, insR_kdn i _ x hl]

end Go.Proofs.YthnfoiaahiopdaaDoor
