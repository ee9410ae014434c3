/- The reference's Path: the plain facts. -/
import Derived.Test.YtikpnlmimhnmmaaT31
set_option linter.unusedVariables false
set_option linter.unusedSimpArgs false
set_option linter.unnecessarySimpa false
namespace Go.Proofs.Ytikpnlmimhnmmaa
open Go.RowKit Tr
namespace Tr

theorem turn_facts {P : List Int} (h : Tree P) {a b : Int} (ha : inB P.length a) (hb : inB P.length b) :
    (∀ i, i < (rise P a).length - com P a b → ∀ z, (rise P a)[i]? = some z → (rise P b).contains z = false) ∧
    (∃ m, (rise P a)[(rise P a).length - com P a b]? = some m ∧ (rise P b).contains m = true ∧ (rise P b)[(rise P b).length - com P a b]? = some m ∧
      ∀ j, j < (rise P b).length - com P a b → ∀ z, (rise P b)[j]? = some z → z ≠ m) ∧
    path P a b = (rise P a).take ((rise P a).length - com P a b + 1) ++ ((rise P b).take ((rise P b).length - com P a b)).reverse := by
  have h1 := com_pos h ha hb
  have h2 := com_le_l P a b
  have h3 := com_le_r P a b
  have la := rt_len P a
  have lb := rt_len P b
  have hka : (rise P a).length - com P a b < (rise P a).length := by omega
  have hkb : (rise P b).length - com P a b < (rise P b).length := by omega
  have hm : (rise P a)[(rise P a).length - com P a b]? = (rise P b)[(rise P b).length - com P a b]? := by
    have := (cp_get (rt P a) (rt P b) (com P a b - 1) (show com P a b - 1 < com P a b by omega)).1
    unfold rt at this
    rw [List.getElem?_reverse (by omega), List.getElem?_reverse (by omega)] at this
    rwa [show (rise P a).length - 1 - (com P a b - 1) = (rise P a).length - com P a b by omega, show (rise P b).length - 1 - (com P a b - 1) = (rise P b).length - com P a b by omega] at this
  refine ⟨fun i hi z hz => ?_, ⟨(rise P a)[(rise P a).length - com P a b], List.getElem?_eq_getElem hka, ?_, ?_, ?_⟩, ?_⟩
  · cases hc : (rise P b).contains z with
    | false => rfl
    | true =>
      exfalso
      have hzm : z ∈ rise P b := by simpa using hc
      obtain ⟨j, hj⟩ := List.mem_iff_getElem?.1 hzm
      have hjl := (List.getElem?_eq_some_iff.1 hj).1
      have e1 := (rise_drop h i a z ha hz).2
      have e2 := (rise_drop h j b z hb hj).2
      have e3 : rt P z = (rt P a).take ((rise P a).length - i) := by unfold rt; rw [← e1, List.reverse_drop]
      have e4 : rt P z = (rt P b).take ((rise P b).length - j) := by unfold rt; rw [← e2, List.reverse_drop]
      have e5 : cp ((rt P a).take ((rise P a).length - i)) (rt P b) = min ((rise P a).length - i) (com P a b) := cp_take _ _ _
      rw [← e3, e4, cp_take, cp_self] at e5
      have e6 := congrArg List.length e3
      have e7 := congrArg List.length e4
      rw [List.length_take] at e6 e7
      omega
  · have := hm
    rw [List.getElem?_eq_getElem hka] at this
    have := List.mem_of_getElem? this.symm
    simp [this]
  · rw [← hm]; exact List.getElem?_eq_getElem hka
  · intro j hj z hz e
    have d1 := rise_depth h hb hz
    have d2 : (rise P b)[(rise P b).length - com P a b]? = some z := by rw [← hm, e]; exact List.getElem?_eq_getElem hka
    have d3 := rise_depth h hb d2
    omega
  · unfold path
    rw [show (rise P a).length + 1 - com P a b = (rise P a).length - com P a b + 1 by omega, show (rise P b).length + 1 - com P a b = (rise P b).length - com P a b + 1 by omega]
    congr 1
    rw [List.take_succ_eq_append_getElem hkb, List.reverse_append]
    simp
end Tr

end Go.Proofs.Ytikpnlmimhnmmaa
