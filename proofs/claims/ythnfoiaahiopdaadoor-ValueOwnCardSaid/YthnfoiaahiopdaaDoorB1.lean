/- The sort's worlds and rows in plain words. -/
import Derived.Test.YthnfoiaahiopdaaDoorA9
import Derived.Test.YthnfoiaahiopdaaDoorV12
set_option linter.unusedVariables false
set_option linter.unusedSimpArgs false
set_option linter.unnecessarySimpa false
namespace Go.Proofs.YthnfoiaahiopdaaDoor
open Go.RowKit Go.Shelf Go.Lib Go.Sort

theorem get_bang (d : Array AttrD) (i : Nat) : d[i]! = d.toList.getD i dA := by
  rw [Array.getElem!_eq_getD, List.getD_eq_getElem?_getD, Array.getElem?_toList, Array.getD_eq_getD_getElem?]
  rfl
theorem swp_list (d : Array AttrD) (i j : Nat) : (swp d i j).toList = swapL d.toList i j := by
  unfold swp swapL
  rw [Array.toList_setIfInBounds, Array.toList_setIfInBounds, get_bang, get_bang]
theorem inner_eq (a : Nat) : ∀ (j : Nat) (d : Array AttrD), (insInner (ltOf cfA) a j d).toList = bub a j d.toList
  | 0, d => rfl
  | j + 1, d => by
    rw [insInner, bub, get_bang, get_bang]
    have e : ∀ x y, ltOf cfA x y = ltA x y := fun _ _ => rfl
    rw [e]
    have e2 : (decide (j + 1 > a) && ltA (d.toList.getD (j + 1) dA) (d.toList.getD j dA)) = true ↔ (a < j + 1 ∧ ltA (d.toList.getD (j + 1) dA) (d.toList.getD j dA) = true) := by rw [Bool.and_eq_true, decide_eq_true_eq]
    by_cases h : a < j + 1 ∧ ltA (d.toList.getD (j + 1) dA) (d.toList.getD j dA) = true
    · rw [if_pos h, if_pos (e2.2 h), inner_eq a j, swp_list]
    · rw [if_neg h, if_neg (fun hh => h (e2.1 hh))]
theorem outer_eq (n : Nat) : ∀ (r i : Nat) (d : Array AttrD), i + r = n ∨ (r = 0 ∧ n ≤ i) → (insOuter (ltOf cfA) 0 n i d).toList = isortG 0 r i d.toList
  | 0, i, d, h => by rw [insOuter, if_neg (by omega), isortG]
  | r + 1, i, d, h => by
    rw [insOuter, if_pos (by omega), isortG, outer_eq n r (i + 1) _ (by omega), inner_eq]
theorem insSort_list (l : List AttrD) : (Sort.insertionSort (ltOf cfA) l.toArray 0 l.length).toList = sortL l := by
  unfold Sort.insertionSort
  cases l with
  | nil =>
    show (insOuter (ltOf cfA) 0 0 1 #[]).toList = _
    rw [outer_eq 0 0 1 #[] (.inr ⟨rfl, by omega⟩)]; rfl
  | cons x l =>
    rw [outer_eq _ ((x :: l).length - 1) 1 _ (.inl (by rw [List.length_cons]; omega))]
    exact isort_all (x :: l) (by simp)
theorem kept_swa {w0 W : World} {g : Nat} {d : Array AttrD} (S : SWA w0 g d W) (hb : g < w0.heap.size) : Kept [g] w0 W := by
  obtain ⟨n, os, rfl⟩ := S
  refine ⟨rfl, rfl, rfl, ?_, fun k hk hs => ?_⟩
  · show w0.heap.size ≤ (w0.heap.modify g _ ++ os).size
    rw [Array.size_append, Array.size_modify]; omega
  · show (w0.heap.modify g _ ++ os)[k]? = w0.heap[k]?
    rw [Array.getElem?_append_left (by rw [Array.size_modify]; exact hk), Array.getElem?_modify, if_neg (fun e => hs (by simp [e]))]
theorem holds_of_own {w : World} {base : Nat} {g c : Nat} {l : List AttrD} (h : w.ownsRow base 36 4 (.slice (some ⟨g, 0, none⟩) l.length c) l.length (cellsA l)) : HoldsK attrC 4 w g 0 l.toArray ∧ g < w.heap.size ∧ base ≤ g := by
  have hbk := h.lt g rfl
  refine ⟨fun t ht => ?_, hbk.2, hbk.1⟩
  rw [size_flatK, List.size_toArray] at ht
  have hd : t / 4 < l.length := by omega
  have hm : t % 4 < 4 := Nat.mod_lt _ (by decide)
  obtain ⟨x, hx⟩ : ∃ x, l[t / 4]? = some x := ⟨_, List.getElem?_eq_getElem hd⟩
  have e : t = t / 4 * 4 + t % 4 := by omega
  have hcell := cellsA_get l (t / 4) x hx (t % 4) hm
  have hlen : (attrC x).length = 4 := rfl
  obtain ⟨v, hv⟩ : ∃ v, (attrC x)[t % 4]? = some v := ⟨_, List.getElem?_eq_getElem (by rw [hlen]; exact hm)⟩
  rw [hv] at hcell
  have hc := h.cells (g := g) rfl _ v hcell
  rw [Addr.add_lit, ← e] at hc
  refine ⟨?_, ?_⟩
  · rw [hc, get_flatK _ _ _ _ (by rw [List.size_toArray]; exact ht)]
    congr 1
    have h1 : l.toArray[t / 4]! = x := by rw [get_bang, List.getD_eq_getElem?_getD, hx]; rfl
    rw [h1]
    show v = (attrC x)[t % 4]!
    rw [List.getElem!_eq_getElem?_getD, hv]; rfl
  · rcases h.2 with ⟨hh, _⟩ | ⟨g', cap, cur, he, _, hg, _⟩
    · cases hh
    · injection he with he1 _ _
      injection he1 with he1
      injection he1 with he1 _ _
      subst he1
      simp [World.frozen?, hg]

end Go.Proofs.YthnfoiaahiopdaaDoor
