/- Distances: the plain facts. -/
import Derived.Test.YtikpnlmimhnmmaaT8
set_option linter.unusedVariables false
set_option linter.unusedSimpArgs false
namespace Go.Proofs.Ytikpnlmimhnmmaa
open Go.RowKit Tr
namespace Tr

theorem cp_tri : ∀ (x y z : List Int), min (cp x z) (cp z y) ≤ cp x y
  | [], y, z => by have := cp_le_l [] z; simp at this; omega
  | a :: x, [], z => by have := cp_le_r z []; simp at this; omega
  | a :: x, b :: y, [] => by have := cp_le_r (a :: x) []; simp at this; omega
  | a :: x, b :: y, c :: z => by
    have ih := cp_tri x y z
    rw [cp, cp, cp]
    by_cases h1 : a = c
    · by_cases h2 : c = b
      · rw [if_pos h1, if_pos h2, if_pos (h1.trans h2)]; omega
      · rw [if_neg h2]; omega
    · rw [if_neg h1]; omega
theorem cp_self : ∀ x : List Int, cp x x = x.length
  | [] => rfl
  | a :: x => by rw [cp, if_pos rfl, cp_self x]; rfl
theorem com_tri (P : List Int) (a b c : Int) : min (com P a c) (com P c b) ≤ com P a b := cp_tri _ _ _
theorem com_self (P : List Int) (a : Int) : com P a a = (rise P a).length := by unfold com rt; rw [cp_self]; simp
end Tr

theorem distG_val {P : List Int} (h : Tree P) {a b : Int} (ha : inB P.length a) (hb : inB P.length b) :
    distG P a b = ((rise P a).length : Int) + (rise P b).length - 2 * com P a b := by
  have h1 := path_len h ha hb
  have h2 := com_le_l P a b
  have h3 := com_le_r P a b
  have h4 := com_pos h ha hb
  unfold distG
  rw [pathG_in ha hb]
  omega
theorem distG_comm {P : List Int} (h : Tree P) {a b : Int} (ha : inB P.length a) (hb : inB P.length b) : distG P a b = distG P b a := by
  rw [distG_val h ha hb, distG_val h hb ha, com_comm P b a]; omega
theorem distG_zero {P : List Int} (h : Tree P) {a b : Int} (ha : inB P.length a) (hb : inB P.length b) : distG P a b = 0 ↔ a = b := by
  rw [distG_val h ha hb]
  have h2 := com_le_l P a b
  have h3 := com_le_r P a b
  have h4 := com_pos h ha hb
  constructor
  · intro e
    have e1 : com P a b = (rise P a).length := by omega
    have e2 : (rise P b).length = (rise P a).length := by omega
    have := (cp_get _ _ ((rise P a).length - 1) (show (rise P a).length - 1 < com P a b by omega)).1
    unfold rt at this
    rw [List.getElem?_reverse (by omega), List.getElem?_reverse (by omega), e2, show (rise P a).length - 1 - ((rise P a).length - 1) = 0 by omega, rise_head h ha, rise_head h hb] at this
    exact Option.some.inj this
  · rintro rfl
    rw [com_self]; omega
theorem distG_tri {P : List Int} (h : Tree P) {a b c : Int} (ha : inB P.length a) (hb : inB P.length b) (hc : inB P.length c) : distG P a b ≤ distG P a c + distG P c b := by
  rw [distG_val h ha hb, distG_val h ha hc, distG_val h hc hb]
  have h1 := com_tri P a b c
  have h2 := com_le_l P c b
  have h3 := com_le_r P a c
  omega
theorem depthG_in {P : List Int} (h : Tree P) {i : Int} (hi : inB P.length i) : depthG P i = ((rise P i).length : Int) - 1 := by
  rw [depthG_len h]
  unfold riseG
  rw [if_pos hi, rise_len h hi]
  omega
theorem minBy_spec (f : Int → Int) : ∀ (xs : List Int) (m : Int), (minBy f m xs = m ∨ minBy f m xs ∈ xs) ∧ f (minBy f m xs) ≤ f m ∧ ∀ z ∈ xs, f (minBy f m xs) ≤ f z
  | [], m => by simp [minBy]
  | x :: xs, m => by
    rw [minBy]
    by_cases h : f x < f m
    · rw [if_pos h]
      obtain ⟨h1, h2, h3⟩ := minBy_spec f xs x
      refine ⟨.inr ?_, by omega, ?_⟩
      · rcases h1 with h1 | h1
        · rw [h1]; simp
        · exact List.mem_cons_of_mem _ h1
      · intro z hz
        rcases List.mem_cons.1 hz with rfl | hz
        · exact h2
        · exact h3 z hz
    · rw [if_neg h]
      obtain ⟨h1, h2, h3⟩ := minBy_spec f xs m
      refine ⟨?_, h2, ?_⟩
      · rcases h1 with h1 | h1
        · exact .inl h1
        · exact .inr (List.mem_cons_of_mem _ h1)
      · intro z hz
        rcases List.mem_cons.1 hz with rfl | hz
        · omega
        · exact h3 z hz
/-- Each of a path is a node and none stands higher than the turn. -/
theorem path_mem {P : List Int} (h : Tree P) {a b z : Int} (ha : inB P.length a) (hb : inB P.length b) (hz : z ∈ path P a b) : inB P.length z ∧ com P a b ≤ depth P z + 1 := by
  have h2 := com_le_l P a b
  have h3 := com_le_r P a b
  unfold path at hz
  rw [List.mem_append] at hz
  have la := rise_len h ha
  have lb := rise_len h hb
  rcases hz with hz | hz
  · obtain ⟨j, hj⟩ := List.mem_iff_getElem?.1 hz
    have hlt : j < (rise P a).length + 1 - com P a b := by
      have := (List.getElem?_eq_some_iff.1 hj).1
      rw [List.length_take] at this; omega
    rw [List.getElem?_take_of_lt hlt] at hj
    have := rise_depth h ha hj
    exact ⟨(rise_drop h j a z ha hj).1, by omega⟩
  · have hz := List.mem_of_mem_tail hz
    rw [List.mem_reverse] at hz
    obtain ⟨j, hj⟩ := List.mem_iff_getElem?.1 hz
    have hlt : j < (rise P b).length + 1 - com P a b := by
      have := (List.getElem?_eq_some_iff.1 hj).1
      rw [List.length_take] at this; omega
    rw [List.getElem?_take_of_lt hlt] at hj
    have := rise_depth h hb hj
    exact ⟨(rise_drop h j b z hb hj).1, by omega⟩
theorem path_turn {P : List Int} (h : Tree P) {a b : Int} (ha : inB P.length a) (hb : inB P.length b) : ∃ z, (path P a b)[(rise P a).length - com P a b]? = some z ∧ (rise P a)[(rise P a).length - com P a b]? = some z ∧ depth P z + 1 = com P a b := by
  have h2 := com_le_l P a b
  have h4 := com_pos h ha hb
  have la := rise_len h ha
  have hlt : (rise P a).length - com P a b < (rise P a).length := by omega
  obtain ⟨z, hz⟩ : ∃ z, (rise P a)[(rise P a).length - com P a b]? = some z := ⟨_, List.getElem?_eq_getElem hlt⟩
  refine ⟨z, ?_, hz, ?_⟩
  · unfold path
    rw [List.getElem?_append_left (by rw [List.length_take]; omega), List.getElem?_take_of_lt (by omega)]
    exact hz
  · have := rise_depth h ha hz
    omega
theorem meetG_spec {P : List Int} (h : Tree P) {a b : Int} (ha : inB P.length a) (hb : inB P.length b) :
    (pathG P a b).isEmpty = false ∧ inB P.length (meetG P a b) ∧ depthG P (meetG P a b) + 1 = com P a b := by
  obtain ⟨z, hz, _, hd⟩ := path_turn h ha hb
  have hm := fun (z : Int) (hz : z ∈ path P a b) => path_mem h ha hb hz
  have hzm := List.mem_of_getElem? hz
  unfold meetG
  rw [pathG_in ha hb]
  cases hp : path P a b with
  | nil => rw [hp] at hzm; simp at hzm
  | cons x xs =>
    simp only [List.isEmpty_cons, true_and]
    obtain ⟨h1, h2, h3⟩ := minBy_spec (depthG P) xs x
    have hmem : minBy (depthG P) x xs ∈ path P a b := by
      rw [hp]
      rcases h1 with h1 | h1
      · rw [h1]; simp
      · exact List.mem_cons_of_mem _ h1
    obtain ⟨h4, h5⟩ := hm _ hmem
    refine ⟨h4, ?_⟩
    have h6 : depthG P (minBy (depthG P) x xs) ≤ depthG P z := by
      have hzm2 := hzm
      rw [hp] at hzm2
      rcases List.mem_cons.1 hzm2 with e | hzm2
      · rw [e]; exact h2
      · exact h3 z hzm2
    obtain ⟨h7, _⟩ := hm _ hzm
    have e1 : depthG P z = depth P z := by unfold depthG; rw [if_pos h7]
    have e2 : ∀ y, inB P.length y → depthG P y = depth P y := fun y hy => by unfold depthG; rw [if_pos hy]
    rw [e1] at h6
    rw [e2 _ h4] at h6 ⊢
    omega
theorem distG_depth {P : List Int} (h : Tree P) {a b : Int} (ha : inB P.length a) (hb : inB P.length b) :
    distG P a b = depthG P a + depthG P b - 2 * depthG P (meetG P a b) := by
  rw [distG_val h ha hb, depthG_in h ha, depthG_in h hb]
  have := (meetG_spec h ha hb).2.2
  omega

end Go.Proofs.Ytikpnlmimhnmmaa
