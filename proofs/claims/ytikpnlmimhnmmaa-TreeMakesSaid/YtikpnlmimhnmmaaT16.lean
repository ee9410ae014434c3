/- Ways: the plain facts. -/
import Derived.Test.YtikpnlmimhnmmaaT9
import Derived.Test.YtikpnlmimhnmmaaT15
set_option linter.unusedVariables false
set_option linter.unusedSimpArgs false
namespace Go.Proofs.Ytikpnlmimhnmmaa
open Go.RowKit Tr
namespace Tr

theorem cp_take : ∀ (m : Nat) (x y : List Int), cp (x.take m) y = min m (cp x y)
  | 0, x, y => by simp [cp]
  | m + 1, [], y => by simp [cp]
  | m + 1, a :: x, [] => by simp [cp]
  | m + 1, a :: x, b :: y => by
    rw [List.take_succ_cons, cp, cp]
    by_cases h : a = b
    · rw [if_pos h, if_pos h, cp_take m x y]; omega
    · rw [if_neg h, if_neg h]; omega
theorem rt_len (P : List Int) (a : Int) : (rt P a).length = (rise P a).length := by unfold rt; simp
theorem path_rt (P : List Int) {a b : Int} (h1 : 1 ≤ com P a b) : path P a b = ((rt P a).drop (com P a b - 1)).reverse ++ (rt P b).drop (com P a b) := by
  have h2 := com_le_l P a b
  have h3 := com_le_r P a b
  unfold path
  congr 1
  · unfold rt
    rw [List.drop_reverse, List.reverse_reverse]
    congr 1; omega
  · rw [← List.drop_one, List.reverse_take, List.drop_drop]
    unfold rt
    congr 1; omega
theorem rt_step {P : List Int} (h : Tree P) {a : Int} (ha : inB P.length a) (hp : ¬ par P a < 0) : rt P a = rt P (par P a) ++ [a] := by
  unfold rt; rw [rise_step h ha hp]; simp
theorem rt_get {P : List Int} (h : Tree P) {b z : Int} {k : Nat} (hb : inB P.length b) (hk : (rt P b)[k]? = some z) : inB P.length z ∧ rt P z = (rt P b).take (k + 1) := by
  have hlt : k < (rt P b).length := (List.getElem?_eq_some_iff.1 hk).1
  have hl := rt_len P b
  unfold rt at hk
  rw [List.getElem?_reverse (by omega)] at hk
  obtain ⟨h1, h2⟩ := rise_drop h _ b z hb hk
  refine ⟨h1, ?_⟩
  unfold rt
  rw [← h2, List.reverse_drop]
  congr 1; omega
theorem rt_last {P : List Int} (h : Tree P) {b : Int} (hb : inB P.length b) : (rt P b)[(rise P b).length - 1]? = some b := by
  have hl := rise_len h hb
  unfold rt
  rw [List.getElem?_reverse (by omega)]
  rw [show (rise P b).length - 1 - ((rise P b).length - 1) = 0 by omega]
  exact rise_head h hb
theorem path_same {P : List Int} (h : Tree P) {a : Int} (ha : inB P.length a) : path P a a = [a] := by
  have h1 := com_pos h ha ha
  rw [path_rt P h1, com_self]
  have hl := rt_len P a
  have hlast := rt_last h ha
  rw [List.drop_eq_nil_of_le (show (rt P a).length ≤ (rise P a).length by omega), List.append_nil]
  obtain ⟨h2, h3⟩ := List.getElem?_eq_some_iff.1 hlast
  rw [List.drop_eq_getElem_cons h2, h3, List.drop_eq_nil_of_le (by rw [com_self] at h1; omega)]
  rfl
theorem path_step {P : List Int} (h : Tree P) {a b : Int} (ha : inB P.length a) (hb : inB P.length b) (hne : a ≠ b) :
    ∃ y, inB P.length y ∧ (par P a = y ∨ par P y = a) ∧ path P a b = a :: path P y b := by
  have h1 := com_pos h ha hb
  have h2 := com_le_l P a b
  have h3 := com_le_r P a b
  have la := rt_len P a
  have lb := rt_len P b
  have lasta := rt_last h ha
  by_cases hC : com P a b = (rise P a).length
  · -- a lies above b
    have hlt : com P a b < (rise P b).length := by
      rcases Nat.lt_or_ge (com P a b) (rise P b).length with hh | hh
      · exact hh
      · exfalso
        have := (distG_zero h ha hb).1 (by rw [distG_val h ha hb]; omega)
        exact hne this
    obtain ⟨y, hy⟩ : ∃ y, (rt P b)[com P a b]? = some y := ⟨_, List.getElem?_eq_getElem (by omega)⟩
    obtain ⟨hyi, hyr⟩ := rt_get h hb hy
    have hcy : com P y b = com P a b + 1 := by
      have e : com P y b = min (com P a b + 1) (rt P b).length := by
        show cp (rt P y) (rt P b) = _
        rw [hyr, cp_take, cp_self]
      omega
    have hlast : (rt P b)[com P a b - 1]? = some a := by
      have := (cp_get (rt P a) (rt P b) (com P a b - 1) (show com P a b - 1 < com P a b by omega)).1
      rw [← this, hC]
      exact lasta
    obtain ⟨hy1, hy2⟩ := List.getElem?_eq_some_iff.1 hy
    refine ⟨y, hyi, .inr ?_, ?_⟩
    · by_cases hp : par P y < 0
      · have : (rise P y).length = 1 := by rw [rise_root h hp]; rfl
        rw [← rt_len, hyr, List.length_take] at this
        omega
      · have hr := rt_step h hyi hp
        have hpi := par_in h hyi hp
        have hl1 : (rt P y).length = com P a b + 1 := by rw [hyr, List.length_take]; omega
        have hl2 : (rt P (par P y)).length = com P a b := by rw [hr] at hl1; simp at hl1; omega
        have e1 := rt_last h hpi
        rw [← rt_len, hl2] at e1
        have e2 : (rt P y)[com P a b - 1]? = some a := by
          rw [hyr, List.getElem?_take_of_lt (by omega)]; exact hlast
        rw [hr, List.getElem?_append_left (by omega), e1] at e2
        exact Option.some.inj e2
    · rw [path_rt P h1, path_rt P (show 1 ≤ com P y b by omega), hcy, hyr]
      obtain ⟨g1, g2⟩ := List.getElem?_eq_some_iff.1 lasta
      have e1 : (rt P a).drop (com P a b - 1) = [a] := by
        rw [hC, List.drop_eq_getElem_cons g1, g2, List.drop_eq_nil_of_le (by omega)]
      have e2 : ((rt P b).take (com P a b + 1)).drop (com P a b + 1 - 1) = [y] := by
        rw [Nat.add_sub_cancel, List.drop_take, List.drop_eq_getElem_cons hy1, hy2]
        simp
      rw [e1, e2]
      simp only [List.reverse_cons, List.reverse_nil, List.nil_append, List.cons_append]
      rw [List.drop_eq_getElem_cons hy1, hy2]
  · have hlt : com P a b < (rise P a).length := by omega
    have hp : ¬ par P a < 0 := by
      intro hp
      have : (rise P a).length = 1 := by rw [rise_root h hp]; rfl
      omega
    have hr := rt_step h ha hp
    have hpi := par_in h ha hp
    have hl2 : (rt P (par P a)).length + 1 = (rise P a).length := by rw [← la, hr]; simp
    have hcy : com P (par P a) b = com P a b := by
      have e : rt P (par P a) = (rt P a).take ((rise P a).length - 1) := by
        rw [hr, List.take_append_of_le_length (by omega), List.take_of_length_le (by omega)]
      unfold com
      rw [e, cp_take]
      unfold com at hlt
      omega
    refine ⟨par P a, hpi, .inl rfl, ?_⟩
    rw [path_rt P h1, path_rt P (show 1 ≤ com P (par P a) b by omega), hcy, hr, List.drop_append_of_le_length (by omega)]
    simp
theorem path_head {P : List Int} (h : Tree P) {a b : Int} (ha : inB P.length a) (hb : inB P.length b) : ∃ r, path P a b = a :: r := by
  by_cases hne : a = b
  · subst hne; exact ⟨_, path_same h ha⟩
  · obtain ⟨y, _, _, he⟩ := path_step h ha hb hne
    exact ⟨_, he⟩
theorem path_suffix {P : List Int} (h : Tree P) {b : Int} (hb : inB P.length b) : ∀ (n : Nat) (a : Int), inB P.length a → (path P a b).length = n → ∀ (j : Nat) (z : Int), (path P a b)[j]? = some z → inB P.length z ∧ path P z b = (path P a b).drop j := by
  intro n
  induction n with
  | zero =>
    intro a ha hn j z hz
    obtain ⟨r, hr⟩ := path_head h ha hb
    rw [hr] at hn
    simp at hn
  | succ n ih =>
    intro a ha hn j z hz
    cases j with
    | zero =>
      obtain ⟨r, hr⟩ := path_head h ha hb
      rw [hr] at hz
      simp at hz
      subst hz
      exact ⟨ha, by simp⟩
    | succ j =>
      by_cases hne : a = b
      · subst hne
        rw [path_same h ha] at hz
        simp at hz
      · obtain ⟨y, hy, _, he⟩ := path_step h ha hb hne
        rw [he] at hn hz ⊢
        simp at hn hz
        simpa using ih y hy hn j z hz
theorem path_end {P : List Int} (h : Tree P) {b : Int} (hb : inB P.length b) : ∀ (n : Nat) (a : Int), inB P.length a → (path P a b).length = n → (path P a b)[n - 1]? = some b := by
  intro n
  induction n with
  | zero =>
    intro a ha hn
    obtain ⟨r, hr⟩ := path_head h ha hb
    rw [hr] at hn
    simp at hn
  | succ n ih =>
    intro a ha hn
    by_cases hne : a = b
    · subst hne
      rw [path_same h ha] at hn ⊢
      simp at hn
      subst hn
      simp
    · obtain ⟨y, hy, _, he⟩ := path_step h ha hb hne
      rw [he] at hn ⊢
      simp at hn
      have := ih y hy hn
      obtain ⟨m, rfl⟩ : ∃ m, n = m + 1 := by
        cases n with
        | zero => rw [List.length_eq_zero_iff.1 hn] at this; simp at this
        | succ m => exact ⟨m, rfl⟩
      simpa using this
theorem path_back {P : List Int} (h : Tree P) {a b : Int} (ha : inB P.length a) (hb : inB P.length b) : (path P b a).reverse = path P a b := by
  have h1 := com_pos h ha hb
  have h2 := com_le_l P a b
  have h3 := com_le_r P a b
  have la := rt_len P a
  have lb := rt_len P b
  rw [path_rt P h1, path_rt P (show 1 ≤ com P b a by rw [com_comm]; exact h1), com_comm P b a, List.reverse_append, List.reverse_reverse]
  have e := (cp_get (rt P a) (rt P b) (com P a b - 1) (show com P a b - 1 < com P a b by omega)).1
  have g1 : com P a b - 1 < (rt P a).length := by omega
  have g2 : com P a b - 1 < (rt P b).length := by omega
  rw [List.getElem?_eq_getElem g1, List.getElem?_eq_getElem g2] at e
  rw [List.drop_eq_getElem_cons g1, List.drop_eq_getElem_cons g2, ← Option.some.inj e, show com P a b - 1 + 1 = com P a b by omega]
  simp
/-- Two that follow on a way. -/
theorem path_next {P : List Int} (h : Tree P) {a b : Int} (ha : inB P.length a) (hb : inB P.length b) {i : Nat} {x y : Int} (hx : (path P a b)[i]? = some x) (hy : (path P a b)[i + 1]? = some y) :
    inB P.length x ∧ inB P.length y ∧ (par P x = y ∨ par P y = x) ∧ (∃ r, path P x b = x :: y :: r) ∧ y ∉ (path P a b).take (i + 1) := by
  obtain ⟨hxi, hxs⟩ := path_suffix h hb _ a ha rfl i x hx
  obtain ⟨hyi, hys⟩ := path_suffix h hb _ a ha rfl (i + 1) y hy
  obtain ⟨g1, g2⟩ := List.getElem?_eq_some_iff.1 hx
  obtain ⟨g3, g4⟩ := List.getElem?_eq_some_iff.1 hy
  have hxd : path P x b = x :: y :: (path P a b).drop (i + 1 + 1) := by
    rw [hxs, List.drop_eq_getElem_cons g1, g2, List.drop_eq_getElem_cons g3, g4]
  have hne : x ≠ b := by
    intro e
    rw [e, path_same h hb] at hxd
    simp at hxd
  obtain ⟨z, hz, hzr, he⟩ := path_step h hxi hb hne
  have hzy : z = y := by
    obtain ⟨r, hr⟩ := path_head h hz hb
    rw [he, hr] at hxd
    simp at hxd
    exact hxd.1
  subst hzy
  refine ⟨hxi, hyi, hzr, ⟨_, hxd⟩, fun hm => ?_⟩
  obtain ⟨t, ht⟩ := List.mem_iff_getElem?.1 hm
  have htl : t < i + 1 := by
    have := (List.getElem?_eq_some_iff.1 ht).1
    rw [List.length_take] at this; omega
  rw [List.getElem?_take_of_lt htl] at ht
  obtain ⟨_, h5⟩ := path_suffix h hb _ a ha rfl t z ht
  have e1 := congrArg List.length h5
  have e2 := congrArg List.length hys
  rw [List.length_drop] at e1 e2
  omega
end Tr
theorem near_mem {P : List Int} {x y : Int} (hx : inB P.length x) (hy : inB P.length y) (h : par P x = y ∨ par P y = x) : (sel (nearB P x) P.length).contains y = true := by
  unfold inB at hy
  have : y ∈ sel (nearB P x) P.length := by
    unfold sel
    rw [List.mem_map]
    refine ⟨y.toNat, ?_, by omega⟩
    rw [List.mem_filter]
    refine ⟨by simp; omega, ?_⟩
    unfold nearB
    rw [(inBb_iff _ _).2 hx]
    have : ((y.toNat : Nat) : Int) = y := by omega
    rw [this]
    rcases h with h | h <;> simp [h]
  simp [this]

end Go.Proofs.Ytikpnlmimhnmmaa
