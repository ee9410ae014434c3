/- With greater rates nothing is less: the plain law. -/
import Derived.Test.YtbaifjdealmckaaP26
set_option linter.unusedVariables false
set_option linter.unusedSimpArgs false
set_option linter.unnecessarySimpa false
namespace Go.Proofs.Ytbaifjdealmckaa
open Go.RowKit Go.Shelf

/-- Each number of a list is at most that of another one. -/
def Le2 : List Int → List Int → Prop
  | [], [] => True
  | a :: l, b :: m => a ≤ b ∧ Le2 l m
  | [], _ :: _ => False
  | _ :: _, [] => False
theorem Le2.len : ∀ {l m : List Int}, Le2 l m → l.length = m.length
  | [], [], _ => rfl
  | a :: l, b :: m, h => by rw [List.length_cons, List.length_cons, Le2.len h.2]
theorem Le2.refl : ∀ (l : List Int), Le2 l l
  | [] => trivial
  | a :: l => ⟨Int.le_refl _, Le2.refl l⟩
theorem Le2.app : ∀ {l m p q : List Int}, Le2 l m → Le2 p q → Le2 (l ++ p) (m ++ q)
  | [], [], _, _, _, h => h
  | a :: l, b :: m, _, _, h, h' => ⟨h.1, Le2.app h.2 h'⟩
theorem Le2.getD : ∀ {l m : List Int} (i : Nat), Le2 l m → l.getD i 0 ≤ m.getD i 0
  | [], [], _, _ => by simp
  | a :: l, b :: m, 0, h => by simpa using h.1
  | a :: l, b :: m, i + 1, h => by simpa using Le2.getD i h.2
theorem Le2.drop1 : ∀ {l m : List Int}, Le2 l m → Le2 (l.drop 1) (m.drop 1)
  | [], [], _ => trivial
  | a :: l, b :: m, h => by simpa using h.2
theorem Le2.of_get : ∀ {l m : List Int}, l.length = m.length → (∀ i, i < l.length → l.getD i 0 ≤ m.getD i 0) → Le2 l m
  | [], [], _, _ => trivial
  | a :: l, b :: m, hl, h => ⟨by simpa using h 0 (by simp), Le2.of_get (by simpa using hl) (fun i hi => by simpa using h (i + 1) (by simpa using hi))⟩
  | [], _ :: _, hl, _ => by simp at hl
  | _ :: _, [], hl, _ => by simp at hl

theorem addGo_mono : ∀ {l m : List Int} {a b : Int}, Le2 l m → 0 ≤ a → a ≤ b → b ≤ 9223372036854775807 → addGo a l ≤ addGo b m
  | [], [], a, b, _, h0, h1, h2 => h1
  | x :: l, y :: m, a, b, h, h0, h1, h2 => by
    have hxy : x ≤ y := h.1
    have hm : max 0 x ≤ max 0 y := by omega
    unfold addGo
    by_cases hb : 9223372036854775807 - b < max 0 y
    · rw [if_pos hb]
      by_cases ha : 9223372036854775807 - a < max 0 x
      · rw [if_pos ha]; omega
      · rw [if_neg ha]
        exact (addGo_bd l (a + max 0 x) (by omega) (by omega)).2
    · rw [if_neg hb, if_neg (show ¬ 9223372036854775807 - a < max 0 x by omega)]
      exact addGo_mono h.2 (by omega) (by omega) (by omega)
theorem addV_mono {l m : List Int} (h : Le2 l m) : addV l ≤ addV m := addGo_mono h (by omega) (by omega) (by omega)

theorem mul2 (a b : Int) (ha : a ≤ 9223372036854775807) : mulV [a, b] = if a ≤ 0 ∨ b ≤ 0 then 0 else min 9223372036854775807 (a * b) := by
  unfold mulV
  by_cases h1 : a ≤ 0
  · simp [h1]
  · by_cases h2 : b ≤ 0
    · simp [h2]
    · have h3 : ([a, b].any fun x => decide (x ≤ 0)) = false := by simp; omega
      rw [h3, if_neg (by simp), if_neg (by omega)]
      unfold mulGo
      rw [show Int.tdiv 9223372036854775807 1 = 9223372036854775807 from rfl, if_neg (by omega), Int.one_mul]
      unfold mulGo mulGo
      rw [Int.tdiv_eq_ediv_of_nonneg (by omega)]
      have hd : 9223372036854775807 / a * a ≤ 9223372036854775807 := Int.ediv_mul_le _ (by omega)
      have hd2 : 9223372036854775807 < (9223372036854775807 / a + 1) * a := Int.lt_ediv_add_one_mul_self _ (by omega)
      by_cases h4 : 9223372036854775807 / a < b
      · rw [if_pos h4]
        have : (9223372036854775807 / a + 1) * a ≤ b * a := Int.mul_le_mul_of_nonneg_right (by omega) (by omega)
        rw [Int.mul_comm a b]
        omega
      · rw [if_neg h4]
        have : b * a ≤ 9223372036854775807 / a * a := Int.mul_le_mul_of_nonneg_right (by omega) (by omega)
        rw [Int.mul_comm a b]
        omega
theorem byV_mono {a a' b b' : Int} (h1 : a ≤ a') (h2 : b ≤ b') (ha : a' ≤ 9223372036854775807) : byV a b ≤ byV a' b' := by
  unfold byV
  obtain ⟨q1, _⟩ := mulV_bd [a, b]
  obtain ⟨q2, _⟩ := mulV_bd [a', b']
  rw [Int.tdiv_eq_ediv_of_nonneg q1, Int.tdiv_eq_ediv_of_nonneg q2]
  refine Int.ediv_le_ediv (by omega) ?_
  rw [mul2 a b (by omega)]
  by_cases h : a ≤ 0 ∨ b ≤ 0
  · rw [if_pos h]; exact q2
  · rw [if_neg h, mul2 a' b' ha, if_neg (by omega)]
    have : a * b ≤ a' * b' := Int.mul_le_mul h1 h2 (by omega) (by omega)
    omega
theorem prodGo_mono : ∀ {l m : List Int} {a b : Int}, Le2 l m → a ≤ b → b ≤ 9223372036854775807 → prodGo a l ≤ prodGo b m
  | [], [], a, b, _, h1, h2 => h1
  | x :: l, y :: m, a, b, h, h1, h2 => by
    unfold prodGo
    exact prodGo_mono h.2 (byV_mono h1 h.1 h2) (byV_bd b y).2
def Top (l : List Int) : Prop := ∀ i, l.getD i 0 ≤ 9223372036854775807
theorem prodV_mono {l m : List Int} (h : Le2 l m) (ht : Top m) : prodV l ≤ prodV m := prodGo_mono h.drop1 (h.getD 0) (ht 0)
theorem insV_mono {o p : List Int} (h : Le2 o p) : ∀ (row : List Int), Le2 (insV o row) (insV p row)
  | [] => trivial
  | f :: l => by
    unfold insV
    by_cases hf : 0 ≤ f
    · rw [if_pos hf, if_pos hf]
      exact ⟨h.getD _, insV_mono h l⟩
    · rw [if_neg hf, if_neg hf]
      exact insV_mono h l
theorem insV_top {o : List Int} (h : Top o) : ∀ (row : List Int), Top (insV o row)
  | [] => by intro i; simp [insV]
  | f :: l => by
    unfold insV
    split
    · intro i
      cases i with
      | zero => simpa using h _
      | succ i => simpa using insV_top h l i
    · exact insV_top h l
structure Grows (r s : RatesD) : Prop where
  a : Le2 r.1 s.1
  b : Le2 r.2.1 s.2.1
  c : Le2 r.2.2 s.2.2
theorem opL_mono {x : PlanD} {r s : RatesD} (hg : Grows r s) {o p : List Int} (h : Le2 o p) (k : Nat) : Le2 (opL x r o k) (opL x s p k) := by
  unfold opL
  split
  · exact ⟨byV_mono (addV_mono hg.a) (hg.b.getD k) (addGo_bd s.1 0 (by omega) (by omega)).2, trivial⟩
  · exact insV_mono h _
theorem opL_top {x : PlanD} {r : RatesD} {o : List Int} (h : Top o) (k : Nat) : Top (opL x r o k) := by
  unfold opL
  split
  · intro i
    cases i with
    | zero => simpa using (byV_bd _ _).2
    | succ i => simp
  · exact insV_top h _
theorem prodGo_bd : ∀ (l : List Int) (a : Int), a ≤ 9223372036854775807 → prodGo a l ≤ 9223372036854775807
  | [], a, h => h
  | x :: l, a, h => prodGo_bd l _ (byV_bd a x).2
theorem opN_mono {x : PlanD} {r s : RatesD} (hg : Grows r s) {o p : List Int} (h : Le2 o p) (ht : Top p) (k : Nat) : opN x r o k ≤ opN x s p k := by
  unfold opN
  split
  · exact prodV_mono (opL_mono hg h k) (opL_top ht k)
  · exact addV_mono (opL_mono hg h k)
theorem opN_top {x : PlanD} {r : RatesD} {o : List Int} (ht : Top o) (k : Nat) : opN x r o k ≤ 9223372036854775807 := by
  unfold opN
  split
  · exact prodGo_bd _ _ (opL_top ht k 0)
  · exact (addGo_bd _ 0 (by omega) (by omega)).2
theorem step_mono {x : PlanD} {r s : RatesD} (hg : Grows r s) {o p : List Int} (h : Le2 o p) (ht : Top p) (k : Nat) : outStep x r o k ≤ outStep x s p k :=
  byV_mono (opN_mono hg h ht k) (hg.c.getD k) (opN_top ht k)
theorem Top.snoc {l : List Int} {a : Int} (h : Top l) (ha : a ≤ 9223372036854775807) : Top (l ++ [a]) := by
  intro i
  rcases Nat.lt_trichotomy i l.length with q | q | q
  · rw [List.getD, List.getElem?_append_left q]
    exact h i
  · subst q
    simpa [List.getD] using ha
  · rw [List.getD, List.getElem?_eq_none (by simp; omega)]
    simp
theorem outGo_mono {x : PlanD} {r s : RatesD} (hg : Grows r s) : ∀ (m : Nat) {o p : List Int}, Le2 o p → Top p → Le2 (outGo x r m o) (outGo x s m p)
  | 0, o, p, h, _ => h
  | m + 1, o, p, h, ht => by
    unfold outGo
    rw [h.len]
    exact outGo_mono hg m (h.app ⟨step_mono hg h ht _, trivial⟩) (ht.snoc (byV_bd _ _).2)
theorem outV_mono {x : PlanD} {r s : RatesD} (hg : Grows r s) : Le2 (outV x r) (outV x s) := outGo_mono hg _ trivial (fun i => by simp)
theorem map_mono (f g : Nat → Int) (h : ∀ k, f k ≤ g k) : ∀ (l : List Nat), Le2 (l.map f) (l.map g)
  | [] => trivial
  | a :: l => ⟨h a, map_mono f g h l⟩
theorem heldV_mono {x : PlanD} {r s : RatesD} (hg : Grows r s) : Le2 (heldV x r) (heldV x s) := map_mono _ _ (fun k => addV_mono (insV_mono (outV_mono hg) _)) _

/-- A rate made greater. -/
def upV (more : List Int) (p : Nat) (v : Int) : Int := if p < more.length then min 1048576 (v + more.getD p 0) else v
def upL (more : List Int) : Nat → List Int → List Int
  | _, [] => []
  | p, v :: l => upV more p v :: upL more (p + 1) l
theorem upL_len (more : List Int) : ∀ (l : List Int) (p : Nat), (upL more p l).length = l.length
  | [], _ => rfl
  | v :: l, p => by simp [upL, upL_len more l]
theorem upL_le (more : List Int) (hm : ∀ m ∈ more, 0 ≤ m) : ∀ (l : List Int) (p : Nat), (∀ v ∈ l, v ≤ 1048576) → Le2 l (upL more p l)
  | [], _, _ => trivial
  | v :: l, p, h => by
    refine ⟨?_, upL_le more hm l (p + 1) (fun u hu => h u (by simp [hu]))⟩
    have hv := h v (by simp)
    unfold upV
    split
    · rename_i hp
      have : 0 ≤ more.getD p 0 := by
        rw [List.getD, List.getElem?_eq_getElem hp]
        exact hm _ (List.getElem_mem hp)
      omega
    · exact Int.le_refl _
theorem upL_bd (more : List Int) (hm : ∀ m ∈ more, 0 ≤ m) : ∀ (l : List Int) (p : Nat), (∀ v ∈ l, 0 ≤ v ∧ v ≤ 1048576) → ∀ u ∈ upL more p l, 0 ≤ u ∧ u ≤ 1048576
  | [], _, _, u, hu => by simp [upL] at hu
  | v :: l, p, h, u, hu => by
    unfold upL at hu
    rcases List.mem_cons.1 hu with rfl | hu
    · have hv := h v (by simp)
      unfold upV
      split
      · rename_i hp
        have : 0 ≤ more.getD p 0 := by
          rw [List.getD, List.getElem?_eq_getElem hp]
          exact hm _ (List.getElem_mem hp)
        omega
      · exact hv
    · exact upL_bd more hm l (p + 1) (fun u hu => h u (by simp [hu])) u hu
theorem rates_bd {l : List Int} : ratesV l = true ↔ ∀ v ∈ l, 0 ≤ v ∧ v ≤ 1048576 := by
  unfold ratesV
  simp only [Bool.not_eq_true', List.any_eq_false]
  constructor
  · intro h v hv
    have := h v hv
    unfold rateBad at this
    simp at this
    omega
  · intro h v hv
    have := h v hv
    unfold rateBad
    simp
    omega
theorem ratesOk_all {n : Nat} {r : RatesD} (h : ratesOk n r = true) : (∀ v ∈ r.1, 0 ≤ v ∧ v ≤ 1048576) ∧ (∀ v ∈ r.2.1, 0 ≤ v ∧ v ≤ 1048576) ∧ (∀ v ∈ r.2.2, 0 ≤ v ∧ v ≤ 1048576) := by
  unfold ratesOk at h
  simp only [Bool.and_eq_true, decide_eq_true_eq] at h
  exact ⟨rates_bd.1 h.2.2.2.2.1, rates_bd.1 h.2.2.2.2.2.1, rates_bd.1 h.2.2.2.2.2.2⟩
/-- The rates made greater by some numbers. -/
def upR (more : List Int) (r : RatesD) : RatesD := (upL more 0 r.1, (upL more r.1.length r.2.1, upL more (r.1.length + r.2.1.length) r.2.2))
theorem upR_grows {x : PlanD} {r : RatesD} (more : List Int) (hm : ∀ m ∈ more, 0 ≤ m) (h : checkE x r = 0) : Grows r (upR more r) ∧ checkE x (upR more r) = 0 := by
  obtain ⟨hp, hr⟩ := checkE_zero h
  obtain ⟨b1, b2, b3⟩ := ratesOk_all hr
  refine ⟨⟨upL_le more hm _ _ (fun v hv => (b1 v hv).2), upL_le more hm _ _ (fun v hv => (b2 v hv).2), upL_le more hm _ _ (fun v hv => (b3 v hv).2)⟩, ?_⟩
  obtain ⟨l1, l2, l3, l4⟩ := ratesOk_is hr
  unfold checkE
  rw [hp, if_pos rfl]
  have : ratesOk x.1.length (upR more r) = true := by
    unfold ratesOk upR
    simp only [upL_len, Bool.and_eq_true, decide_eq_true_eq]
    exact ⟨l1, l2, l3, l4, rates_bd.2 (upL_bd more hm _ _ b1), rates_bd.2 (upL_bd more hm _ _ b2), rates_bd.2 (upL_bd more hm _ _ b3)⟩
  rw [this]
  rfl
end Go.Proofs.Ytbaifjdealmckaa
