/- An operator that is moved: the plain law. -/
import Derived.Test.YtiiiflckphgdiaaM10
set_option linter.unusedVariables false
set_option linter.unusedSimpArgs false
set_option linter.unnecessarySimpa false
namespace Go.Proofs.Ytiiiflckphgdiaa
open Go.RowKit Go.Shelf Tr

def sm : List Int → Int
  | [] => 0
  | x :: l => x + sm l
theorem sm_app : ∀ (a b : List Int), sm (a ++ b) = sm a + sm b
  | [], b => by simp [sm]
  | x :: a, b => by rw [List.cons_append, sm, sm, sm_app a b]; omega
theorem addGo_sm : ∀ (l : List Int) (s : Int), 0 ≤ s → s ≤ 9223372036854775807 → (∀ x ∈ l, 0 ≤ x) → addGo s l ≠ 9223372036854775807 → addGo s l = s + sm l
  | [], s, _, _, _, _ => by simp [addGo, sm]
  | x :: l, s, h0, h1, hx, h => by
    have hx0 := hx x (by simp)
    rw [addGo] at h ⊢
    by_cases hb : 9223372036854775807 - s < max 0 x
    · rw [if_pos hb] at h; exact absurd rfl h
    · rw [if_neg hb] at h ⊢
      rw [addGo_sm l _ (by omega) (by omega) (fun y hy => hx y (by simp [hy])) h, sm]
      omega
theorem addV_sm {l : List Int} (hx : ∀ x ∈ l, 0 ≤ x) (h : addV l ≠ 9223372036854775807) : addV l = sm l := by
  have := addGo_sm l 0 (by omega) (by omega) hx h
  unfold addV at h ⊢
  omega

theorem wayV_nn (P : List Int) (n a b : Int) : 0 ≤ wayV P n a b := (mulV_bd _).1
theorem srcV_nn (P : List Int) (h : Int) : ∀ (a b : List Int), ∀ y ∈ srcV P h a b, 0 ≤ y
  | n :: ns, a :: ys, y, hy => by
    rw [srcV] at hy
    rcases List.mem_cons.1 hy with rfl | hy
    · exact wayV_nn _ _ _ _
    · exact srcV_nn P h ns ys y hy
  | [], _, y, hy => by simp [srcV] at hy
  | _ :: _, [], y, hy => by simp [srcV] at hy
theorem inV_nn (P : List Int) (x : PlanD) (r : RatesD) (O A S : List Int) (k : Nat) (h : Int) : ∀ y ∈ inV P x r O A S k h, 0 ≤ y := by
  intro y hy
  unfold inV at hy
  split at hy
  · exact srcV_nn _ _ _ _ y hy
  · obtain ⟨f, _, rfl⟩ := List.mem_map.1 hy
    exact wayV_nn _ _ _ _

/-- What the inputs of a row that come of k weigh. -/
def tw (k : Nat) (row : List Int) (v : Int) : Int := sm (row.map (fun f => if f = (k : Int) then v else 0))
theorem tw_none {k : Nat} {row : List Int} (h : ∀ f ∈ row, f ≠ (k : Int)) (v : Int) : tw k row v = 0 := by
  unfold tw
  induction row with
  | nil => rfl
  | cons f l ih =>
    rw [List.map_cons, sm, if_neg (h f (by simp)), ih (fun y hy => h y (by simp [hy]))]
    rfl
theorem usesRow_sm (k : Nat) (g : Nat → Int) (i : Nat) : ∀ (l : List Int) (j : Nat), sm ((usesRow i (k : Int) j l).map (fun u => g u.1)) = tw k l (g i)
  | [], j => by simp [usesRow, tw, sm]
  | f :: l, j => by
    have ih := usesRow_sm k g i l (j + 1)
    unfold tw at ih ⊢
    rw [usesRow, List.map_cons, sm]
    by_cases h : f = (k : Int)
    · rw [if_pos h, if_pos h, List.map_cons, sm, ih]
    · rw [if_neg h, if_neg h, ih]; omega
theorem usesGo_sm (k : Nat) (g : Nat → Int) : ∀ (F : List (List Int)) (i : Nat), sm ((usesGo (k : Int) i F).map (fun u => g u.1)) = sm ((List.range F.length).map (fun o => tw k (F.getD o []) (g (i + o))))
  | [], i => by simp [usesGo, sm]
  | row :: F, i => by
    have ih := usesGo_sm k g F (i + 1)
    rw [usesGo, List.map_append, sm_app, usesRow_sm, ih, List.length_cons, List.range_succ_eq_map, List.map_cons, sm, List.map_map]
    have e : (List.map (fun o => tw k (F.getD o []) (g (i + 1 + o))) (List.range F.length)) = List.map ((fun o => tw k ((row :: F).getD o []) (g (i + o))) ∘ Nat.succ) (List.range F.length) := by
      refine List.map_congr_left (fun o _ => ?_)
      simp only [Function.comp_apply, Nat.succ_eq_add_one, List.getD_cons_succ]
      rw [show i + 1 + o = i + (o + 1) by omega]
    rw [e]
    simp
theorem sm_flat (I : Nat → List Int) : ∀ (l : List Nat), sm (l.flatMap I) = sm (l.map (fun o => sm (I o)))
  | [] => rfl
  | o :: l => by rw [List.flatMap_cons, sm_app, List.map_cons, sm, sm_flat I l]
theorem sm_diff {f g p q s : Nat → Int} : ∀ (l : List Nat), (∀ o ∈ l, f o - g o = p o + q o - s o) → sm (l.map f) - sm (l.map g) = sm (l.map p) + sm (l.map q) - sm (l.map s)
  | [], _ => by simp [sm]
  | o :: l, h => by
    have h0 := h o (by simp)
    have ih := sm_diff l (fun y hy => h y (by simp [hy]))
    simp only [List.map_cons, sm]
    omega
theorem sm_pick (k : Nat) (X : Int) : ∀ n : Nat, sm ((List.range n).map (fun o => if o = k then X else 0)) = if k < n then X else 0
  | 0 => by simp [sm]
  | n + 1 => by
    rw [List.range_succ, List.map_append, sm_app, sm_pick k X n]
    simp only [List.map_cons, List.map_nil, sm]
    by_cases h : k < n
    · rw [if_pos h, if_neg (by omega), if_pos (by omega)]; omega
    · by_cases h2 : n = k
      · rw [if_neg h, if_pos h2, if_pos (by omega)]; omega
      · rw [if_neg h, if_neg h2, if_neg (by omega)]; omega

theorem set_get {A : List Int} {k i : Nat} {h : Int} (hk : k < A.length) : (A.set k h).getD i 0 = if i = k then h else A.getD i 0 := by
  unfold List.getD
  rw [List.getElem?_set]
  by_cases e : k = i
  · subst e; simp [hk]
  · rw [if_neg e, if_neg (fun c => e c.symm)]

theorem row_diff (P : List Int) (O A : List Int) (k : Nat) (h a : Int) (hk : k < A.length) : ∀ (row : List Int), (∀ f ∈ row, 0 ≤ f) →
    sm (row.map (fun f => wayV P (O.getD f.toNat 0) ((A.set k h).getD f.toNat 0) a)) - sm (row.map (fun f => wayV P (O.getD f.toNat 0) (A.getD f.toNat 0) a)) =
    tw k row (wayV P (O.getD k 0) h a) - tw k row (wayV P (O.getD k 0) (A.getD k 0) a)
  | [], _ => by simp [tw, sm]
  | f :: l, hf => by
    have ih := row_diff P O A k h a hk l (fun y hy => hf y (by simp [hy]))
    have hf0 := hf f (by simp)
    unfold tw at ih ⊢
    simp only [List.map_cons, sm]
    by_cases e : f = (k : Int)
    · rw [if_pos e, if_pos e, set_get hk, e, Int.toNat_natCast, if_pos rfl]
      omega
    · rw [if_neg e, if_neg e, set_get hk, if_neg (by omega)]
      omega

theorem moves_sm {P : List Int} {x : PlanD} {r : RatesD} {O A S : List Int} {k : Nat} {h : Int} (hC : checkE x r = 0) (hA : A.length = x.1.length) (hk : k < x.1.length) :
    sm (trafL P x r O (A.set k h) S x.1.length) - sm (trafL P x r O A S x.1.length) = sm (partL P x r O A S k h) - sm (partL P x r O A S k (A.getD k 0)) := by
  obtain ⟨hpv, hro⟩ := checkE_zero hC
  obtain ⟨h2, h32, hml, hp⟩ := plan_place hpv
  have hkA : k < A.length := by omega
  unfold trafL partL
  rw [sm_flat, sm_flat, sm_app, sm_app]
  have e1 := usesGo_sm k (fun o => wayV P (O.getD k 0) h (A.getD o 0)) x.2 0
  have e2 := usesGo_sm k (fun o => wayV P (O.getD k 0) (A.getD k 0) (A.getD o 0)) x.2 0
  rw [e1, e2, hml]
  have hd := sm_diff (f := fun o => sm (inV P x r O (A.set k h) S o ((A.set k h).getD o 0))) (g := fun o => sm (inV P x r O A S o (A.getD o 0)))
    (p := fun o => if o = k then sm (inV P x r O A S k h) - sm (inV P x r O A S k (A.getD k 0)) else 0)
    (q := fun o => tw k (x.2.getD o []) (wayV P (O.getD k 0) h (A.getD (0 + o) 0))) (s := fun o => tw k (x.2.getD o []) (wayV P (O.getD k 0) (A.getD k 0) (A.getD (0 + o) 0))) (List.range x.1.length) (fun o ho => ?_)
  · rw [hd, sm_pick, if_pos hk]
    omega
  · have ho := List.mem_range.1 ho
    have hpl := place_is (hp o ho)
    rw [Nat.zero_add]
    show sm (inV P x r O (A.set k h) S o ((A.set k h).getD o 0)) - sm (inV P x r O A S o (A.getD o 0)) = (if o = k then _ else 0) + tw k (rowAt x o) _ - tw k (rowAt x o) _
    rw [set_get hkA]
    by_cases e : o = k
    · subst e
      have hne : ∀ f ∈ rowAt x o, f ≠ (o : Int) := fun f hf => by have := hpl.below f hf; omega
      rw [if_pos rfl, if_pos rfl, tw_none hne, tw_none hne]
      have : inV P x r O (A.set o h) S o h = inV P x r O A S o h := by
        unfold inV
        split
        · rfl
        · rename_i h1
          refine List.map_congr_left (fun f hf => ?_)
          have h3 := hpl.below f hf
          have h4 := hpl.low h1 f hf
          rw [set_get hkA, if_neg (by omega)]
      rw [this]
      omega
    · rw [if_neg e, if_neg e]
      unfold inV
      by_cases h1 : (opAt x o).1 = 1
      · rw [if_pos h1, if_pos h1]
        have hne : ∀ f ∈ rowAt x o, f ≠ (k : Int) := fun f hf => by have := hpl.term h1 f hf; omega
        rw [tw_none hne, tw_none hne]
        omega
      · rw [if_neg h1, if_neg h1]
        have := row_diff P O A k h (A.getD o 0) hkA (rowAt x o) (hpl.low h1)
        omega

end Go.Proofs.Ytiiiflckphgdiaa
