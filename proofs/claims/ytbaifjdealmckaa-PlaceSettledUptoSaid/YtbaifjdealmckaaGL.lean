/- It gets cheaper, it is settled: the plain laws. -/
import Derived.Test.YtbaifjdealmckaaGC
import Derived.Test.YtbaifjdealmckaaP27
set_option linter.unusedVariables false
set_option linter.unusedSimpArgs false
set_option linter.unnecessarySimpa false
namespace Go.Proofs.Ytbaifjdealmckaa
open Go.RowKit Go.Shelf Tr

namespace Tr
theorem rise_nodup {P : List Int} (h : Tree P) {i : Int} (hi : inB P.length i) : (rise P i).Nodup := (up_climbs h.rng P.length i _ hi (depth_spec h hi)).2.2
theorem rise_in {P : List Int} (h : Tree P) {i : Int} (hi : inB P.length i) : ∀ x ∈ rise P i, inB P.length x := fun x hx => ((up_climbs h.rng P.length i _ hi (depth_spec h hi)).2.1 x hx).1
theorem nodup_rev {l : List Int} (h : l.Nodup) : l.reverse.Nodup := by
  unfold List.Nodup at h ⊢
  rw [List.pairwise_reverse]
  exact h.imp (fun hne e => hne e.symm)
theorem rt_at {P : List Int} (h : Tree P) {i y : Int} (hi : inB P.length i) {k : Nat} (hk : (rt P i)[k]? = some y) : (rt P i).take (k + 1) = rt P y ∧ k = depth P y := by
  have hkl : k < (rise P i).length := by
    have := (List.getElem?_eq_some_iff.1 hk).1
    unfold rt at this
    simpa using this
  unfold rt at hk ⊢
  rw [List.getElem?_reverse hkl] at hk
  obtain ⟨hy, hd⟩ := rise_drop h _ i y hi hk
  have hl := rise_len h hy
  have hdl : ((rise P i).drop ((rise P i).length - 1 - k)).length = (rise P y).length := by rw [hd]
  rw [List.length_drop] at hdl
  refine ⟨?_, by omega⟩
  rw [List.take_reverse, show (rise P i).length - (k + 1) = (rise P i).length - 1 - k by omega, hd]
theorem path_le16 {P : List Int} (h : Tree P) (a b : Int) : (pathG P a b).length ≤ 16 := by
  unfold pathG
  split
  · rename_i hh
    obtain ⟨ha, hb⟩ := hh
    have h1 := path_len h ha hb
    have h4 := com_pos h ha hb
    have h5 := com_le_r P a b
    have hnd : (rt P a ++ (rt P b).drop (com P a b)).Nodup := by
      rw [List.nodup_append]
      refine ⟨?_, ?_, ?_⟩
      · exact nodup_rev (rise_nodup h ha)
      · exact ((List.drop_sublist _ _).nodup (nodup_rev (rise_nodup h hb)))
      · intro u hu v hv huv
        subst huv
        obtain ⟨k, hk⟩ := List.getElem?_of_mem hu
        obtain ⟨m, hm⟩ := List.getElem?_of_mem hv
        rw [List.getElem?_drop] at hm
        obtain ⟨e1, e2⟩ := rt_at h ha hk
        obtain ⟨e3, e4⟩ := rt_at h hb hm
        have e5 : k = com P a b + m := by omega
        have hkb := (List.getElem?_eq_some_iff.1 hm).1
        have e6 : (rt P a).take (k + 1) = (rt P b).take (k + 1) := by rw [e1, e5, e3]
        have q1 := cp_take (k + 1) (rt P a) (rt P b)
        have q2 := cp_take (k + 1) (rt P b) (rt P b)
        rw [e6, q2, cp_self] at q1
        have q3 : cp (rt P a) (rt P b) = com P a b := rfl
        omega
    have hin : ∀ x ∈ rt P a ++ (rt P b).drop (com P a b), inB P.length x := fun x hx => by
      rcases List.mem_append.1 hx with hx | hx
      · exact rise_in h ha x (by unfold rt at hx; simpa using hx)
      · exact rise_in h hb x (by have := List.mem_of_mem_drop hx; unfold rt at this; simpa using this)
    have := nodup_len P.length _ hnd hin
    rw [List.length_append, List.length_drop, rt_len, rt_len] at this
    have := h.le
    omega
  · simp
theorem dist_bd {P : List Int} (h : Tree P) (a b : Int) : 0 ≤ distG P a b ∧ distG P a b ≤ 15 := by
  have := path_le16 h a b
  unfold distG
  omega
end Tr

/-- What one way bears at most. -/
abbrev WB : Int := 16888498602639360
theorem way_bd {P : List Int} (h : Tree P) {n : Int} (hn : n ≤ 1125899906842624) (a b : Int) : 0 ≤ wayV P n a b ∧ wayV P n a b ≤ WB := by
  refine ⟨wayV_nn P n a b, ?_⟩
  obtain ⟨d0, d1⟩ := dist_bd h a b
  unfold wayV
  rw [mul2 _ _ (by omega)]
  split
  · decide
  · rename_i hq
    have h1 : 0 < n := by omega
    have : n * distG P a b ≤ 1125899906842624 * 15 := Int.mul_le_mul hn d1 d0 (by omega)
    have h2 : min 9223372036854775807 (n * distG P a b) ≤ n * distG P a b := Int.min_le_right _ _
    show _ ≤ (16888498602639360 : Int)
    omega
theorem sm_bd (W : Int) : ∀ (l : List Int), (∀ y ∈ l, y ≤ W) → sm l ≤ l.length * W
  | [], _ => by simp [sm]
  | y :: l, h => by
    have h0 := h y (by simp)
    have h1 := sm_bd W l (fun z hz => h z (by simp [hz]))
    rw [sm, List.length_cons, Int.natCast_add, Int.add_mul]
    omega
theorem sm_nn : ∀ (l : List Int), (∀ y ∈ l, 0 ≤ y) → 0 ≤ sm l
  | [], _ => by simp [sm]
  | y :: l, h => by
    have h0 := h y (by simp)
    have h1 := sm_nn l (fun z hz => h z (by simp [hz]))
    rw [sm]
    omega
theorem addGo_fit : ∀ (l : List Int) (s : Int), (∀ y ∈ l, 0 ≤ y) → s + sm l ≤ 9223372036854775807 → addGo s l = s + sm l
  | [], s, _, _ => by simp [addGo, sm]
  | y :: l, s, h, hs => by
    have h0 := h y (by simp)
    have h1 := sm_nn l (fun z hz => h z (by simp [hz]))
    rw [sm] at hs
    rw [addGo, if_neg (by omega), addGo_fit l _ (fun z hz => h z (by simp [hz])) (by omega), sm]
    omega
theorem addV_fit {l : List Int} (h : ∀ y ∈ l, 0 ≤ y) (hs : sm l ≤ 9223372036854775807) : addV l = sm l := by
  unfold addV
  rw [addGo_fit l 0 h (by omega)]
  omega

/-- Nothing that comes out is much. -/
def Small (x : PlanD) (r : RatesD) : Prop := ∀ y ∈ outV x r, y ≤ 1125899906842624
theorem Small.at {x : PlanD} {r : RatesD} (h : Small x r) (k : Nat) : (outV x r).getD k 0 ≤ 1125899906842624 := by
  unfold List.getD
  cases e : (outV x r)[k]? with
  | none => simp
  | some y => exact h y (List.mem_of_getElem? e)
theorem ratesL_bd {n : Nat} {r : RatesD} (h : ratesOk n r = true) : ∀ y ∈ r.1, y ≤ 1125899906842624 := by
  intro y hy
  unfold ratesOk at h
  simp only [Bool.and_eq_true] at h
  obtain ⟨-, -, -, -, h1, -⟩ := h
  unfold ratesV at h1
  have h2 : r.1.any rateBad = false := by simpa using h1
  rw [List.any_eq_false] at h2
  have := h2 y hy
  unfold rateBad at this
  simp at this
  omega
theorem srcV_bd {P : List Int} (hT : Tree P) (h : Int) : ∀ (a b : List Int), (∀ y ∈ a, y ≤ 1125899906842624) → ∀ y ∈ srcV P h a b, y ≤ WB
  | n :: ns, a :: ys, hb, y, hy => by
    rw [srcV] at hy
    rcases List.mem_cons.1 hy with rfl | hy
    · exact (way_bd hT (hb n (by simp)) _ _).2
    · exact srcV_bd hT h ns ys (fun z hz => hb z (by simp [hz])) y hy
  | [], _, _, y, hy => by simp [srcV] at hy
  | _ :: _, [], _, y, hy => by simp [srcV] at hy
theorem row_12 {x : PlanD} {k : Nat} (h : placeOk x k = true) : (rowAt x k).length ≤ 12 := by
  unfold placeOk at h
  simp only [Bool.and_eq_true, beq_iff_eq] at h
  obtain ⟨h1, h2, -⟩ := h
  unfold opV kindV at h1
  simp only [Bool.and_eq_true] at h1
  have h3 := h1.2
  split at h3
  · simp only [Bool.and_eq_true, decide_eq_true_eq] at h3
    omega
  · split at h3
    · simp only [Bool.and_eq_true, decide_eq_true_eq] at h3
      omega
    · split at h3
      · simp only [Bool.and_eq_true, decide_eq_true_eq] at h3
        omega
      · cases h3
theorem feeds_64 {x : PlanD} {k : Nat} (h : placeOk x k = true) (hk : k + 1 < x.1.length) : (usesGo (k : Int) 0 x.2).length ≤ 64 := by
  unfold placeOk at h
  simp only [Bool.and_eq_true] at h
  obtain ⟨-, -, -, -, -, h6⟩ := h
  have e : ((k : Int) == (x.1.length : Int) - 1) = false := by rw [beq_eq_false_iff_ne]; omega
  rw [e] at h6
  simp only [Bool.false_or, Bool.and_eq_true, decide_eq_true_eq] at h6
  have := h6.2
  unfold feeds at this
  omega
theorem inV_bd {P : List Int} (hT : Tree P) {x : PlanD} {r : RatesD} {A S : List Int} (hG : Good P x r S A) (hsm : Small x r) {k : Nat} (hk : k < x.1.length) (h : Int) :
    (∀ y ∈ inV P x r (outV x r) A S k h, y ≤ WB) ∧ (inV P x r (outV x r) A S k h).length ≤ 12 := by
  obtain ⟨hpv, hro⟩ := checkE_zero hG.check
  obtain ⟨h2, h32, hm, hp⟩ := plan_place hpv
  unfold inV
  split
  · have := srcV_le P h r.1 S
    have := hG.facts.2.2.2.2.2.2
    exact ⟨srcV_bd hT h _ _ (ratesL_bd hro), by omega⟩
  · refine ⟨fun y hy => ?_, by rw [List.length_map]; exact row_12 (hp k hk)⟩
    obtain ⟨f, _, rfl⟩ := List.mem_map.1 hy
    exact (way_bd hT (hsm.at _) _ _).2
theorem flat_bd (I : Nat → List Int) (W : Int) : ∀ (l : List Nat), (∀ k ∈ l, sm (I k) ≤ W) → sm (l.map (fun o => sm (I o))) ≤ l.length * W
  | [], _ => by simp [sm]
  | k :: l, h => by
    have h0 := h k (by simp)
    have h1 := flat_bd I W l (fun z hz => h z (by simp [hz]))
    rw [List.map_cons, sm, List.length_cons, Int.natCast_add, Int.add_mul]
    omega
theorem traf_sm {P : List Int} (hT : Tree P) {x : PlanD} {r : RatesD} {A S : List Int} (hG : Good P x r S A) (hsm : Small x r) : trafV P x r A S = sm (trafL P x r (outV x r) A S x.1.length) := by
  unfold trafV
  rw [if_pos hG.model]
  have hn := hG.facts.2.1
  have hnn : ∀ y ∈ trafL P x r (outV x r) A S x.1.length, 0 ≤ y := fun y hy => by
    unfold trafL at hy
    obtain ⟨o, _, hy⟩ := List.mem_flatMap.1 hy
    exact inV_nn _ _ _ _ _ _ _ _ y hy
  refine addV_fit hnn ?_
  unfold trafL
  rw [sm_flat]
  have := flat_bd (fun op => inV P x r (outV x r) A S op (A.getD op 0)) (202661983231672320) (List.range x.1.length) (fun k hk => by
    have hk := List.mem_range.1 hk
    obtain ⟨h1, h2⟩ := inV_bd hT hG hsm hk (A.getD k 0)
    have := sm_bd WB _ h1
    have h3 : ((inV P x r (outV x r) A S k (A.getD k 0)).length : Int) * WB ≤ 12 * WB := Int.mul_le_mul_of_nonneg_right (by omega) (by decide)
    have h4 : (12 : Int) * WB = 202661983231672320 := by decide
    omega)
  rw [List.length_range] at this
  have h3 : ((x.1.length : Nat) : Int) * 202661983231672320 ≤ 32 * 202661983231672320 := Int.mul_le_mul_of_nonneg_right (by omega) (by decide)
  omega
theorem part_sm {P : List Int} (hT : Tree P) {x : PlanD} {r : RatesD} {A S : List Int} (hG : Good P x r S A) (hsm : Small x r) {k : Nat} (hk : k + 1 < x.1.length) {b : Int} (hb : inB P.length b) : partV P x r A S (k : Int) b = sm (partL P x r (outV x r) A S k b) := by
  unfold partV
  rw [if_pos (hG.part (by omega) hb), Int.toNat_natCast]
  obtain ⟨hpv, hro⟩ := checkE_zero hG.check
  obtain ⟨h2, h32, hm, hp⟩ := plan_place hpv
  obtain ⟨h3, h4⟩ := inV_bd hT hG hsm (show k < x.1.length by omega) b
  have h5 := feeds_64 (hp k (by omega)) hk
  have hbd : ∀ y ∈ partL P x r (outV x r) A S k b, 0 ≤ y ∧ y ≤ WB := fun y hy => by
    unfold partL at hy
    rcases List.mem_append.1 hy with hy | hy
    · exact ⟨inV_nn _ _ _ _ _ _ _ _ y hy, h3 y hy⟩
    · obtain ⟨u, _, rfl⟩ := List.mem_map.1 hy
      exact way_bd hT (hsm.at _) _ _
  have hl : (partL P x r (outV x r) A S k b).length ≤ 76 := by
    unfold partL
    rw [List.length_append, List.length_map]
    omega
  refine addV_fit (fun y hy => (hbd y hy).1) ?_
  have := sm_bd WB _ (fun y hy => (hbd y hy).2)
  have h6 : ((partL P x r (outV x r) A S k b).length : Int) * WB ≤ 76 * WB := Int.mul_le_mul_of_nonneg_right (by omega) (by decide)
  have h7 : (76 : Int) * WB ≤ 9223372036854775807 := by decide
  omega
/-- An operator that is moved. -/
theorem put_diff {P : List Int} (hT : Tree P) {x : PlanD} {r : RatesD} {A S : List Int} (hG : Good P x r S A) (hsm : Small x r) {k : Nat} (hk : k + 1 < x.1.length) {b : Int} (hb : inB P.length b) :
    trafV P x r (A.set k b) S - trafV P x r A S = partV P x r A S (k : Int) b - partV P x r A S (k : Int) (A.getD k 0) := by
  have hf := hG.facts
  have ha : inB P.length (A.getD k 0) := by
    refine hf.2.2.2.1 _ ?_
    unfold List.getD
    rw [List.getElem?_eq_getElem (by omega)]
    exact List.getElem_mem _
  rw [traf_sm hT hG hsm, traf_sm hT (hG.put hk hb) hsm, part_sm hT hG hsm hk hb, part_sm hT hG hsm hk ha]
  exact moves_sm hG.check hf.2.2.1 (by omega)
theorem step_cheaper {P : List Int} (hT : Tree P) {x : PlanD} {r : RatesD} {S : List Int} {q : List Int × Nat} (hG : Good P x r S q.1) (hsm : Small x r) {k : Nat} (hk : k < x.1.length) :
    (stepI P x r S q k = q) ∨ ((stepI P x r S q k).2 = q.2 + 1 ∧ trafV P x r (stepI P x r S q k).1 S < trafV P x r q.1 S) := by
  by_cases hlt : partV P x r q.1 S (k : Int) (lsV P x r S q.1 k) < partV P x r q.1 S (k : Int) (q.1.getD k 0)
  · by_cases hl : k + 1 = x.1.length
    · exfalso
      have e : lsV P x r S q.1 k = q.1.getD k 0 := by
        unfold lsV
        rw [if_pos hl, ← hG.facts.2.2.2.2.1, show x.1.length - 1 = k by omega]
      rw [e] at hlt
      omega
    · right
      unfold stepI
      rw [if_pos hlt]
      refine ⟨rfl, ?_⟩
      have := put_diff hT hG hsm (show k + 1 < x.1.length by omega) (lsV_in hT x r S q.1 k)
      dsimp only
      omega
  · left
    unfold stepI
    rw [if_neg hlt]
theorem imp_cheaper {P : List Int} (hT : Tree P) {x : PlanD} {r : RatesD} {S A : List Int} (hG : Good P x r S A) (hsm : Small x r) : ∀ k, k ≤ x.1.length →
    ((impG P x r S A k).2 = 0 ∧ (impG P x r S A k).1 = A) ∨ ((impG P x r S A k).2 ≠ 0 ∧ trafV P x r (impG P x r S A k).1 S < trafV P x r A S)
  | 0, _ => .inl ⟨rfl, rfl⟩
  | k + 1, hk => by
    have ih := imp_cheaper hT hG hsm k (by omega)
    have hg := impG_good hT hG k (by omega)
    have hs := step_cheaper hT hg hsm (show k < x.1.length by omega)
    rw [impG]
    rcases hs with hs | ⟨hs1, hs2⟩
    · rw [hs]; exact ih
    · right
      refine ⟨by omega, ?_⟩
      rcases ih with ⟨_, e⟩ | ⟨_, e⟩
      · rw [e] at hs2; exact hs2
      · omega
theorem cheaper_law {P : List Int} (hT : Tree P) {x : PlanD} {r : RatesD} {S A : List Int} (hG : Good P x r S A) (hsm : Small x r) :
    trafV P x r (impG P x r S A x.1.length).1 S ≤ trafV P x r A S ∧ ((impG P x r S A x.1.length).2 = 0 ↔ trafV P x r (impG P x r S A x.1.length).1 S = trafV P x r A S) := by
  rcases imp_cheaper hT hG hsm x.1.length (Nat.le_refl _) with ⟨h1, h2⟩ | ⟨h1, h2⟩
  · rw [h1, h2]; simp
  · exact ⟨by omega, fun h => absurd h h1, fun h => by omega⟩
/-- Where a pass puts nothing elsewhere, all stays. -/
theorem imp_none {P : List Int} {x : PlanD} {r : RatesD} {S A : List Int} : ∀ k, (impG P x r S A k).2 = 0 → (impG P x r S A k).1 = A ∧ ∀ j, j < k → ¬ partV P x r A S (j : Int) (lsV P x r S A j) < partV P x r A S (j : Int) (A.getD j 0)
  | 0, _ => ⟨rfl, fun j h => absurd h (by omega)⟩
  | k + 1, h => by
    rw [impG] at h ⊢
    have h1 := (stepI_moved (P := P) (x := x) (r := r) (S := S) (q := impG P x r S A k) (k := k)).2
    obtain ⟨e, hj⟩ := imp_none (P := P) (x := x) (r := r) (S := S) (A := A) k (by omega)
    unfold stepI at h ⊢
    by_cases hlt : partV P x r (impG P x r S A k).1 S (k : Int) (lsV P x r S (impG P x r S A k).1 k) < partV P x r (impG P x r S A k).1 S (k : Int) ((impG P x r S A k).1.getD k 0)
    · rw [if_pos hlt] at h
      simp at h
    · rw [if_neg hlt]
      refine ⟨e, fun j hjk => ?_⟩
      rcases Nat.lt_succ_iff_lt_or_eq.1 hjk with h2 | rfl
      · exact hj j h2
      · rw [e] at hlt
        exact hlt
theorem settled_law {P : List Int} (hT : Tree P) {x : PlanD} {r : RatesD} {S A : List Int} (hG : Good P x r S A) (hsm : Small x r) (h0 : (impG P x r S A x.1.length).2 = 0) :
    ∀ k, k + 1 < x.1.length → ∀ b : Nat, b < P.length → trafV P x r A S ≤ trafV P x r (A.set k (b : Int)) S := by
  intro k hk b hb
  obtain ⟨-, hj⟩ := imp_none x.1.length h0
  have h1 := hj k (by omega)
  have h2 := put_diff hT hG hsm hk (show inB P.length (b : Int) by unfold inB; omega)
  have h3 := bestG_min (fun b => partV P x r A S (k : Int) (b : Int)) (P.length - 1) b (by omega)
  unfold lsV at h1
  rw [if_neg (by omega)] at h1
  omega

end Go.Proofs.Ytbaifjdealmckaa
