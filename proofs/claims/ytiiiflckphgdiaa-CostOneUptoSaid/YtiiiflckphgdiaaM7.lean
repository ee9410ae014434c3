/- At one place nothing goes over a way: the plain law. -/
import Derived.Test.YtiiiflckphgdiaaM6
set_option linter.unusedVariables false
set_option linter.unusedSimpArgs false
set_option linter.unnecessarySimpa false
namespace Go.Proofs.Ytiiiflckphgdiaa
open Go.RowKit Go.Shelf Tr

namespace Tr
theorem cp_self : ∀ (l : List Int), cp l l = l.length
  | [] => rfl
  | a :: l => by rw [cp, if_pos rfl, cp_self l]; simp
theorem dist_self {P : List Int} (h : Tree P) {a : Int} (ha : inB P.length a) : distG P a a = 0 := by
  have h1 := path_len h ha ha
  have h2 : com P a a = (rise P a).length := by unfold com; rw [cp_self]; simp [rt]
  unfold distG pathG
  rw [if_pos ⟨ha, ha⟩]
  omega
end Tr
theorem way_self {P : List Int} (h : Tree P) {a : Int} (ha : inB P.length a) (n : Int) : wayV P n a a = 0 := by
  unfold wayV mulV
  rw [dist_self h ha]
  simp
theorem addGo_zeros : ∀ (l : List Int), (∀ x ∈ l, x = 0) → addGo 0 l = 0
  | [], _ => rfl
  | x :: l, h => by
    have h0 := h x (by simp)
    subst h0
    have := addGo_zeros l (fun y hy => h y (by simp [hy]))
    simpa [addGo] using this
theorem srcV_zeros {P : List Int} (h : Tree P) {z : Int} (hz : inB P.length z) : ∀ (l : List Int) (m : Nat), ∀ y ∈ srcV P z l (List.replicate m z), y = 0
  | [], m, y, hy => by simp [srcV] at hy
  | n :: l, 0, y, hy => by simp [srcV] at hy
  | n :: l, m + 1, y, hy => by
    rw [List.replicate_succ, srcV] at hy
    rcases List.mem_cons.1 hy with rfl | hy
    · exact way_self h hz n
    · exact srcV_zeros h hz l m y hy
theorem getD_rep {n i : Nat} {z : Int} (h : i < n) : (List.replicate n z).getD i 0 = z := by simp [List.getD, h]

theorem one_place {P : List Int} (hT : Tree P) {z : Int} (hz : inB P.length z) {x : PlanD} {r : RatesD} (hC : checkE x r = 0) :
    modelE P.length x r (List.replicate x.1.length z) (List.replicate r.1.length z) = 0 ∧ trafV P x r (List.replicate x.1.length z) (List.replicate r.1.length z) = 0 := by
  have hb : outB P.length z = false := by unfold outB; unfold inB at hz; simp; omega
  have hm : modelE P.length x r (List.replicate x.1.length z) (List.replicate r.1.length z) = 0 := by
    unfold modelE placeE
    rw [if_pos hC, if_pos]
    have ha : ∀ k, (List.replicate k z).any (outB P.length) = false := fun k => by
      rw [List.any_eq_false]
      intro y hy
      rw [List.eq_of_mem_replicate hy, hb]
      simp
    simp [ha]
  refine ⟨hm, ?_⟩
  unfold trafV
  rw [if_pos hm]
  obtain ⟨hpv, hro⟩ := checkE_zero hC
  obtain ⟨h2, h32, hml, hp⟩ := plan_place hpv
  refine addGo_zeros _ (fun y hy => ?_)
  unfold trafL at hy
  obtain ⟨op, hop, hy⟩ := List.mem_flatMap.1 hy
  have hop := List.mem_range.1 hop
  rw [getD_rep hop] at hy
  unfold inV at hy
  split at hy
  · exact srcV_zeros hT hz _ _ y hy
  · rename_i h1
    obtain ⟨f, hf, rfl⟩ := List.mem_map.1 hy
    have h3 := (place_is (hp op hop)).low h1 f hf
    have h4 := (place_is (hp op hop)).below f hf
    rw [getD_rep (by omega)]
    exact way_self hT hz _

end Go.Proofs.Ytiiiflckphgdiaa
