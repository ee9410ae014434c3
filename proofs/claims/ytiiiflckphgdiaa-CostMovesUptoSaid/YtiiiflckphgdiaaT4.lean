/- slices.Equal, Reverse at ints. -/
import Derived.Test.YtiiiflckphgdiaaT3
import Derived.BigRegion
set_option linter.unusedVariables false
set_option linter.unusedSimpArgs false
namespace Go.Proofs.Ytiiiflckphgdiaa
open Go.RowKit Tr

theorem dec_self (l : List Int) : decide (l = l) = true := by simp

def RevPost (w : World) (g n cap : Nat) (base : Nat) (xs : List Int) (e : Ending) (w' : World) : Prop :=
  e = .returned (.tuple #[]) ∧ w'.ownsRow base 3 1 (.slice (some ⟨g, 0, none⟩) n cap) n (xs.reverse.map (.int .i64)) ∧ Kept [g] w w'

set_option maxHeartbeats 2000000 in
theorem reverse_any (g n cap base : Nat) (xs : List Int) (w : World) (hown : w.ownsRow base 3 1 (.slice (some ⟨g, 0, none⟩) n cap) n (xs.map (.int .i64))) (hn : 1 ≤ n) (hn2 : n ≤ 1000000) :
    Calls Try.prog 109 #[.slice (some ⟨g, 0, none⟩) n cap] w (RevPost w g n cap base xs) := by
  have hl : xs.length = n := by have := (RdI.of_own hown).2; omega
  have HL := Lib.hid hl
  clear hl
  go_enter Try.func109, Try.ntmps109
  go_wp2_with fail
  go_loopw [2, 3] (fun i j wr => ∃ (k : Nat) (ys : List Int), k ≤ n ∧ 2 * k ≤ n + 1 ∧ i = .int .i64 k ∧ j = .int .i64 ((n : Int) - 1 - k) ∧ ys.length = n ∧ wr.ownsRow base 3 1 (.slice (some ⟨g, 0, none⟩) n cap) n (ys.map (.int .i64)) ∧ Kept [g] w wr ∧ (∀ m, m < n → ys[m]? = if m < k ∨ n - k ≤ m then xs[n - 1 - m]? else xs[m]?)) (fun i _ _ => n - (intOf i).toNat)
  case atStart =>
    refine ⟨0, xs, Nat.zero_le _, by omega, rfl, by simp, HL.out, hown, Kept.refl _ _, fun m hm => ?_⟩
    rw [if_neg (by omega)]
  case round =>
    obtain ⟨k, ys, hk, hk2, rfl, rfl, hyl, hor, hKr, hys⟩ := hrel
    have HYS := Lib.hid hys
    have HYL := Lib.hid hyl
    clear hys hyl
    by_cases hlt : (k : Int) < (n : Int) - 1 - k
    · obtain ⟨q, hq⟩ : ∃ q, n - 1 - k = q := ⟨_, rfl⟩
      have hqi : (n : Int) - 1 - k = (q : Int) := by omega
      rw [hqi]
      have hkq : k < q := by omega
      have hqn : q < n := by omega
      have HQ := Lib.hid hq
      have hqe : n - k = q + 1 := by omega
      have HQE := Lib.hid hqe
      clear hq hqi hlt hqe
      obtain ⟨x, hx⟩ : ∃ x, ys[k]? = some x := ⟨_, List.getElem?_eq_getElem (by have := HYL.out; omega)⟩
      obtain ⟨y, hy⟩ : ∃ y, ys[q]? = some y := ⟨_, List.getElem?_eq_getElem (by have := HYL.out; omega)⟩
      have e1 : wr.cell? ⟨g, k, none⟩ = some (.int .i64 x) := by rw [hor.cellAt k (by omega), List.getElem?_map, hx]; rfl
      have e2 : wr.cell? ⟨g, q, none⟩ = some (.int .i64 y) := by rw [hor.cellAt q (by omega), List.getElem?_map, hy]; rfl
      have f1 := hor.frozenAt k
      have f2 := hor.frozenAt q
      have HX := Lib.hid hx
      have HY := Lib.hid hy
      have HOR := Lib.hid hor
      clear hx hy hor
      have hne : ¬ k = q := by omega
      have hne2 : ¬ q = k := by omega
      go_wp2_with fail
      go_region
      obtain ⟨h1, -⟩ := HOR.out.stored k (.int .i64 y)
      obtain ⟨h2, -⟩ := h1.stored q (.int .i64 x)
      have HST : Hid (((wr.setCell ⟨g, k, none⟩ (.int .i64 y)).setCell ⟨g, q, none⟩ (.int .i64 x)).ownsRow base 3 1 (.slice (some ⟨g, 0, none⟩) n cap) n ((((ys.set k y).set q x)).map (.int .i64))) := by
        show World.ownsRow _ _ _ _ _ _ _
        rw [List.map_set, List.map_set]; exact h2
      clear h1 h2
      go_wp2_with fail
      go_roundw
      case rel =>
        refine ⟨k + 1, (ys.set k y).set q x, by omega, by have := HQ.out; omega, by go_num, by congr 1; have := HQ.out; omega, by rw [List.length_set, List.length_set]; exact HYL.out, HST.out, ((hKr.setCell (.inl (by simp)) _).setCell (.inl (by simp)) _).drew, fun m hm => ?_⟩
        have hq := HQ.out
        have hyl := HYL.out
        have hx := HYS.out k (by omega)
        have hy := HYS.out q hqn
        rw [HX.out, if_neg (by omega)] at hx
        rw [HY.out, if_neg (by omega)] at hy
        rw [List.getElem?_set, List.length_set]
        by_cases e1 : q = m
        · subst e1
          rw [if_pos rfl, if_pos (by omega), if_pos (by omega), show n - 1 - q = k by omega]
          exact hx
        · rw [if_neg e1, List.getElem?_set]
          by_cases e2 : k = m
          · subst e2
            rw [if_pos rfl, if_pos (by omega), if_pos (by omega), show n - 1 - k = q by omega]
            exact hy
          · rw [if_neg e2, HYS.out m hm]
            by_cases e3 : m < k ∨ n - k ≤ m
            · rw [if_pos e3, if_pos (by omega)]
            · rw [if_neg e3, if_neg (by omega)]
      case measure => simp [intOf]; omega
    · go_wp2_with fail
      go_end0
      have hrev : ys = xs.reverse := by
        apply List.ext_getElem?
        intro m
        have hyl := HYL.out
        have hxl := HL.out
        by_cases hm : m < n
        · rw [HYS.out m hm, List.getElem?_reverse (by omega), hxl]
          by_cases e3 : m < k ∨ n - k ≤ m
          · rw [if_pos e3]
          · rw [if_neg e3]
            congr 1
            omega
        · rw [List.getElem?_eq_none (by omega), List.getElem?_eq_none (by simp; omega)]
      refine ⟨rfl, ?_, hKr⟩
      rw [← hrev]
      exact hor

end Go.Proofs.Ytiiiflckphgdiaa
