/- Products that stop at the top; rates. -/
import Derived.Test.YtbaifjdealmckaaGreatRows
import Derived.WalkKit
import Derived.WalkSpells
import Derived.WalkLawsBesides
import Derived.Deep.QuietTactic
import Derived.BigQuiet
import Derived.Lib.Hide
import Derived.BigRegion
import Derived.Shelf.Abstract
import Derived.StillTailTactics
import Derived.Laws.AppendOwnNone
import Derived.Deep.AppendLies
import Derived.Deep.Slices
import Derived.ProofKit
import Derived.SizedLaws
import Derived.Test.YtbaifjdealmckaaGreatC2
set_option linter.unusedVariables false
set_option linter.unusedSimpArgs false
set_option linter.unnecessarySimpa false
namespace Go.Proofs.YtbaifjdealmckaaGreat
open Go.RowKit Go.Shelf

def mulGo : Int → List Int → Int
  | p, [] => p
  | p, x :: xs => if Int.tdiv 9223372036854775807 p < x then 9223372036854775807 else mulGo (p * x) xs
def mulV (l : List Int) : Int := if l.any (fun x => decide (x ≤ 0)) then 0 else mulGo 1 l

theorem mul_step {p x : Int} (hp : 1 ≤ p) (hp2 : p ≤ 9223372036854775807) (hx : 1 ≤ x) (h : ¬ Int.tdiv 9223372036854775807 p < x) : 1 ≤ p * x ∧ p * x ≤ 9223372036854775807 := by
  have h0 : x ≤ Int.tdiv 9223372036854775807 p := by omega
  have h1 : Int.tdiv 9223372036854775807 p = 9223372036854775807 / p := Int.tdiv_eq_ediv_of_nonneg (by omega)
  rw [h1] at h0
  have h2 : x * p ≤ 9223372036854775807 := (Int.le_ediv_iff_mul_le (by omega)).1 h0
  refine ⟨?_, by rw [Int.mul_comm]; exact h2⟩
  have := Int.mul_le_mul hp hx (by omega) (by omega)
  simpa using this

theorem any_at {l : List Int} {k : Nat} {x : Int} (h : l.any (fun x => decide (x ≤ 0)) = false) (hx : l[k]? = some x) : 1 ≤ x := by
  rw [List.any_eq_false] at h
  have := h x (List.mem_of_getElem? hx)
  simp at this
  omega

set_option maxRecDepth 100000 in
set_option maxHeartbeats 2000000 in
theorem mul_any (v : Value) (l : List Int) (w : World) (hx : RdI w .i64 v l) : Calls Tryz.prog 68 #[v] w fun e w' => e = .returned (.int .i64 (mulV l)) ∧ w = w' := by
  have HX := Lib.hid hx
  have CX := Lib.hid (contains_any 97 #[] #[] (fun x => decide (x ≤ 0)) v l w hx (fun _ _ => rfl) (fun x => mul1_any x w))
  obtain ⟨A, c, rfl, hmx, hx⟩ := hx
  unfold maxLen at hmx
  cases ha : l.any (fun x => decide (x ≤ 0)) with
  | true =>
    have hg : mulV l = 0 := by unfold mulV; rw [ha]; rfl
    rw [hg]
    rw [ha] at CX
    clear hg ha hx
    obtain ⟨n, hn⟩ : ∃ n, l.length = n := ⟨_, rfl⟩
    rw [hn] at hmx HX CX ⊢
    clear hn
    go_enter Tryz.func68, Tryz.ntmps68
    go_wp2_with fail
    refine CX.out.mono ?_
    rintro e w' ⟨rfl, rfl⟩
    go_wp2_with fail
    go_ret
    exact ⟨rfl, rfl⟩
  | false =>
    have HPOS := Lib.hid ha
    obtain ⟨G, hG⟩ : ∃ G, mulV l = G := ⟨_, rfl⟩
    have hG2 : mulGo 1 l = G := by rw [← hG]; unfold mulV; rw [ha]; rfl
    rw [hG]
    rw [ha] at CX
    obtain ⟨n, hn⟩ : ∃ n, l.length = n := ⟨_, rfl⟩
    rw [hn] at hmx HX CX ⊢
    have HN := Lib.hid hn
    have HG := Lib.hid hG2
    clear hn hx hG hG2 ha
    go_enter Tryz.func68, Tryz.ntmps68
    go_wp2_with fail
    refine CX.out.mono ?_
    rintro e w' ⟨rfl, rfl⟩
    go_wp2_with fail
    go_loopw [3, 10] (fun s i wr => ∃ (k : Nat) (a : Int), k ≤ n ∧ i = .int .i64 k ∧ s = .int .i64 a ∧ 1 ≤ a ∧ a ≤ 9223372036854775807 ∧ mulGo a (l.drop k) = G ∧ w = wr) (fun _ i _ => n - (intOf i).toNat)
    case atStart => exact ⟨0, 1, by omega, rfl, rfl, by omega, by omega, HG.out, rfl⟩
    case round =>
      obtain ⟨k, a, hk, rfl, rfl, ha0, ha1, hg, rfl⟩ := hrel
      have HGO := Lib.hid hg
      clear hg
      by_cases hlt : k < n
      · obtain ⟨b, off, c', x, he, hx, hc⟩ := RdI.at HX.out (i := k) (by rw [HN.out]; exact hlt)
        injection he with he1 he2 he3
        subst he1 he3
        have hx1 : 1 ≤ x := any_at HPOS.out hx
        have HD : Hid (l.drop k = x :: l.drop (k + 1)) := by
          obtain ⟨h1, h2⟩ := List.getElem?_eq_some_iff.1 hx
          show _ = _
          rw [List.drop_eq_getElem_cons h1, h2]
        clear hx he2
        have hz : a ≠ 0 := by omega
        obtain ⟨q, hq⟩ : ∃ q, Int.tdiv 9223372036854775807 a = q := ⟨_, rfl⟩
        have hq0 : 0 ≤ q ∧ q ≤ 9223372036854775807 := by
          have h1 : Int.tdiv 9223372036854775807 a = 9223372036854775807 / a := Int.tdiv_eq_ediv_of_nonneg (by omega)
          rw [← hq, h1]
          exact ⟨Int.ediv_nonneg (by omega) (by omega), Int.ediv_le_self _ (by omega)⟩
        have HQ := Lib.hid hq
        have hw1 : IntKind.i64.wrap q = q := by unfold IntKind.wrap; simp [IntKind.signed, IntKind.bits]; omega
        by_cases ht : q < x
        · go_wp2_with fail
          go_ret
          refine ⟨ret_int ?_, rfl⟩
          rw [← HGO.out, HD.out, mulGo, HQ.out, if_pos ht]
        · have hst := mul_step ha0 ha1 hx1 (by rw [HQ.out]; exact ht)
          obtain ⟨y, hy⟩ : ∃ y, a * x = y := ⟨_, rfl⟩
          rw [hy] at hst
          obtain ⟨hy0, hy1⟩ := hst
          have hw2 : IntKind.i64.wrap y = y := by unfold IntKind.wrap; simp [IntKind.signed, IntKind.bits]; omega
          go_wp2_with fail
          go_roundw
          case rel =>
            refine ⟨k + 1, y, by omega, by go_num, by go_num, by omega, by omega, ?_, trivial⟩
            rw [← HGO.out, HD.out, mulGo, HQ.out, if_neg ht, hy]
          case measure => simp [intOf]; omega
      · go_wp2_with fail
        go_ret
        refine ⟨ret_int ?_, rfl⟩
        have := HGO.out
        rwa [List.drop_eq_nil_of_le (by rw [HN.out]; omega), mulGo] at this

end Go.Proofs.YtbaifjdealmckaaGreat
