/- Sums that stop at the top; whether one of a list is such. -/
import Derived.BigRegion
import Derived.Shelf.Abstract
import Derived.Test.YtbaifjdealmckaaGreatRows
import Derived.WalkKit
import Derived.WalkSpells
import Derived.WalkLawsBesides
import Derived.Deep.QuietTactic
import Derived.BigQuiet
import Derived.Lib.Hide
import Derived.StillTailTactics
import Derived.Laws.AppendOwnNone
import Derived.Deep.AppendLies
import Derived.Deep.Slices
import Derived.ProofKit
import Derived.SizedLaws
import Derived.Test.YtbaifjdealmckaaGreatRd
set_option linter.unusedVariables false
set_option linter.unusedSimpArgs false
set_option linter.unnecessarySimpa false
namespace Go.Proofs.YtbaifjdealmckaaGreat
open Go.RowKit Go.Shelf

def TOP : Int := 9223372036854775807
def addGo : Int → List Int → Int
  | s, [] => s
  | s, x :: xs => if 9223372036854775807 - s < max 0 x then 9223372036854775807 else addGo (s + max 0 x) xs
def addV (l : List Int) : Int := addGo 0 l

theorem RdI.at {w : World} {v : Value} {xs : List Int} {i : Nat} (h : RdI w .i64 v xs) (hi : i < xs.length) : ∃ b off c x, v = .slice (some ⟨b, off, none⟩) xs.length c ∧ xs[i]? = some x ∧ w.cell? ⟨b, off + i, none⟩ = some (.int .i64 x) := by
  obtain ⟨A, c, rfl, hm, h⟩ := h
  obtain ⟨b, off, rfl, hc⟩ := h (by rintro rfl; simp at hi)
  exact ⟨b, off, c, _, rfl, List.getElem?_eq_getElem hi, hc i _ (List.getElem?_eq_getElem hi)⟩

set_option maxRecDepth 100000 in
set_option maxHeartbeats 2000000 in
theorem add_any (v : Value) (l : List Int) (w : World) (hx : RdI w .i64 v l) : Calls Tryz.prog 45 #[v] w fun e w' => e = .returned (.int .i64 (addV l)) ∧ w = w' := by
  have HX := Lib.hid hx
  obtain ⟨A, c, rfl, hmx, hx⟩ := hx
  unfold maxLen at hmx
  obtain ⟨n, hn⟩ : ∃ n, l.length = n := ⟨_, rfl⟩
  obtain ⟨G, hG⟩ : ∃ G, addV l = G := ⟨_, rfl⟩
  rw [hG]
  rw [hn] at hmx HX ⊢
  have HN := Lib.hid hn
  have HG := Lib.hid hG
  clear hn hx hG
  go_enter Tryz.func45, Tryz.ntmps45
  go_wp2_with fail
  go_loopw [3, 8] (fun s i wr => ∃ (k : Nat) (a : Int), k ≤ n ∧ i = .int .i64 k ∧ s = .int .i64 a ∧ 0 ≤ a ∧ a ≤ 9223372036854775807 ∧ addGo a (l.drop k) = G ∧ w = wr) (fun _ i _ => n - (intOf i).toNat)
  case atStart => exact ⟨0, 0, by omega, rfl, rfl, by omega, by omega, HG.out, rfl⟩
  case round =>
    obtain ⟨k, a, hk, rfl, rfl, ha0, ha1, hg, rfl⟩ := hrel
    have HGO := Lib.hid hg
    clear hg
    by_cases hlt : k < n
    · obtain ⟨b, off, c', x, he, hx, hc⟩ := RdI.at HX.out (i := k) (by rw [HN.out]; exact hlt)
      injection he with he1 he2 he3
      subst he1 he3
      have HD : Hid (l.drop k = x :: l.drop (k + 1)) := by
        obtain ⟨h1, h2⟩ := List.getElem?_eq_some_iff.1 hx
        show _ = _
        rw [List.drop_eq_getElem_cons h1, h2]
      clear hx he2
      obtain ⟨y, hy⟩ : ∃ y, max 0 x = y := ⟨_, rfl⟩
      have hy0 : 0 ≤ y := by omega
      have HY := Lib.hid hy
      have hw1 : IntKind.i64.wrap (9223372036854775807 - a) = 9223372036854775807 - a := by unfold IntKind.wrap; simp [IntKind.signed, IntKind.bits]; omega
      by_cases hxn : x < 0
      · have ey : y = 0 := by omega
        subst ey
        clear hy
        have ht : ¬ (9223372036854775807 - a < 0) := by omega
        go_wp2_with fail
        go_roundw
        case rel =>
          refine ⟨k + 1, a, by omega, by go_num, by go_num, by omega, by omega, ?_, trivial⟩
          rw [← HGO.out, HD.out, addGo, HY.out, if_neg ht, Int.add_zero]
        case measure => simp [intOf]; omega
      · have ey : y = x := by omega
        subst ey
        clear hy
        by_cases ht : 9223372036854775807 - a < y
        · go_wp2_with fail
          go_ret
          refine ⟨ret_int ?_, rfl⟩
          rw [← HGO.out, HD.out, addGo, HY.out, if_pos ht]
        · have hw2 : IntKind.i64.wrap (a + y) = a + y := by unfold IntKind.wrap; simp [IntKind.signed, IntKind.bits]; omega
          go_wp2_with fail
          go_roundw
          case rel =>
            refine ⟨k + 1, a + y, by omega, by go_num, by go_num, by omega, by omega, ?_, trivial⟩
            rw [← HGO.out, HD.out, addGo, HY.out, if_neg ht]
          case measure => simp [intOf]; omega
    · go_wp2_with fail
      go_ret
      refine ⟨ret_int ?_, rfl⟩
      have := HGO.out
      rwa [List.drop_eq_nil_of_le (by rw [HN.out]; omega), addGo] at this

set_option maxRecDepth 100000 in
set_option maxHeartbeats 2000000 in
theorem radd_any (v : Value) (l : List Int) (w : World) (hx : RdI w .i64 v l) : Calls Tryz.prog 77 #[v] w fun e w' => e = .returned (.int .i64 (addV l)) ∧ w = w' := by
  have HX := Lib.hid hx
  obtain ⟨A, c, rfl, hmx, hx⟩ := hx
  unfold maxLen at hmx
  obtain ⟨n, hn⟩ : ∃ n, l.length = n := ⟨_, rfl⟩
  obtain ⟨G, hG⟩ : ∃ G, addV l = G := ⟨_, rfl⟩
  rw [hG]
  rw [hn] at hmx HX ⊢
  have HN := Lib.hid hn
  have HG := Lib.hid hG
  clear hn hx hG
  go_enter Tryz.func77, Tryz.ntmps77
  go_wp2_with fail
  go_loopw [3, 4] (fun s i wr => ∃ (k : Nat) (a : Int), k ≤ n ∧ i = .int .i64 k ∧ s = .int .i64 a ∧ 0 ≤ a ∧ a ≤ 9223372036854775807 ∧ addGo a (l.drop k) = G ∧ w = wr) (fun _ i _ => n - (intOf i).toNat)
  case atStart => exact ⟨0, 0, by omega, rfl, rfl, by omega, by omega, HG.out, rfl⟩
  case round =>
    obtain ⟨k, a, hk, rfl, rfl, ha0, ha1, hg, rfl⟩ := hrel
    have HGO := Lib.hid hg
    clear hg
    by_cases hlt : k < n
    · obtain ⟨b, off, c', x, he, hx, hc⟩ := RdI.at HX.out (i := k) (by rw [HN.out]; exact hlt)
      injection he with he1 he2 he3
      subst he1 he3
      have HD : Hid (l.drop k = x :: l.drop (k + 1)) := by
        obtain ⟨h1, h2⟩ := List.getElem?_eq_some_iff.1 hx
        show _ = _
        rw [List.drop_eq_getElem_cons h1, h2]
      clear hx he2
      obtain ⟨y, hy⟩ : ∃ y, max 0 x = y := ⟨_, rfl⟩
      have hy0 : 0 ≤ y := by omega
      have HY := Lib.hid hy
      have hw1 : IntKind.i64.wrap (9223372036854775807 - a) = 9223372036854775807 - a := by unfold IntKind.wrap; simp [IntKind.signed, IntKind.bits]; omega
      by_cases hxn : x < 0
      · have ey : y = 0 := by omega
        subst ey
        clear hy
        have ht : ¬ (9223372036854775807 - a < 0) := by omega
        go_wp2_with fail
        go_roundw
        case rel =>
          refine ⟨k + 1, a, by omega, by go_num, by go_num, by omega, by omega, ?_, trivial⟩
          rw [← HGO.out, HD.out, addGo, HY.out, if_neg ht, Int.add_zero]
        case measure => simp [intOf]; omega
      · have ey : y = x := by omega
        subst ey
        clear hy
        by_cases ht : 9223372036854775807 - a < y
        · go_wp2_with fail
          go_ret
          refine ⟨ret_int ?_, rfl⟩
          rw [← HGO.out, HD.out, addGo, HY.out, if_pos ht]
        · have hw2 : IntKind.i64.wrap (a + y) = a + y := by unfold IntKind.wrap; simp [IntKind.signed, IntKind.bits]; omega
          go_wp2_with fail
          go_roundw
          case rel =>
            refine ⟨k + 1, a + y, by omega, by go_num, by go_num, by omega, by omega, ?_, trivial⟩
            rw [← HGO.out, HD.out, addGo, HY.out, if_neg ht]
          case measure => simp [intOf]; omega
    · go_wp2_with fail
      go_ret
      refine ⟨ret_int ?_, rfl⟩
      have := HGO.out
      rwa [List.drop_eq_nil_of_le (by rw [HN.out]; omega), addGo] at this

end Go.Proofs.YtbaifjdealmckaaGreat
