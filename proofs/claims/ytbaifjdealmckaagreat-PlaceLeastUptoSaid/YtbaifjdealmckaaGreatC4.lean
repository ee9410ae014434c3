/- Products that stop at the top, the document's; rates. -/
import Derived.Test.YtbaifjdealmckaaGreatRows
import Derived.WalkKit
import Derived.WalkSpells
import Derived.WalkLawsBesides
import Derived.Deep.QuietTactic
import Derived.BigQuiet
import Derived.Lib.Hide
import Derived.BigRegion
import Derived.Shelf.Abstract
import Derived.StillTailTactics
import Derived.Laws.AppendOwnNone
import Derived.Deep.AppendLies
import Derived.Deep.Slices
import Derived.ProofKit
import Derived.SizedLaws
import Derived.Test.YtbaifjdealmckaaGreatC3
set_option linter.unusedVariables false
set_option linter.unusedSimpArgs false
set_option linter.unnecessarySimpa false
namespace Go.Proofs.YtbaifjdealmckaaGreat
open Go.RowKit Go.Shelf

theorem any_le_drop {l : List Int} {k : Nat} {x : Int} (p : Int → Bool) (hx : l[k]? = some x) : (l.drop k).any p = (p x || (l.drop (k + 1)).any p) := by
  obtain ⟨h1, h2⟩ := List.getElem?_eq_some_iff.1 hx
  rw [List.drop_eq_getElem_cons h1, h2, List.any_cons]

set_option maxRecDepth 100000 in
set_option maxHeartbeats 2000000 in
theorem rmul_any (v : Value) (l : List Int) (w : World) (hx : RdI w .i64 v l) : Calls Tryz.prog 75 #[v] w fun e w' => e = .returned (.int .i64 (mulV l)) ∧ ∃ m, w' = w.drewN m := by
  have HX := Lib.hid hx
  obtain ⟨A, c, rfl, hmx, hx⟩ := hx
  unfold maxLen at hmx
  obtain ⟨G, hG⟩ : ∃ G, mulV l = G := ⟨_, rfl⟩
  rw [hG]
  obtain ⟨n, hn⟩ : ∃ n, l.length = n := ⟨_, rfl⟩
  rw [hn] at hmx HX ⊢
  have HN := Lib.hid hn
  have HG := Lib.hid hG
  clear hn hx hG
  go_enter Tryz.func75, Tryz.ntmps75
  go_wp2_with fail
  go_loopw [4] (fun i wr => ∃ (k : Nat), k ≤ n ∧ i = .int .i64 k ∧ (l.any (fun x => decide (x ≤ 0)) = (l.drop k).any (fun x => decide (x ≤ 0))) ∧ w = wr) (fun i _ => n - (intOf i).toNat)
  case atStart => exact ⟨0, by omega, rfl, by rw [List.drop_zero], rfl⟩
  case round =>
    obtain ⟨k, hk, rfl, hg, rfl⟩ := hrel
    have HGO := Lib.hid hg
    clear hg
    by_cases hlt : k < n
    · obtain ⟨b, off, c', x, he, hx, hc⟩ := RdI.at HX.out (i := k) (by rw [HN.out]; exact hlt)
      injection he with he1 he2 he3
      subst he1 he3
      have HD := Lib.hid (any_le_drop (fun x => decide (x ≤ 0)) hx)
      clear hx he2
      by_cases ht : x ≤ 0
      · go_wp2_with fail
        go_ret
        refine ⟨ret_int ?_, 0, rfl⟩
        rw [← HG.out, mulV, if_pos]
        rw [HGO.out, HD.out]
        simp [ht]
      · go_wp2_with fail
        go_roundw
        case rel =>
          refine ⟨k + 1, by omega, by go_num, ?_, trivial⟩
          rw [HGO.out, HD.out]
          simp [ht]
        case measure => simp [intOf]; omega
    · have HPOS : Hid (l.any (fun x => decide (x ≤ 0)) = false) := by
        show _ = _
        rw [HGO.out, List.drop_eq_nil_of_le (by rw [HN.out]; omega)]
        rfl
      have HG2 : Hid (mulGo 1 l = G) := by
        show _ = _
        rw [← HG.out]; unfold mulV; rw [HPOS.out]; rfl
      clear HGO HG
      go_wp2_with fail
      go_loopw [3, 5] (fun s i wr => ∃ (k : Nat) (a : Int), k ≤ n ∧ i = .int .i64 k ∧ s = .int .i64 a ∧ 1 ≤ a ∧ a ≤ 9223372036854775807 ∧ mulGo a (l.drop k) = G ∧ ∃ m, w.drewN m = wr) (fun _ i _ => n - (intOf i).toNat)
      case atStart => exact ⟨0, 1, by omega, rfl, rfl, by omega, by omega, HG2.out, 0, rfl⟩
      case round =>
        obtain ⟨k, a, hk, rfl, rfl, ha0, ha1, hg, m, rfl⟩ := hrel
        have HGO := Lib.hid hg
        clear hg
        by_cases hlt : k < n
        · obtain ⟨b, off, c', x, he, hx, hc⟩ := RdI.at HX.out (i := k) (by rw [HN.out]; exact hlt)
          injection he with he1 he2 he3
          subst he1 he3
          have hx1 : 1 ≤ x := any_at HPOS.out hx
          have HD : Hid (l.drop k = x :: l.drop (k + 1)) := by
            obtain ⟨h1, h2⟩ := List.getElem?_eq_some_iff.1 hx
            show _ = _
            rw [List.drop_eq_getElem_cons h1, h2]
          clear hx he2
          have hc' : (w.drewN m).cell? ⟨b, off + k, none⟩ = some (.int .i64 x) := hc
          have hz : a ≠ 0 := by omega
          obtain ⟨q, hq⟩ : ∃ q, Int.tdiv 9223372036854775807 a = q := ⟨_, rfl⟩
          have hq0 : 0 ≤ q ∧ q ≤ 9223372036854775807 := by
            have h1 : Int.tdiv 9223372036854775807 a = 9223372036854775807 / a := Int.tdiv_eq_ediv_of_nonneg (by omega)
            rw [← hq, h1]
            exact ⟨Int.ediv_nonneg (by omega) (by omega), Int.ediv_le_self _ (by omega)⟩
          have HQ := Lib.hid hq
          have hw1 : IntKind.i64.wrap q = q := by unfold IntKind.wrap; simp [IntKind.signed, IntKind.bits]; omega
          by_cases ht : q < x
          · go_wp2_with (go_quiet (fail))
            go_ret
            refine ⟨ret_int ?_, _, World.drewN_drewN _ _ _⟩
            rw [← HGO.out, HD.out, mulGo, HQ.out, if_pos ht]
          · have hst := mul_step ha0 ha1 hx1 (by rw [HQ.out]; exact ht)
            obtain ⟨y, hy⟩ : ∃ y, a * x = y := ⟨_, rfl⟩
            rw [hy] at hst
            obtain ⟨hy0, hy1⟩ := hst
            have hw2 : IntKind.i64.wrap y = y := by unfold IntKind.wrap; simp [IntKind.signed, IntKind.bits]; omega
            go_wp2_with (go_quiet (fail))
            go_roundw
            case rel =>
              refine ⟨k + 1, y, by omega, by go_num, by go_num, by omega, by omega, ?_, _, rfl⟩
              rw [← HGO.out, HD.out, mulGo, HQ.out, if_neg ht, hy]
            case measure => simp [intOf]; omega
        · go_wp2_with fail
          go_ret
          refine ⟨ret_int ?_, _, rfl⟩
          have := HGO.out
          rwa [List.drop_eq_nil_of_le (by rw [HN.out]; omega), mulGo] at this

def ratesV (l : List Int) : Bool := !l.any rateBad

set_option maxRecDepth 100000 in
set_option maxHeartbeats 2000000 in
theorem rate_any (v : Value) (l : List Int) (w : World) (hx : RdI w .i64 v l) : Calls Tryz.prog 64 #[v] w fun e w' => e = .returned (.bool (ratesV l)) ∧ w = w' := by
  have CX := Lib.hid (contains_any 93 #[] #[] rateBad v l w hx (fun _ _ => rfl) (fun x => rate1_any x w))
  unfold ratesV
  obtain ⟨A, c, rfl, hmx, hx⟩ := hx
  clear hx
  obtain ⟨n, hn⟩ : ∃ n, l.length = n := ⟨_, rfl⟩
  rw [hn] at CX ⊢
  obtain ⟨g, hg⟩ : ∃ g, l.any rateBad = g := ⟨_, rfl⟩
  rw [hg] at CX ⊢
  clear hn hg
  go_enter Tryz.func64, Tryz.ntmps64
  go_wp2_with fail
  refine CX.out.mono ?_
  rintro e w' ⟨rfl, rfl⟩
  go_wp2_with fail
  go_ret
  exact ⟨rfl, rfl⟩

set_option maxRecDepth 100000 in
set_option maxHeartbeats 2000000 in
theorem rrates_any (v : Value) (l : List Int) (w : World) (hx : RdI w .i64 v l) : Calls Tryz.prog 48 #[v] w fun e w' => e = .returned (.bool (ratesV l)) ∧ w = w' := by
  have HX := Lib.hid hx
  obtain ⟨A, c, rfl, hmx, hx⟩ := hx
  unfold maxLen at hmx
  obtain ⟨G, hG⟩ : ∃ G, ratesV l = G := ⟨_, rfl⟩
  rw [hG]
  obtain ⟨n, hn⟩ : ∃ n, l.length = n := ⟨_, rfl⟩
  rw [hn] at hmx HX ⊢
  have HN := Lib.hid hn
  have HG := Lib.hid hG
  clear hn hx hG
  go_enter Tryz.func48, Tryz.ntmps48
  go_wp2_with fail
  go_loopw [3] (fun i wr => ∃ (k : Nat), k ≤ n ∧ i = .int .i64 k ∧ (!(l.drop k).any rateBad) = G ∧ w = wr) (fun i _ => n - (intOf i).toNat)
  case atStart => exact ⟨0, by omega, rfl, HG.out, rfl⟩
  case round =>
    obtain ⟨k, hk, rfl, hg, rfl⟩ := hrel
    have HGO := Lib.hid hg
    clear hg
    by_cases hlt : k < n
    · obtain ⟨b, off, c', x, he, hx, hc⟩ := RdI.at HX.out (i := k) (by rw [HN.out]; exact hlt)
      injection he with he1 he2 he3
      subst he1 he3
      have HD := Lib.hid (any_le_drop rateBad hx)
      clear hx he2
      by_cases ht : x < 0
      · go_wp2_with fail
        go_ret
        refine ⟨ret_bool ?_, rfl⟩
        rw [← HGO.out, HD.out]
        simp [rateBad, ht]
      · by_cases ht2 : 1048576 < x
        · go_wp2_with fail
          go_ret
          refine ⟨ret_bool ?_, rfl⟩
          rw [← HGO.out, HD.out]
          simp [rateBad, ht2]
        · go_wp2_with fail
          go_roundw
          case rel =>
            refine ⟨k + 1, by omega, by go_num, ?_, trivial⟩
            rw [← HGO.out, HD.out]
            simp [rateBad, ht, ht2]
          case measure => simp [intOf]; omega
    · go_wp2_with fail
      go_ret
      refine ⟨ret_bool ?_, rfl⟩
      have := HGO.out
      rw [List.drop_eq_nil_of_le (by rw [HN.out]; omega)] at this
      exact this

end Go.Proofs.YtbaifjdealmckaaGreat
