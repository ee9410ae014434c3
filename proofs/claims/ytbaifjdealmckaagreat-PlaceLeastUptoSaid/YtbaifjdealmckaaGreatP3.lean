/- Operators that may be. -/
import Derived.Test.YtbaifjdealmckaaGreatRows
import Derived.WalkKit
import Derived.WalkSpells
import Derived.WalkLawsBesides
import Derived.Deep.QuietTactic
import Derived.BigQuiet
import Derived.Lib.Hide
import Derived.BigRegion
import Derived.Shelf.Abstract
import Derived.Lib.ConvBytes
import Derived.StillTailTactics
import Derived.Laws.AppendOwnNone
import Derived.Deep.AppendLies
import Derived.Deep.Slices
import Derived.ProofKit
import Derived.SizedLaws
import Derived.Test.YtbaifjdealmckaaGreatP2
set_option linter.unusedVariables false
set_option linter.unusedSimpArgs false
set_option linter.unnecessarySimpa false
namespace Go.Proofs.YtbaifjdealmckaaGreat
open Go.RowKit Go.Shelf
attribute [local go_sem] Oper.semAt_some

def relBad (x : CondD) : Bool := decide (x.2.1 < 1) || decide (6 < x.2.1)
def relsV (l : List CondD) : Bool := decide (l.length ≤ 16) && !l.any relBad
def bareV (o : OpD) : Bool := decide (o.2.1.size = 0) && decide (o.2.2.1.size = 0) && decide (o.2.2.2.1.length = 0)

set_option maxRecDepth 100000 in
set_option maxHeartbeats 2000000 in
theorem rels1_any (x : CondD) (w : World) : Calls Tryz.prog 108 #[.agg (condCells x).toArray] w fun e w' => e = .returned (.bool (relBad x)) ∧ Kept [] w w' := by
  obtain ⟨⟨y0, y1, y2, y3, y4⟩, y5, y6, y7, y8, y9, y10⟩ := x
  show Calls Tryz.prog 108 #[.agg #[.string y0, .string y1, .int .i64 y2, .int .i64 y3, .string y4, .int .i64 y5, .string y6, .string y7, .int .i64 y8, .int .i64 y9, .string y10]] w fun e w' => e = .returned (.bool (decide (y5 < 1) || decide (6 < y5))) ∧ Kept [] w w'
  have hk := (Kept.refl [] w).alloc (.cells #[.string y0, .string y1, .int .i64 y2, .int .i64 y3, .string y4, .int .i64 y5, .string y6, .string y7, .int .i64 y8, .int .i64 y9, .string y10] 118)
  have hb := (Blk.new w #[.string y0, .string y1, .int .i64 y2, .int .i64 y3, .string y4, .int .i64 y5, .string y6, .string y7, .int .i64 y8, .int .i64 y9, .string y10] 118).cell 5
  simp at hb
  by_cases h1 : y5 < 1
  · go_enter Tryz.func108, Tryz.ntmps108
    go_wp2_with fail
    go_ret
    exact ⟨ret_bool (by first | rfl | (rw [Bool.eq_iff_iff]; simp <;> omega) | (simp [*]; done)), hk⟩
  · go_enter Tryz.func108, Tryz.ntmps108
    go_wp2_with fail
    go_ret
    exact ⟨ret_bool (by first | rfl | (rw [Bool.eq_iff_iff]; simp <;> omega) | (simp [*]; done)), hk⟩

set_option maxRecDepth 100000 in
set_option maxHeartbeats 2000000 in
theorem rels_any (v : Value) (l : List CondD) (w : World) (hx : Rds condR w v l) : Calls Tryz.prog 89 #[v] w fun e w' => e = .returned (.bool (relsV l)) ∧ Kept [] w w' := by
  have CX := Lib.hid (contains_conds 108 #[] relBad v l w hx (fun _ _ => rfl) (fun W x _ _ => rels1_any x W))
  obtain ⟨A, c, rfl, hmx⟩ := hx.form
  unfold relsV
  obtain ⟨n, hn⟩ : ∃ n, l.length = n := ⟨_, rfl⟩
  obtain ⟨g, hg⟩ : ∃ g, l.any relBad = g := ⟨_, rfl⟩
  rw [hn] at hmx CX ⊢
  rw [hg] at CX ⊢
  clear hn hg hx
  by_cases h16 : n ≤ 16
  · go_enter Tryz.func89, Tryz.ntmps89
    go_wp2_with fail
    refine CX.out.mono ?_
    rintro e w' ⟨rfl, hk⟩
    go_wp2_with fail
    go_ret
    exact ⟨ret_bool (by first | rfl | (rw [Bool.eq_iff_iff]; simp <;> omega) | (simp [*]; done)), hk⟩
  · go_enter Tryz.func89, Tryz.ntmps89
    go_wp2_with fail
    go_ret
    exact ⟨ret_bool (by first | rfl | (rw [Bool.eq_iff_iff]; simp <;> omega) | (simp [*]; done)), Kept.refl _ _⟩

set_option maxRecDepth 100000 in
set_option maxHeartbeats 4000000 in
theorem rrels_any (v : Value) (l : List CondD) (w : World) (hx : Rds condR w v l) : Calls Tryz.prog 113 #[v] w fun e w' => e = .returned (.bool (relsV l)) ∧ w = w' := by
  have HX := Lib.hid hx
  obtain ⟨A, c, rfl, hmx⟩ := hx.form
  obtain ⟨G, hG⟩ : ∃ G, relsV l = G := ⟨_, rfl⟩
  rw [hG]
  obtain ⟨n, hn⟩ : ∃ n, l.length = n := ⟨_, rfl⟩
  have hG2 : (decide (n ≤ 16) && !l.any relBad) = G := by rw [← hG, ← hn]; rfl
  rw [hn] at hmx HX ⊢
  have HN := Lib.hid hn
  have HG := Lib.hid hG2
  clear hn hx hG hG2
  go_enter Tryz.func113, Tryz.ntmps113
  go_wp2_with fail
  go_loopw [3] (fun i wr => ∃ (k : Nat), k ≤ n ∧ i = .int .i64 k ∧ (decide (n ≤ 16) && !(l.drop k).any relBad) = G ∧ w = wr) (fun i _ => n - (intOf i).toNat)
  case atStart => exact ⟨0, by omega, rfl, HG.out, rfl⟩
  case round =>
    obtain ⟨k, hk, rfl, hg, rfl⟩ := hrel
    have HGO := Lib.hid hg
    clear hg
    by_cases hlt : k < n
    · obtain ⟨b, off, c', x, cs', he, hx, hE, hc⟩ := HX.out.at (k := k) (by rw [HN.out]; exact hlt)
      injection he with he1 he2 he3
      subst he1 he3
      obtain rfl := condR_cells hE
      have HD := Lib.hid (drop_at hx)
      have hr5 : Hid (relBad x = (decide (x.2.1 < 1) || decide (6 < x.2.1))) := rfl
      have e5 := hc 5 (by decide)
      simp [condCells, show condR.sz = 11 from rfl] at e5
      obtain ⟨r, hr⟩ : ∃ r, x.2.1 = r := ⟨_, rfl⟩
      rw [hr] at e5 hr5
      clear hx he2 hc hE hr
      by_cases h1 : r < 1
      · go_wp2_with fail
        go_ret
        refine ⟨ret_bool ?_, rfl⟩
        rw [← HGO.out, HD.out, List.any_cons, hr5.out]
        simp [h1]
      · by_cases h6 : 6 < r
        · go_wp2_with fail
          go_ret
          refine ⟨ret_bool ?_, rfl⟩
          rw [← HGO.out, HD.out, List.any_cons, hr5.out]
          simp [h6]
        · go_wp2_with fail
          go_roundw
          case rel =>
            refine ⟨k + 1, by omega, by go_num, ?_, trivial⟩
            rw [← HGO.out, HD.out, List.any_cons, hr5.out]
            have e1 : decide (r < 1) = false := by simpa using h1
            have e2 : decide (6 < r) = false := by simpa using h6
            rw [e1, e2]; rfl
          case measure => simp [intOf]; omega
    · go_wp2_with fail
      go_ret
      refine ⟨ret_bool ?_, rfl⟩
      have := HGO.out
      rw [List.drop_eq_nil_of_le (by rw [HN.out]; omega)] at this
      rw [← this, Bool.eq_iff_iff]
      simp
      try omega

end Go.Proofs.YtbaifjdealmckaaGreat
