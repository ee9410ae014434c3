/- Operators that may be: the document's Check. -/
import Derived.Test.YtbaifjdealmckaaGreatRows
import Derived.WalkKit
import Derived.WalkSpells
import Derived.WalkLawsBesides
import Derived.Deep.QuietTactic
import Derived.BigQuiet
import Derived.Lib.Hide
import Derived.BigRegion
import Derived.Shelf.Abstract
import Derived.Lib.ConvBytes
import Derived.StillTailTactics
import Derived.Laws.AppendOwnNone
import Derived.Deep.AppendLies
import Derived.Deep.Slices
import Derived.ProofKit
import Derived.SizedLaws
import Derived.Test.YtbaifjdealmckaaGreatP4
set_option linter.unusedVariables false
set_option linter.unusedSimpArgs false
set_option linter.unnecessarySimpa false
namespace Go.Proofs.YtbaifjdealmckaaGreat
open Go.RowKit Go.Shelf
attribute [local go_sem] Oper.semAt_some

set_option maxRecDepth 100000 in
set_option maxHeartbeats 16000000 in
theorem ropcheck_any (kind win inp : Int) (var typ : ByteArray) (tests conds : List CondD) (tv cv : Value) (w : World) (ht : Rds condR w tv tests) (hc : Rds condR w cv conds) (hv : var.size ≤ maxLen) (hy : typ.size ≤ maxLen) :
    Calls Tryz.prog 99 #[.agg #[.int .i64 kind, .string var, .string typ, tv, cv, .int .i64 win, .int .i64 inp]] w fun e w' => e = .returned (.int .i64 (errOp (opV (kind, var, typ, tests, conds, win, inp)))) ∧ Kept [] w w' := by
  have HK0 := Lib.hid ((Kept.refl [] w).alloc (.cells #[.int .i64 kind, .string var, .string typ, tv, cv, .int .i64 win, .int .i64 inp] 88))
  have HR1 : Hid (∀ W, Kept [] w W → Calls Tryz.prog 113 #[tv] W fun e w' => e = .returned (.bool (relsV tests)) ∧ W = w') := fun W hk => rrels_any tv tests W (ht.keep hk)
  have HR2 : Hid (∀ W, Kept [] w W → Calls Tryz.prog 113 #[cv] W fun e w' => e = .returned (.bool (relsV conds)) ∧ W = w') := fun W hk => rrels_any cv conds W (hc.keep hk)
  have HN1 : Hid (∀ W, Calls Tryz.prog 51 #[.string var] W fun e w' => e = .returned (.bool (nameV var)) ∧ W = w') := fun W => rname_any var hv W
  have HN2 : Hid (∀ W, Calls Tryz.prog 51 #[.string typ] W fun e w' => e = .returned (.bool (nameV typ)) ∧ W = w') := fun W => rname_any typ hy W
  obtain ⟨A, c, rfl, hmx⟩ := ht.form
  have hve := empty_dec var
  have hte := empty_dec typ
  obtain ⟨G, hG⟩ : ∃ G, opV (kind, var, typ, tests, conds, win, inp) = G := ⟨_, rfl⟩
  have HGE : Hid (G = (winV win && relsV tests && relsV conds && (if kind = 1 then decide (inp = 1) && nameV var && nameV typ else if kind = 5 then decide (inp = 1) && (decide (var.size = 0) && decide (typ.size = 0) && decide (tests.length = 0)) else if kind = 2 ∨ kind = 3 ∨ kind = 4 then decide (2 ≤ inp) && decide (inp ≤ 12) && (decide (var.size = 0) && decide (typ.size = 0) && decide (tests.length = 0)) else false))) := hG.symm
  rw [hG]
  obtain ⟨n, hn⟩ : ∃ n, tests.length = n := ⟨_, rfl⟩
  obtain ⟨r1, hr1⟩ : ∃ r1, relsV tests = r1 := ⟨_, rfl⟩
  obtain ⟨r2, hr2⟩ : ∃ r2, relsV conds = r2 := ⟨_, rfl⟩
  obtain ⟨n1, hn1⟩ : ∃ n1, nameV var = n1 := ⟨_, rfl⟩
  obtain ⟨n2, hn2⟩ : ∃ n2, nameV typ = n2 := ⟨_, rfl⟩
  obtain ⟨ve, hv1⟩ : ∃ ve, decide (var.size = 0) = ve := ⟨_, rfl⟩
  obtain ⟨te, ht1⟩ : ∃ te, decide (typ.size = 0) = te := ⟨_, rfl⟩
  rw [hn] at HR1 HK0 HGE hmx ⊢
  rw [hr1] at HR1 HGE
  rw [hr2] at HR2 HGE
  rw [hn1] at HN1 HGE
  rw [hn2] at HN2 HGE
  rw [hv1] at hve HGE
  rw [ht1] at hte HGE
  clear hr1 hr2 hn1 hn2 hv1 ht1 hG ht hc hv hy hn
  by_cases k1 : kind < 1
  · have q1 : ¬ kind = 1 := by omega
    have q5 : ¬ kind = 5 := by omega
    have q2 : ¬ (kind = 2 ∨ kind = 3 ∨ kind = 4) := by omega
    have HG : Hid (G = false) := by show _ = _; rw [HGE.out]; simp [q1, q2, q5]
    rw [HG.out]
    clear HG q1 q2 q5
    go_enter Tryz.func99, Tryz.ntmps99
    go_wp2_with fail
    all_goals
      go_ret
      exact ⟨rfl, HK0.out⟩
  by_cases k5 : 5 < kind
  · have q1 : ¬ kind = 1 := by omega
    have q5 : ¬ kind = 5 := by omega
    have q2 : ¬ (kind = 2 ∨ kind = 3 ∨ kind = 4) := by omega
    have HG : Hid (G = false) := by show _ = _; rw [HGE.out]; simp [q1, q2, q5]
    rw [HG.out]
    clear HG q1 q2 q5
    go_enter Tryz.func99, Tryz.ntmps99
    go_wp2_with fail
    all_goals
      go_ret
      exact ⟨rfl, HK0.out⟩
  by_cases w1 : win < 1
  · have q1 : winV win = false := by unfold winV; simp; omega
    have HG : Hid (G = false) := by show _ = _; rw [HGE.out]; rw [q1]; simp
    rw [HG.out]
    clear HG q1
    go_enter Tryz.func99, Tryz.ntmps99
    go_wp2_with fail
    all_goals
      go_ret
      exact ⟨rfl, HK0.out⟩
  by_cases w2 : 1099511627776 < win
  · have q1 : winV win = false := by unfold winV; simp; omega
    have HG : Hid (G = false) := by show _ = _; rw [HGE.out]; rw [q1]; simp
    rw [HG.out]
    clear HG q1
    go_enter Tryz.func99, Tryz.ntmps99
    go_wp2_with fail
    all_goals
      go_ret
      exact ⟨rfl, HK0.out⟩
  have HW : Hid (winV win = true) := by show _ = _; unfold winV; simp; omega
  cases r1 with
  | false =>
    have HG : Hid (G = false) := by show _ = _; rw [HGE.out]; simp
    rw [HG.out]
    clear HG
    go_enter Tryz.func99, Tryz.ntmps99
    go_wp2_with fail
    refine (HR1.out _ HK0.out).mono ?_
    rintro e w1 ⟨rfl, rfl⟩
    go_wp2_with fail
    all_goals
      go_ret
      exact ⟨rfl, HK0.out⟩
  | true =>
    cases r2 with
    | false =>
      have HG : Hid (G = false) := by show _ = _; rw [HGE.out]; simp
      rw [HG.out]
      clear HG
      go_enter Tryz.func99, Tryz.ntmps99
      go_wp2_with fail
      refine (HR1.out _ HK0.out).mono ?_
      rintro e w1 ⟨rfl, rfl⟩
      go_wp2_with fail
      refine (HR2.out _ HK0.out).mono ?_
      rintro e w1 ⟨rfl, rfl⟩
      go_wp2_with fail
      all_goals
        go_ret
        exact ⟨rfl, HK0.out⟩
    | true =>
      have HGE2 : Hid (G = (if kind = 1 then decide (inp = 1) && n1 && n2 else if kind = 5 then decide (inp = 1) && (ve && te && decide (n = 0)) else if kind = 2 ∨ kind = 3 ∨ kind = 4 then decide (2 ≤ inp) && decide (inp ≤ 12) && (ve && te && decide (n = 0)) else false)) := by show _ = _; rw [HGE.out, HW.out]; rfl
      by_cases hk1 : kind = 1
      · subst hk1
        clear k1 k5
        by_cases hi : inp = 1
        · subst hi
          cases n1 with
          | false =>
            have HG : Hid (G = false) := by show _ = _; rw [HGE2.out]; simp [*]
            rw [HG.out]
            clear HG
            go_enter Tryz.func99, Tryz.ntmps99
            go_wp2_with fail
            refine (HR1.out _ HK0.out).mono ?_
            rintro e w1 ⟨rfl, rfl⟩
            go_wp2_with fail
            refine (HR2.out _ HK0.out).mono ?_
            rintro e w1 ⟨rfl, rfl⟩
            go_wp2_with fail
            refine (HN1.out _).mono ?_
            rintro e w1 ⟨rfl, rfl⟩
            go_wp2_with fail
            all_goals
              go_ret
              exact ⟨rfl, HK0.out⟩
          | true =>
            cases n2 with
            | false =>
              have HG : Hid (G = false) := by show _ = _; rw [HGE2.out]; simp [*]
              rw [HG.out]
              clear HG
              go_enter Tryz.func99, Tryz.ntmps99
              go_wp2_with fail
              refine (HR1.out _ HK0.out).mono ?_
              rintro e w1 ⟨rfl, rfl⟩
              go_wp2_with fail
              refine (HR2.out _ HK0.out).mono ?_
              rintro e w1 ⟨rfl, rfl⟩
              go_wp2_with fail
              refine (HN1.out _).mono ?_
              rintro e w1 ⟨rfl, rfl⟩
              go_wp2_with fail
              refine (HN2.out _).mono ?_
              rintro e w1 ⟨rfl, rfl⟩
              go_wp2_with fail
              all_goals
                go_ret
                exact ⟨rfl, HK0.out⟩
            | true =>
              have HG : Hid (G = true) := by show _ = _; rw [HGE2.out]; simp [*]
              rw [HG.out]
              clear HG
              go_enter Tryz.func99, Tryz.ntmps99
              go_wp2_with fail
              refine (HR1.out _ HK0.out).mono ?_
              rintro e w1 ⟨rfl, rfl⟩
              go_wp2_with fail
              refine (HR2.out _ HK0.out).mono ?_
              rintro e w1 ⟨rfl, rfl⟩
              go_wp2_with fail
              refine (HN1.out _).mono ?_
              rintro e w1 ⟨rfl, rfl⟩
              go_wp2_with fail
              refine (HN2.out _).mono ?_
              rintro e w1 ⟨rfl, rfl⟩
              go_wp2_with fail
              all_goals
                go_ret
                exact ⟨rfl, HK0.out⟩
        · have bi : (inp == 1) = false := by rw [beq_eq_false_iff_ne]; exact hi
          have HG : Hid (G = false) := by show _ = _; rw [HGE2.out]; simp [*]
          rw [HG.out]
          clear HG
          go_enter Tryz.func99, Tryz.ntmps99
          go_wp2_with fail
          refine (HR1.out _ HK0.out).mono ?_
          rintro e w1 ⟨rfl, rfl⟩
          go_wp2_with fail
          refine (HR2.out _ HK0.out).mono ?_
          rintro e w1 ⟨rfl, rfl⟩
          go_wp2_with fail
          all_goals
            go_ret
            exact ⟨rfl, HK0.out⟩
      · by_cases hk5 : kind = 5
        · subst hk5
          clear k1 k5 hk1
          by_cases hi : inp = 1
          · subst hi
            cases ve with
            | false =>
              have HG : Hid (G = false) := by show _ = _; rw [HGE2.out]; simp [*]
              rw [HG.out]
              clear HG
              try clear hn0
              go_enter Tryz.func99, Tryz.ntmps99
              go_wp2_with fail
              refine (HR1.out _ HK0.out).mono ?_
              rintro e w1 ⟨rfl, rfl⟩
              go_wp2_with fail
              refine (HR2.out _ HK0.out).mono ?_
              rintro e w1 ⟨rfl, rfl⟩
              go_wp2_with fail
              all_goals
                go_ret
                exact ⟨rfl, HK0.out⟩
            | true =>
              cases te with
              | false =>
                have HG : Hid (G = false) := by show _ = _; rw [HGE2.out]; simp [*]
                rw [HG.out]
                clear HG
                try clear hn0
                go_enter Tryz.func99, Tryz.ntmps99
                go_wp2_with fail
                refine (HR1.out _ HK0.out).mono ?_
                rintro e w1 ⟨rfl, rfl⟩
                go_wp2_with fail
                refine (HR2.out _ HK0.out).mono ?_
                rintro e w1 ⟨rfl, rfl⟩
                go_wp2_with fail
                all_goals
                  go_ret
                  exact ⟨rfl, HK0.out⟩
              | true =>
                by_cases hn0 : n = 0
                · subst hn0
                  have HG : Hid (G = true) := by show _ = _; rw [HGE2.out]; simp [*]
                  rw [HG.out]
                  clear HG
                  try clear hn0
                  go_enter Tryz.func99, Tryz.ntmps99
                  go_wp2_with fail
                  refine (HR1.out _ HK0.out).mono ?_
                  rintro e w1 ⟨rfl, rfl⟩
                  go_wp2_with fail
                  refine (HR2.out _ HK0.out).mono ?_
                  rintro e w1 ⟨rfl, rfl⟩
                  go_wp2_with fail
                  all_goals
                    go_ret
                    exact ⟨rfl, HK0.out⟩
                · have bn2 : (0 : Int) < (n : Int) := by omega
                  have HG : Hid (G = false) := by show _ = _; rw [HGE2.out]; simp [*]
                  rw [HG.out]
                  clear HG
                  try clear hn0
                  go_enter Tryz.func99, Tryz.ntmps99
                  go_wp2_with fail
                  refine (HR1.out _ HK0.out).mono ?_
                  rintro e w1 ⟨rfl, rfl⟩
                  go_wp2_with fail
                  refine (HR2.out _ HK0.out).mono ?_
                  rintro e w1 ⟨rfl, rfl⟩
                  go_wp2_with fail
                  all_goals
                    go_ret
                    exact ⟨rfl, HK0.out⟩
          · have bi : (inp == 1) = false := by rw [beq_eq_false_iff_ne]; exact hi
            have HG : Hid (G = false) := by show _ = _; rw [HGE2.out]; simp [*]
            rw [HG.out]
            clear HG
            go_enter Tryz.func99, Tryz.ntmps99
            go_wp2_with fail
            refine (HR1.out _ HK0.out).mono ?_
            rintro e w1 ⟨rfl, rfl⟩
            go_wp2_with fail
            refine (HR2.out _ HK0.out).mono ?_
            rintro e w1 ⟨rfl, rfl⟩
            go_wp2_with fail
            all_goals
              go_ret
              exact ⟨rfl, HK0.out⟩
        · have hks : kind = 2 ∨ kind = 3 ∨ kind = 4 := by omega
          by_cases hi2 : inp < 2
          · have hi2' : ¬ 2 ≤ inp := by omega
            have HG : Hid (G = false) := by show _ = _; rw [HGE2.out]; simp [*]
            rw [HG.out]
            clear HG
            clear hi2'
            clear hk1 hk5 k1 k5
            rcases hks with rfl | rfl | rfl
            all_goals
              go_enter Tryz.func99, Tryz.ntmps99
              go_wp2_with fail
              refine (HR1.out _ HK0.out).mono ?_
              rintro e w1 ⟨rfl, rfl⟩
              go_wp2_with fail
              refine (HR2.out _ HK0.out).mono ?_
              rintro e w1 ⟨rfl, rfl⟩
              go_wp2_with fail
              all_goals
                go_ret
                exact ⟨rfl, HK0.out⟩
          · have hi2' : 2 ≤ inp := by omega
            by_cases hi12 : 12 < inp
            · have hi12' : ¬ inp ≤ 12 := by omega
              have HG : Hid (G = false) := by show _ = _; rw [HGE2.out]; simp [*]
              rw [HG.out]
              clear HG
              clear hi2' hi12'
              clear hk1 hk5 k1 k5
              rcases hks with rfl | rfl | rfl
              all_goals
                go_enter Tryz.func99, Tryz.ntmps99
                go_wp2_with fail
                refine (HR1.out _ HK0.out).mono ?_
                rintro e w1 ⟨rfl, rfl⟩
                go_wp2_with fail
                refine (HR2.out _ HK0.out).mono ?_
                rintro e w1 ⟨rfl, rfl⟩
                go_wp2_with fail
                all_goals
                  go_ret
                  exact ⟨rfl, HK0.out⟩
            · have hi12' : inp ≤ 12 := by omega
              cases ve with
              | false =>
                have HG : Hid (G = false) := by show _ = _; rw [HGE2.out]; simp [*]
                rw [HG.out]
                clear HG
                clear hi2' hi12'
                try clear hn0
                clear hk1 hk5 k1 k5
                rcases hks with rfl | rfl | rfl
                all_goals
                  go_enter Tryz.func99, Tryz.ntmps99
                  go_wp2_with fail
                  refine (HR1.out _ HK0.out).mono ?_
                  rintro e w1 ⟨rfl, rfl⟩
                  go_wp2_with fail
                  refine (HR2.out _ HK0.out).mono ?_
                  rintro e w1 ⟨rfl, rfl⟩
                  go_wp2_with fail
                  all_goals
                    go_ret
                    exact ⟨rfl, HK0.out⟩
              | true =>
                cases te with
                | false =>
                  have HG : Hid (G = false) := by show _ = _; rw [HGE2.out]; simp [*]
                  rw [HG.out]
                  clear HG
                  clear hi2' hi12'
                  try clear hn0
                  clear hk1 hk5 k1 k5
                  rcases hks with rfl | rfl | rfl
                  all_goals
                    go_enter Tryz.func99, Tryz.ntmps99
                    go_wp2_with fail
                    refine (HR1.out _ HK0.out).mono ?_
                    rintro e w1 ⟨rfl, rfl⟩
                    go_wp2_with fail
                    refine (HR2.out _ HK0.out).mono ?_
                    rintro e w1 ⟨rfl, rfl⟩
                    go_wp2_with fail
                    all_goals
                      go_ret
                      exact ⟨rfl, HK0.out⟩
                | true =>
                  by_cases hn0 : n = 0
                  · subst hn0
                    have HG : Hid (G = true) := by show _ = _; rw [HGE2.out]; simp [*]
                    rw [HG.out]
                    clear HG
                    clear hi2' hi12'
                    try clear hn0
                    clear hk1 hk5 k1 k5
                    rcases hks with rfl | rfl | rfl
                    all_goals
                      go_enter Tryz.func99, Tryz.ntmps99
                      go_wp2_with fail
                      refine (HR1.out _ HK0.out).mono ?_
                      rintro e w1 ⟨rfl, rfl⟩
                      go_wp2_with fail
                      refine (HR2.out _ HK0.out).mono ?_
                      rintro e w1 ⟨rfl, rfl⟩
                      go_wp2_with fail
                      all_goals
                        go_ret
                        exact ⟨rfl, HK0.out⟩
                  · have bn2 : (0 : Int) < (n : Int) := by omega
                    have HG : Hid (G = false) := by show _ = _; rw [HGE2.out]; simp [*]
                    rw [HG.out]
                    clear HG
                    clear hi2' hi12'
                    try clear hn0
                    clear hk1 hk5 k1 k5
                    rcases hks with rfl | rfl | rfl
                    all_goals
                      go_enter Tryz.func99, Tryz.ntmps99
                      go_wp2_with fail
                      refine (HR1.out _ HK0.out).mono ?_
                      rintro e w1 ⟨rfl, rfl⟩
                      go_wp2_with fail
                      refine (HR2.out _ HK0.out).mono ?_
                      rintro e w1 ⟨rfl, rfl⟩
                      go_wp2_with fail
                      all_goals
                        go_ret
                        exact ⟨rfl, HK0.out⟩

end Go.Proofs.YtbaifjdealmckaaGreat
