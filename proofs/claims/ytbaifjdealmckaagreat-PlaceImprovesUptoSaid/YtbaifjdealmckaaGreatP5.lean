/- Operators that may be: the program's Check. -/
import Derived.Test.YtbaifjdealmckaaGreatRows
import Derived.WalkKit
import Derived.WalkSpells
import Derived.WalkLawsBesides
import Derived.Deep.QuietTactic
import Derived.BigQuiet
import Derived.Lib.Hide
import Derived.BigRegion
import Derived.Shelf.Abstract
import Derived.Lib.ConvBytes
import Derived.StillTailTactics
import Derived.Laws.AppendOwnNone
import Derived.Deep.AppendLies
import Derived.Deep.Slices
import Derived.ProofKit
import Derived.SizedLaws
import Derived.Test.YtbaifjdealmckaaGreatC7
import Derived.Test.YtbaifjdealmckaaGreatP4
set_option linter.unusedVariables false
set_option linter.unusedSimpArgs false
set_option linter.unnecessarySimpa false
namespace Go.Proofs.YtbaifjdealmckaaGreat
open Go.RowKit Go.Shelf
attribute [local go_sem] Oper.semAt_some

/-- The seven cells of an operator in a block of its own. -/
structure Seven (w : World) (B : Nat) (k : Int) (v t : ByteArray) (tv cv : Value) (win inp : Int) : Prop where
  c0 : w.cell? ⟨B, 0, none⟩ = some (.int .i64 k)
  c1 : w.cell? ⟨B, 1, none⟩ = some (.string v)
  c2 : w.cell? ⟨B, 2, none⟩ = some (.string t)
  c3 : w.cell? ⟨B, 3, none⟩ = some tv
  c4 : w.cell? ⟨B, 4, none⟩ = some cv
  c5 : w.cell? ⟨B, 5, none⟩ = some (.int .i64 win)
  c6 : w.cell? ⟨B, 6, none⟩ = some (.int .i64 inp)
theorem Seven.new (w : World) (k : Int) (v t : ByteArray) (tv cv : Value) (win inp : Int) (ty : TypeId) : Seven (w.alloc (.cells #[.int .i64 k, .string v, .string t, tv, cv, .int .i64 win, .int .i64 inp] ty)) w.heap.size k v t tv cv win inp := by
  have hb := Blk.new w #[.int .i64 k, .string v, .string t, tv, cv, .int .i64 win, .int .i64 inp] ty
  exact ⟨hb.cell 0, hb.cell 1, hb.cell 2, hb.cell 3, hb.cell 4, hb.cell 5, hb.cell 6⟩
theorem Seven.keep {w w' : World} {B : Nat} {k : Int} {v t : ByteArray} {tv cv : Value} {win inp : Int} (h : Seven w B k v t tv cv win inp) (hk : Kept [] w w') : Seven w' B k v t tv cv win inp :=
  ⟨hk.cell (by simp) h.c0, hk.cell (by simp) h.c1, hk.cell (by simp) h.c2, hk.cell (by simp) h.c3, hk.cell (by simp) h.c4, hk.cell (by simp) h.c5, hk.cell (by simp) h.c6⟩

set_option maxRecDepth 100000 in
set_option maxHeartbeats 8000000 in
theorem opcheck_any (kind win inp : Int) (var typ : ByteArray) (tests conds : List CondD) (tv cv : Value) (w : World) (ht : Rds condR w tv tests) (hc : Rds condR w cv conds) (hv : var.size ≤ maxLen) (hy : typ.size ≤ maxLen) :
    Calls Tryz.prog 62 #[.agg #[.int .i64 kind, .string var, .string typ, tv, cv, .int .i64 win, .int .i64 inp]] w fun e w' => e = .returned (.int .i64 (errOp (opV (kind, var, typ, tests, conds, win, inp)))) ∧ Kept [] w w' := by
  have HK0 := Lib.hid ((Kept.refl [] w).alloc (.cells #[.int .i64 kind, .string var, .string typ, tv, cv, .int .i64 win, .int .i64 inp] 88))
  have HB0 := Lib.hid (Seven.new w kind var typ tv cv win inp 88)
  have HR1 : Hid (∀ W, Kept [] w W → Calls Tryz.prog 89 #[tv] W fun e w' => e = .returned (.bool (relsV tests)) ∧ Kept [] W w') := fun W hk => rels_any tv tests W (ht.keep hk)
  have HR2 : Hid (∀ W, Kept [] w W → Calls Tryz.prog 89 #[cv] W fun e w' => e = .returned (.bool (relsV conds)) ∧ Kept [] W w') := fun W hk => rels_any cv conds W (hc.keep hk)
  have HBR : Hid (∀ W, Kept [] w W → Calls Tryz.prog 91 #[.agg #[.int .i64 kind, .string var, .string typ, tv, cv, .int .i64 win, .int .i64 inp]] W fun e w' => e = .returned (.bool (bareV (kind, var, typ, tests, conds, win, inp))) ∧ Kept [] W w') := fun W hk => bare_any kind win inp var typ tests conds tv cv W (ht.keep hk)
  have HN1 : Hid (∀ W, Calls Tryz.prog 90 #[.string var] W fun e w' => e = .returned (.bool (nameV var)) ∧ Kept [] W w') := fun W => name_any var hv W
  have HN2 : Hid (∀ W, Calls Tryz.prog 90 #[.string typ] W fun e w' => e = .returned (.bool (nameV typ)) ∧ Kept [] W w') := fun W => name_any typ hy W
  obtain ⟨G, hG⟩ : ∃ G, opV (kind, var, typ, tests, conds, win, inp) = G := ⟨_, rfl⟩
  have HGE : Hid (G = (winV win && relsV tests && relsV conds && kindV (kind, var, typ, tests, conds, win, inp))) := hG.symm
  rw [hG]
  have HKV : Hid (kindV (kind, var, typ, tests, conds, win, inp) = (if kind = 1 then decide (inp = 1) && nameV var && nameV typ else if kind = 5 then decide (inp = 1) && bareV (kind, var, typ, tests, conds, win, inp) else if kind = 2 ∨ kind = 3 ∨ kind = 4 then decide (2 ≤ inp) && decide (inp ≤ 12) && bareV (kind, var, typ, tests, conds, win, inp) else false)) := rfl
  obtain ⟨r1, hr1⟩ : ∃ r1, relsV tests = r1 := ⟨_, rfl⟩
  obtain ⟨r2, hr2⟩ : ∃ r2, relsV conds = r2 := ⟨_, rfl⟩
  obtain ⟨n1, hn1⟩ : ∃ n1, nameV var = n1 := ⟨_, rfl⟩
  obtain ⟨n2, hn2⟩ : ∃ n2, nameV typ = n2 := ⟨_, rfl⟩
  obtain ⟨br, hbr⟩ : ∃ br, bareV (kind, var, typ, tests, conds, win, inp) = br := ⟨_, rfl⟩
  obtain ⟨kv, hkv⟩ : ∃ kv, kindV (kind, var, typ, tests, conds, win, inp) = kv := ⟨_, rfl⟩
  rw [hr1] at HR1 HGE
  rw [hr2] at HR2 HGE
  rw [hn1] at HN1
  rw [hn2] at HN2
  rw [hbr] at HBR
  rw [hkv] at HGE
  rw [hn1, hn2, hbr, hkv] at HKV
  clear hr1 hr2 hn1 hn2 hbr hkv hG ht hc hv hy
  by_cases h1 : 1 ≤ win
  · by_cases h2 : win ≤ 1099511627776
    · have HW : Hid (winV win = true) := by show _ = _; unfold winV; simp; omega
      cases r1 with
      | false =>
        have HG : Hid (G = false) := by show _ = _; rw [HGE.out]; simp
        rw [HG.out]
        clear HW
        go_enter Tryz.func62, Tryz.ntmps62
        go_wp2_with fail
        refine (HR1.out _ HK0.out).mono ?_
        rintro e w1 ⟨rfl, hk1⟩
        have HK1 := Lib.hid (HK0.out.trans hk1)
        obtain ⟨c0, c1, c2, c3, c4, c5, c6⟩ := HB0.out.keep hk1
        go_wp2_with fail
        all_goals
          go_ret
          exact ⟨rfl, HK1.out⟩
      | true =>
        cases r2 with
        | false =>
          have HG : Hid (G = false) := by show _ = _; rw [HGE.out]; simp
          rw [HG.out]
          clear HW
          go_enter Tryz.func62, Tryz.ntmps62
          go_wp2_with fail
          refine (HR1.out _ HK0.out).mono ?_
          rintro e w1 ⟨rfl, hk1⟩
          have HK1 := Lib.hid (HK0.out.trans hk1)
          have HB1 := Lib.hid (HB0.out.keep hk1)
          obtain ⟨c0, c1, c2, c3, c4, c5, c6⟩ := HB1.out
          go_wp2_with fail
          refine (HR2.out _ HK1.out).mono ?_
          rintro e w2 ⟨rfl, hk2⟩
          have HK2 := Lib.hid (HK1.out.trans hk2)
          clear c0 c1 c2 c3 c4 c5 c6
          obtain ⟨c0, c1, c2, c3, c4, c5, c6⟩ := HB1.out.keep hk2
          go_wp2_with fail
          all_goals
            go_ret
            exact ⟨rfl, HK2.out⟩
        | true =>
          have HGK : Hid (G = kv) := by show _ = _; rw [HGE.out, HW.out]; simp
          rw [HGK.out]
          clear HW HGE HGK
          by_cases hk1 : kind = 1
          · subst hk1
            by_cases hi : inp = 1
            · subst hi
              cases n1 with
              | false =>
                have HG : Hid (kv = false) := by show _ = _; rw [HKV.out]; simp [*]
                rw [HG.out]
                go_enter Tryz.func62, Tryz.ntmps62
                go_wp2_with fail
                refine (HR1.out _ HK0.out).mono ?_
                rintro e w1 ⟨rfl, hk1⟩
                have HK1 := Lib.hid (HK0.out.trans hk1)
                have HB1 := Lib.hid (HB0.out.keep hk1)
                obtain ⟨c0, c1, c2, c3, c4, c5, c6⟩ := HB1.out
                go_wp2_with fail
                refine (HR2.out _ HK1.out).mono ?_
                rintro e w2 ⟨rfl, hk2⟩
                have HK2 := Lib.hid (HK1.out.trans hk2)
                have HB2 := Lib.hid (HB1.out.keep hk2)
                clear c0 c1 c2 c3 c4 c5 c6
                obtain ⟨c0, c1, c2, c3, c4, c5, c6⟩ := HB2.out
                go_wp2_with fail
                refine (HN1.out _).mono ?_
                rintro e w3 ⟨rfl, hk3⟩
                have HK3 := Lib.hid (HK2.out.trans hk3)
                have HB3 := Lib.hid (HB2.out.keep hk3)
                clear c0 c1 c2 c3 c4 c5 c6
                obtain ⟨c0, c1, c2, c3, c4, c5, c6⟩ := HB3.out
                go_wp2_with fail
                go_ret
                exact ⟨rfl, HK3.out⟩
              | true =>
                cases n2 with
                | false =>
                  have HG : Hid (kv = false) := by show _ = _; rw [HKV.out]; simp [*]
                  rw [HG.out]
                  go_enter Tryz.func62, Tryz.ntmps62
                  go_wp2_with fail
                  refine (HR1.out _ HK0.out).mono ?_
                  rintro e w1 ⟨rfl, hk1⟩
                  have HK1 := Lib.hid (HK0.out.trans hk1)
                  have HB1 := Lib.hid (HB0.out.keep hk1)
                  obtain ⟨c0, c1, c2, c3, c4, c5, c6⟩ := HB1.out
                  go_wp2_with fail
                  refine (HR2.out _ HK1.out).mono ?_
                  rintro e w2 ⟨rfl, hk2⟩
                  have HK2 := Lib.hid (HK1.out.trans hk2)
                  have HB2 := Lib.hid (HB1.out.keep hk2)
                  clear c0 c1 c2 c3 c4 c5 c6
                  obtain ⟨c0, c1, c2, c3, c4, c5, c6⟩ := HB2.out
                  go_wp2_with fail
                  refine (HN1.out _).mono ?_
                  rintro e w3 ⟨rfl, hk3⟩
                  have HK3 := Lib.hid (HK2.out.trans hk3)
                  have HB3 := Lib.hid (HB2.out.keep hk3)
                  clear c0 c1 c2 c3 c4 c5 c6
                  obtain ⟨c0, c1, c2, c3, c4, c5, c6⟩ := HB3.out
                  go_wp2_with fail
                  refine (HN2.out _).mono ?_
                  rintro e w4 ⟨rfl, hk4⟩
                  have HK4 := Lib.hid (HK3.out.trans hk4)
                  have HB4 := Lib.hid (HB3.out.keep hk4)
                  clear c0 c1 c2 c3 c4 c5 c6
                  obtain ⟨c0, c1, c2, c3, c4, c5, c6⟩ := HB4.out
                  go_wp2_with fail
                  go_ret
                  exact ⟨rfl, HK4.out⟩
                | true =>
                  have HG : Hid (kv = true) := by show _ = _; rw [HKV.out]; simp [*]
                  rw [HG.out]
                  go_enter Tryz.func62, Tryz.ntmps62
                  go_wp2_with fail
                  refine (HR1.out _ HK0.out).mono ?_
                  rintro e w1 ⟨rfl, hk1⟩
                  have HK1 := Lib.hid (HK0.out.trans hk1)
                  have HB1 := Lib.hid (HB0.out.keep hk1)
                  obtain ⟨c0, c1, c2, c3, c4, c5, c6⟩ := HB1.out
                  go_wp2_with fail
                  refine (HR2.out _ HK1.out).mono ?_
                  rintro e w2 ⟨rfl, hk2⟩
                  have HK2 := Lib.hid (HK1.out.trans hk2)
                  have HB2 := Lib.hid (HB1.out.keep hk2)
                  clear c0 c1 c2 c3 c4 c5 c6
                  obtain ⟨c0, c1, c2, c3, c4, c5, c6⟩ := HB2.out
                  go_wp2_with fail
                  refine (HN1.out _).mono ?_
                  rintro e w3 ⟨rfl, hk3⟩
                  have HK3 := Lib.hid (HK2.out.trans hk3)
                  have HB3 := Lib.hid (HB2.out.keep hk3)
                  clear c0 c1 c2 c3 c4 c5 c6
                  obtain ⟨c0, c1, c2, c3, c4, c5, c6⟩ := HB3.out
                  go_wp2_with fail
                  refine (HN2.out _).mono ?_
                  rintro e w4 ⟨rfl, hk4⟩
                  have HK4 := Lib.hid (HK3.out.trans hk4)
                  have HB4 := Lib.hid (HB3.out.keep hk4)
                  clear c0 c1 c2 c3 c4 c5 c6
                  obtain ⟨c0, c1, c2, c3, c4, c5, c6⟩ := HB4.out
                  go_wp2_with fail
                  go_ret
                  exact ⟨rfl, HK4.out⟩
            · have bi : (inp == 1) = false := by rw [beq_eq_false_iff_ne]; exact hi
              have HG : Hid (kv = false) := by show _ = _; rw [HKV.out]; simp [*]
              rw [HG.out]
              go_enter Tryz.func62, Tryz.ntmps62
              go_wp2_with fail
              refine (HR1.out _ HK0.out).mono ?_
              rintro e w1 ⟨rfl, hk1⟩
              have HK1 := Lib.hid (HK0.out.trans hk1)
              have HB1 := Lib.hid (HB0.out.keep hk1)
              obtain ⟨c0, c1, c2, c3, c4, c5, c6⟩ := HB1.out
              go_wp2_with fail
              refine (HR2.out _ HK1.out).mono ?_
              rintro e w2 ⟨rfl, hk2⟩
              have HK2 := Lib.hid (HK1.out.trans hk2)
              have HB2 := Lib.hid (HB1.out.keep hk2)
              clear c0 c1 c2 c3 c4 c5 c6
              obtain ⟨c0, c1, c2, c3, c4, c5, c6⟩ := HB2.out
              go_wp2_with fail
              go_ret
              exact ⟨rfl, HK2.out⟩
          · by_cases hk5 : kind = 5
            · subst hk5
              clear hk1
              by_cases hi : inp = 1
              · subst hi
                cases br with
                | false =>
                  have HG : Hid (kv = false) := by show _ = _; rw [HKV.out]; simp [*]
                  rw [HG.out]
                  go_enter Tryz.func62, Tryz.ntmps62
                  go_wp2_with fail
                  refine (HR1.out _ HK0.out).mono ?_
                  rintro e w1 ⟨rfl, hk1⟩
                  have HK1 := Lib.hid (HK0.out.trans hk1)
                  have HB1 := Lib.hid (HB0.out.keep hk1)
                  obtain ⟨c0, c1, c2, c3, c4, c5, c6⟩ := HB1.out
                  go_wp2_with fail
                  refine (HR2.out _ HK1.out).mono ?_
                  rintro e w2 ⟨rfl, hk2⟩
                  have HK2 := Lib.hid (HK1.out.trans hk2)
                  have HB2 := Lib.hid (HB1.out.keep hk2)
                  clear c0 c1 c2 c3 c4 c5 c6
                  obtain ⟨c0, c1, c2, c3, c4, c5, c6⟩ := HB2.out
                  go_wp2_with fail
                  refine (HBR.out _ HK2.out).mono ?_
                  rintro e w3 ⟨rfl, hk3⟩
                  have HK3 := Lib.hid (HK2.out.trans hk3)
                  have HB3 := Lib.hid (HB2.out.keep hk3)
                  clear c0 c1 c2 c3 c4 c5 c6
                  obtain ⟨c0, c1, c2, c3, c4, c5, c6⟩ := HB3.out
                  go_wp2_with fail
                  go_ret
                  exact ⟨rfl, HK3.out⟩
                | true =>
                  have HG : Hid (kv = true) := by show _ = _; rw [HKV.out]; simp [*]
                  rw [HG.out]
                  go_enter Tryz.func62, Tryz.ntmps62
                  go_wp2_with fail
                  refine (HR1.out _ HK0.out).mono ?_
                  rintro e w1 ⟨rfl, hk1⟩
                  have HK1 := Lib.hid (HK0.out.trans hk1)
                  have HB1 := Lib.hid (HB0.out.keep hk1)
                  obtain ⟨c0, c1, c2, c3, c4, c5, c6⟩ := HB1.out
                  go_wp2_with fail
                  refine (HR2.out _ HK1.out).mono ?_
                  rintro e w2 ⟨rfl, hk2⟩
                  have HK2 := Lib.hid (HK1.out.trans hk2)
                  have HB2 := Lib.hid (HB1.out.keep hk2)
                  clear c0 c1 c2 c3 c4 c5 c6
                  obtain ⟨c0, c1, c2, c3, c4, c5, c6⟩ := HB2.out
                  go_wp2_with fail
                  refine (HBR.out _ HK2.out).mono ?_
                  rintro e w3 ⟨rfl, hk3⟩
                  have HK3 := Lib.hid (HK2.out.trans hk3)
                  have HB3 := Lib.hid (HB2.out.keep hk3)
                  clear c0 c1 c2 c3 c4 c5 c6
                  obtain ⟨c0, c1, c2, c3, c4, c5, c6⟩ := HB3.out
                  go_wp2_with fail
                  go_ret
                  exact ⟨rfl, HK3.out⟩
              · have bi : (inp == 1) = false := by rw [beq_eq_false_iff_ne]; exact hi
                have HG : Hid (kv = false) := by show _ = _; rw [HKV.out]; simp [*]
                rw [HG.out]
                go_enter Tryz.func62, Tryz.ntmps62
                go_wp2_with fail
                refine (HR1.out _ HK0.out).mono ?_
                rintro e w1 ⟨rfl, hk1⟩
                have HK1 := Lib.hid (HK0.out.trans hk1)
                have HB1 := Lib.hid (HB0.out.keep hk1)
                obtain ⟨c0, c1, c2, c3, c4, c5, c6⟩ := HB1.out
                go_wp2_with fail
                refine (HR2.out _ HK1.out).mono ?_
                rintro e w2 ⟨rfl, hk2⟩
                have HK2 := Lib.hid (HK1.out.trans hk2)
                have HB2 := Lib.hid (HB1.out.keep hk2)
                clear c0 c1 c2 c3 c4 c5 c6
                obtain ⟨c0, c1, c2, c3, c4, c5, c6⟩ := HB2.out
                go_wp2_with fail
                go_ret
                exact ⟨rfl, HK2.out⟩
            · by_cases hks : kind = 2 ∨ kind = 3 ∨ kind = 4
              · by_cases hi2 : 2 ≤ inp
                · by_cases hi12 : inp ≤ 12
                  · cases br with
                    | false =>
                      have HG : Hid (kv = false) := by show _ = _; rw [HKV.out]; simp [*]
                      rw [HG.out]
                      clear HG hk1 hk5
                      rcases hks with rfl | rfl | rfl
                      all_goals
                        go_enter Tryz.func62, Tryz.ntmps62
                        go_wp2_with fail
                        refine (HR1.out _ HK0.out).mono ?_
                        rintro e w1 ⟨rfl, hk1⟩
                        have HK1 := Lib.hid (HK0.out.trans hk1)
                        have HB1 := Lib.hid (HB0.out.keep hk1)
                        obtain ⟨c0, c1, c2, c3, c4, c5, c6⟩ := HB1.out
                        go_wp2_with fail
                        refine (HR2.out _ HK1.out).mono ?_
                        rintro e w2 ⟨rfl, hk2⟩
                        have HK2 := Lib.hid (HK1.out.trans hk2)
                        have HB2 := Lib.hid (HB1.out.keep hk2)
                        clear c0 c1 c2 c3 c4 c5 c6
                        obtain ⟨c0, c1, c2, c3, c4, c5, c6⟩ := HB2.out
                        go_wp2_with fail
                        refine (HBR.out _ HK2.out).mono ?_
                        rintro e w3 ⟨rfl, hk3⟩
                        have HK3 := Lib.hid (HK2.out.trans hk3)
                        have HB3 := Lib.hid (HB2.out.keep hk3)
                        clear c0 c1 c2 c3 c4 c5 c6
                        obtain ⟨c0, c1, c2, c3, c4, c5, c6⟩ := HB3.out
                        go_wp2_with fail
                        go_ret
                        exact ⟨rfl, HK3.out⟩
                    | true =>
                      have HG : Hid (kv = true) := by show _ = _; rw [HKV.out]; simp [*]
                      rw [HG.out]
                      clear HG hk1 hk5
                      rcases hks with rfl | rfl | rfl
                      all_goals
                        go_enter Tryz.func62, Tryz.ntmps62
                        go_wp2_with fail
                        refine (HR1.out _ HK0.out).mono ?_
                        rintro e w1 ⟨rfl, hk1⟩
                        have HK1 := Lib.hid (HK0.out.trans hk1)
                        have HB1 := Lib.hid (HB0.out.keep hk1)
                        obtain ⟨c0, c1, c2, c3, c4, c5, c6⟩ := HB1.out
                        go_wp2_with fail
                        refine (HR2.out _ HK1.out).mono ?_
                        rintro e w2 ⟨rfl, hk2⟩
                        have HK2 := Lib.hid (HK1.out.trans hk2)
                        have HB2 := Lib.hid (HB1.out.keep hk2)
                        clear c0 c1 c2 c3 c4 c5 c6
                        obtain ⟨c0, c1, c2, c3, c4, c5, c6⟩ := HB2.out
                        go_wp2_with fail
                        refine (HBR.out _ HK2.out).mono ?_
                        rintro e w3 ⟨rfl, hk3⟩
                        have HK3 := Lib.hid (HK2.out.trans hk3)
                        have HB3 := Lib.hid (HB2.out.keep hk3)
                        clear c0 c1 c2 c3 c4 c5 c6
                        obtain ⟨c0, c1, c2, c3, c4, c5, c6⟩ := HB3.out
                        go_wp2_with fail
                        go_ret
                        exact ⟨rfl, HK3.out⟩
                  · have HG : Hid (kv = false) := by show _ = _; rw [HKV.out]; simp [*]
                    rw [HG.out]
                    clear HG hk1 hk5
                    rcases hks with rfl | rfl | rfl
                    all_goals
                      go_enter Tryz.func62, Tryz.ntmps62
                      go_wp2_with fail
                      refine (HR1.out _ HK0.out).mono ?_
                      rintro e w1 ⟨rfl, hk1⟩
                      have HK1 := Lib.hid (HK0.out.trans hk1)
                      have HB1 := Lib.hid (HB0.out.keep hk1)
                      obtain ⟨c0, c1, c2, c3, c4, c5, c6⟩ := HB1.out
                      go_wp2_with fail
                      refine (HR2.out _ HK1.out).mono ?_
                      rintro e w2 ⟨rfl, hk2⟩
                      have HK2 := Lib.hid (HK1.out.trans hk2)
                      have HB2 := Lib.hid (HB1.out.keep hk2)
                      clear c0 c1 c2 c3 c4 c5 c6
                      obtain ⟨c0, c1, c2, c3, c4, c5, c6⟩ := HB2.out
                      go_wp2_with fail
                      go_ret
                      exact ⟨rfl, HK2.out⟩
                · have HG : Hid (kv = false) := by show _ = _; rw [HKV.out]; simp [*]
                  rw [HG.out]
                  clear HG hk1 hk5
                  rcases hks with rfl | rfl | rfl
                  all_goals
                    go_enter Tryz.func62, Tryz.ntmps62
                    go_wp2_with fail
                    refine (HR1.out _ HK0.out).mono ?_
                    rintro e w1 ⟨rfl, hk1⟩
                    have HK1 := Lib.hid (HK0.out.trans hk1)
                    have HB1 := Lib.hid (HB0.out.keep hk1)
                    obtain ⟨c0, c1, c2, c3, c4, c5, c6⟩ := HB1.out
                    go_wp2_with fail
                    refine (HR2.out _ HK1.out).mono ?_
                    rintro e w2 ⟨rfl, hk2⟩
                    have HK2 := Lib.hid (HK1.out.trans hk2)
                    have HB2 := Lib.hid (HB1.out.keep hk2)
                    clear c0 c1 c2 c3 c4 c5 c6
                    obtain ⟨c0, c1, c2, c3, c4, c5, c6⟩ := HB2.out
                    go_wp2_with fail
                    go_ret
                    exact ⟨rfl, HK2.out⟩
              · have HG : Hid (kv = false) := by show _ = _; rw [HKV.out]; simp [*]
                rw [HG.out]
                have b1 : (kind == 1) = false := by rw [beq_eq_false_iff_ne]; omega
                have b2 : (kind == 2) = false := by rw [beq_eq_false_iff_ne]; omega
                have b3 : (kind == 3) = false := by rw [beq_eq_false_iff_ne]; omega
                have b4 : (kind == 4) = false := by rw [beq_eq_false_iff_ne]; omega
                have b5 : (kind == 5) = false := by rw [beq_eq_false_iff_ne]; omega
                clear HG
                go_enter Tryz.func62, Tryz.ntmps62
                go_wp2_with fail
                refine (HR1.out _ HK0.out).mono ?_
                rintro e w1 ⟨rfl, hk1⟩
                have HK1 := Lib.hid (HK0.out.trans hk1)
                have HB1 := Lib.hid (HB0.out.keep hk1)
                obtain ⟨c0, c1, c2, c3, c4, c5, c6⟩ := HB1.out
                go_wp2_with fail
                refine (HR2.out _ HK1.out).mono ?_
                rintro e w2 ⟨rfl, hk2⟩
                have HK2 := Lib.hid (HK1.out.trans hk2)
                have HB2 := Lib.hid (HB1.out.keep hk2)
                clear c0 c1 c2 c3 c4 c5 c6
                obtain ⟨c0, c1, c2, c3, c4, c5, c6⟩ := HB2.out
                go_wp2_with fail
                go_ret
                exact ⟨rfl, HK2.out⟩

    · have HG : Hid (G = false) := by show _ = _; rw [HGE.out]; unfold winV; simp; omega
      rw [HG.out]
      go_enter Tryz.func62, Tryz.ntmps62
      go_wp2_with fail
      all_goals
        go_ret
        exact ⟨rfl, HK0.out⟩
  · have HG : Hid (G = false) := by show _ = _; rw [HGE.out]; unfold winV; simp; omega
    rw [HG.out]
    go_enter Tryz.func62, Tryz.ntmps62
    go_wp2_with fail
    all_goals
      go_ret
      exact ⟨rfl, HK0.out⟩

end Go.Proofs.YtbaifjdealmckaaGreat
