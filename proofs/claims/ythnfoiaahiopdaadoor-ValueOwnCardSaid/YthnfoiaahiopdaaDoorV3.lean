/- Whether a relation is so: the program's and the document's. -/
import Derived.Test.YthnfoiaahiopdaaDoorRows
import Derived.WalkKit
import Derived.WalkSpells
import Derived.WalkLawsBesides
import Derived.Deep.QuietTactic
import Derived.BigQuiet
import Derived.Lib.Hide
import Derived.Deep.Slices
import Derived.ProofKit
import Derived.SizedLaws
import Derived.Test.YthnfoiaahiopdaaDoorShelf
import Derived.Test.YthnfoiaahiopdaaDoorV2
set_option linter.unusedVariables false
set_option linter.unusedSimpArgs false
set_option linter.unnecessarySimpa false
namespace Go.Proofs.YthnfoiaahiopdaaDoor
open Go.RowKit Go.Shelf
attribute [local go_sem] Oper.semAt_some

def someV (v : ValD) : Bool := decide (v.1 = 1) || decide (v.1 = 2)
def relV (r n : Int) : Bool := if r = 1 then decide (n = 0) else if r = 2 then decide (n ≠ 0) else if r = 3 then decide (n < 0) else if r = 4 then decide (n ≤ 0) else if r = 5 then decide (0 < n) else if r = 6 then decide (0 ≤ n) else false
def holdsV (r : Int) (a b : ValD) : Bool := if (cmpV a b).2 then relV r (cmpV a b).1 else decide (r = 2) && (someV a && someV b)
theorem cmpN_range (a b : Int) : cmpN a b = -1 ∨ cmpN a b = 0 ∨ cmpN a b = 1 := by unfold cmpN; repeat (first | split | omega)
theorem cmpV_range (a b : ValD) : (cmpV a b).1 = -1 ∨ (cmpV a b).1 = 0 ∨ (cmpV a b).1 = 1 := by
  unfold cmpV
  split
  · simp
  · split
    · exact cmpN_range _ _
    · split
      · exact cmp_range _ _
      · simp
/-- The cells of two values, each in a block of its own. -/
structure Two (w : World) (A B : Nat) (k1 n1 k2 n2 : Int) (s1 s2 : ByteArray) : Prop where
  a0 : w.cell? ⟨A, 0, none⟩ = some (.int .i64 k1)
  a1 : w.cell? ⟨A, 1, none⟩ = some (.int .i64 n1)
  a2 : w.cell? ⟨A, 2, none⟩ = some (.string s1)
  b0 : w.cell? ⟨B, 0, none⟩ = some (.int .i64 k2)
  b1 : w.cell? ⟨B, 1, none⟩ = some (.int .i64 n2)
  b2 : w.cell? ⟨B, 2, none⟩ = some (.string s2)
theorem Two.keep {w w' : World} {A B : Nat} {k1 n1 k2 n2 : Int} {s1 s2 : ByteArray} (h : Two w A B k1 n1 k2 n2 s1 s2) (hk : Kept [] w w') : Two w' A B k1 n1 k2 n2 s1 s2 :=
  ⟨hk.cell (by simp) h.a0, hk.cell (by simp) h.a1, hk.cell (by simp) h.a2, hk.cell (by simp) h.b0, hk.cell (by simp) h.b1, hk.cell (by simp) h.b2⟩
theorem Two.new (w : World) (k1 n1 k2 n2 : Int) (s1 s2 : ByteArray) (t : TypeId) : Two ((w.alloc (.cells #[.int .i64 k1, .int .i64 n1, .string s1] t)).alloc (.cells #[.int .i64 k2, .int .i64 n2, .string s2] t)) w.heap.size (w.heap.size + 1) k1 n1 k2 n2 s1 s2 := by
  have ha := (Blk.new w #[.int .i64 k1, .int .i64 n1, .string s1] t).alloc (.cells #[.int .i64 k2, .int .i64 n2, .string s2] t)
  have hb := Blk.new (w.alloc (.cells #[.int .i64 k1, .int .i64 n1, .string s1] t)) #[.int .i64 k2, .int .i64 n2, .string s2] t
  have e : (w.alloc (.cells #[.int .i64 k1, .int .i64 n1, .string s1] t)).heap.size = w.heap.size + 1 := by simp
  rw [e] at hb
  exact ⟨ha.cell 0, ha.cell 1, ha.cell 2, hb.cell 0, hb.cell 1, hb.cell 2⟩

set_option maxRecDepth 100000 in
set_option maxHeartbeats 1000000 in
theorem some_any (k n : Int) (s : ByteArray) (w : World) :
    Calls Tryd.prog 39 #[.agg #[.int .i64 k, .int .i64 n, .string s]] w fun e w' => e = .returned (.bool (someV (k, n, s))) ∧ Kept [] w w' := by
  have HK := Lib.hid ((Kept.refl [] w).alloc (.cells #[.int .i64 k, .int .i64 n, .string s] 23))
  by_cases h1 : k = 1
  · subst h1
    go_enter Tryd.func39, Tryd.ntmps39
    go_wp2_with fail
    go_ret
    exact ⟨rfl, HK.out⟩
  · have b1 : (k == 1) = false := by rw [beq_eq_false_iff_ne]; exact h1
    by_cases h2 : k = 2
    · subst h2
      clear h1
      go_enter Tryd.func39, Tryd.ntmps39
      go_wp2_with fail
      go_ret
      exact ⟨rfl, HK.out⟩
    · have b2 : (k == 2) = false := by rw [beq_eq_false_iff_ne]; exact h2
      have HE : Hid (someV (k, n, s) = false) := by show _ = _; unfold someV; simp [h1, h2]
      rw [HE.out]
      clear HE h1 h2
      go_enter Tryd.func39, Tryd.ntmps39
      go_wp2_with fail
      go_ret
      exact ⟨rfl, HK.out⟩

set_option maxRecDepth 100000 in
set_option maxHeartbeats 1000000 in
theorem rsome_any (k n : Int) (s : ByteArray) (w : World) :
    Calls Tryd.prog 40 #[.agg #[.int .i64 k, .int .i64 n, .string s]] w fun e w' => e = .returned (.bool (someV (k, n, s))) ∧ Kept [] w w' := by
  have HK := Lib.hid ((Kept.refl [] w).alloc (.cells #[.int .i64 k, .int .i64 n, .string s] 23))
  by_cases h1 : k = 1
  · subst h1
    go_enter Tryd.func40, Tryd.ntmps40
    go_wp2_with fail
    go_ret
    exact ⟨rfl, HK.out⟩
  · have b1 : (k == 1) = false := by rw [beq_eq_false_iff_ne]; exact h1
    by_cases h2 : k = 2
    · subst h2
      clear h1
      go_enter Tryd.func40, Tryd.ntmps40
      go_wp2_with fail
      go_ret
      exact ⟨rfl, HK.out⟩
    · have b2 : (k == 2) = false := by rw [beq_eq_false_iff_ne]; exact h2
      have HE : Hid (someV (k, n, s) = false) := by show _ = _; unfold someV; simp [h1, h2]
      rw [HE.out]
      clear HE h1 h2
      go_enter Tryd.func40, Tryd.ntmps40
      go_wp2_with fail
      go_ret
      exact ⟨rfl, HK.out⟩

set_option maxRecDepth 100000 in
set_option maxHeartbeats 8000000 in
theorem holds_any (r k1 n1 k2 n2 : Int) (s1 s2 : ByteArray) (w : World) :
    Calls Tryd.prog 14 #[.int .i64 r, .agg #[.int .i64 k1, .int .i64 n1, .string s1], .agg #[.int .i64 k2, .int .i64 n2, .string s2]] w fun e w' => e = .returned (.bool (holdsV r (k1, n1, s1) (k2, n2, s2))) ∧ Kept [] w w' := by
  have HK0 := Lib.hid (((Kept.refl [] w).alloc (.cells #[.int .i64 k1, .int .i64 n1, .string s1] 23)).alloc (.cells #[.int .i64 k2, .int .i64 n2, .string s2] 23))
  have HT0 := Lib.hid (Two.new w k1 n1 k2 n2 s1 s2 23)
  have HRG := Lib.hid (cmpV_range (k1, n1, s1) (k2, n2, s2))
  obtain ⟨G, hG⟩ : ∃ G, holdsV r (k1, n1, s1) (k2, n2, s2) = G := ⟨_, rfl⟩
  have HGD : Hid (G = if (cmpV (k1, n1, s1) (k2, n2, s2)).2 then relV r (cmpV (k1, n1, s1) (k2, n2, s2)).1 else decide (r = 2) && (someV (k1, n1, s1) && someV (k2, n2, s2))) := hG.symm
  rw [hG]
  obtain ⟨c, hc⟩ : ∃ c, cmpV (k1, n1, s1) (k2, n2, s2) = c := ⟨_, rfl⟩
  rw [hc] at HGD HRG
  obtain ⟨cn, ci⟩ := c
  have HC := Lib.hid hc
  clear hc hG
  cases ci with
  | true =>
    have HR : Hid (G = relV r cn) := HGD.out
    have hrg := HRG.out
    clear HGD HRG
    by_cases h : 1 ≤ r ∧ r ≤ 6
    · have hr : r = 1 ∨ r = 2 ∨ r = 3 ∨ r = 4 ∨ r = 5 ∨ r = 6 := by omega
      rcases hrg with rfl | rfl | rfl
      all_goals
        rcases hr with rfl | rfl | rfl | rfl | rfl | rfl
        all_goals
          rw [HR.out]
          clear HR
          go_enter Tryd.func14, Tryd.ntmps14
          go_wp2_with fail
          refine (compare_any k1 n1 k2 n2 s1 s2 _).mono ?_
          rintro e w1 ⟨rfl, hk1⟩
          have HK1 := Lib.hid (HK0.out.trans hk1)
          have HT1 := Lib.hid (HT0.out.keep hk1)
          clear hk1
          rw [HC.out]
          obtain ⟨a0, a1, a2, b0, b1, b2⟩ := HT1.out
          go_wp2_with fail
          go_ret
          exact ⟨rfl, HK1.out⟩
    · have HE : Hid (G = false) := by show _ = _; rw [HR.out]; unfold relV; repeat (first | rw [if_neg (by omega)] | rfl)
      rw [HE.out]
      have d1 : (r == 1) = false := by rw [beq_eq_false_iff_ne]; omega
      have d2 : (r == 2) = false := by rw [beq_eq_false_iff_ne]; omega
      have d3 : (r == 3) = false := by rw [beq_eq_false_iff_ne]; omega
      have d4 : (r == 4) = false := by rw [beq_eq_false_iff_ne]; omega
      have d5 : (r == 5) = false := by rw [beq_eq_false_iff_ne]; omega
      have d6 : (r == 6) = false := by rw [beq_eq_false_iff_ne]; omega
      clear HE HR h hrg
      go_enter Tryd.func14, Tryd.ntmps14
      go_wp2_with fail
      refine (compare_any k1 n1 k2 n2 s1 s2 _).mono ?_
      rintro e w1 ⟨rfl, hk1⟩
      have HK1 := Lib.hid (HK0.out.trans hk1)
      have HT1 := Lib.hid (HT0.out.keep hk1)
      clear hk1
      rw [HC.out]
      obtain ⟨a0, a1, a2, b0, b1, b2⟩ := HT1.out
      go_wp2_with fail
      go_ret
      exact ⟨rfl, HK1.out⟩
  | false =>
    have HR : Hid (G = (decide (r = 2) && (someV (k1, n1, s1) && someV (k2, n2, s2)))) := HGD.out
    clear HGD HRG
    by_cases h2 : r = 2
    · subst h2
      obtain ⟨p1, hp1⟩ : ∃ p1, someV (k1, n1, s1) = p1 := ⟨_, rfl⟩
      obtain ⟨p2, hp2⟩ : ∃ p2, someV (k2, n2, s2) = p2 := ⟨_, rfl⟩
      rw [hp1, hp2] at HR
      have HP1 := Lib.hid hp1
      have HP2 := Lib.hid hp2
      clear hp1 hp2
      cases p1 with
      | false =>
        have HE : Hid (G = false) := by show _ = _; rw [HR.out]; rfl
        rw [HE.out]
        clear HE HR
        go_enter Tryd.func14, Tryd.ntmps14
        go_wp2_with fail
        refine (compare_any k1 n1 k2 n2 s1 s2 _).mono ?_
        rintro e w1 ⟨rfl, hk1⟩
        have HK1 := Lib.hid (HK0.out.trans hk1)
        have HT1 := Lib.hid (HT0.out.keep hk1)
        clear hk1
        rw [HC.out]
        obtain ⟨a0, a1, a2, b0, b1, b2⟩ := HT1.out
        go_wp2_with fail
        refine (some_any k1 n1 s1 _).mono ?_
        rintro e w2 ⟨rfl, hk2⟩
        have HK2 := Lib.hid (HK1.out.trans hk2)
        have HT2 := Lib.hid (HT1.out.keep hk2)
        clear hk2 a0 a1 a2 b0 b1 b2
        rw [HP1.out]
        obtain ⟨a0, a1, a2, b0, b1, b2⟩ := HT2.out
        go_wp2_with fail
        go_ret
        exact ⟨rfl, HK2.out⟩
      | true =>
        have HE : Hid (G = p2) := by show _ = _; rw [HR.out]; simp
        rw [HE.out]
        clear HE HR
        go_enter Tryd.func14, Tryd.ntmps14
        go_wp2_with fail
        refine (compare_any k1 n1 k2 n2 s1 s2 _).mono ?_
        rintro e w1 ⟨rfl, hk1⟩
        have HK1 := Lib.hid (HK0.out.trans hk1)
        have HT1 := Lib.hid (HT0.out.keep hk1)
        clear hk1
        rw [HC.out]
        obtain ⟨a0, a1, a2, b0, b1, b2⟩ := HT1.out
        go_wp2_with fail
        refine (some_any k1 n1 s1 _).mono ?_
        rintro e w2 ⟨rfl, hk2⟩
        have HK2 := Lib.hid (HK1.out.trans hk2)
        have HT2 := Lib.hid (HT1.out.keep hk2)
        clear hk2 a0 a1 a2 b0 b1 b2
        rw [HP1.out]
        obtain ⟨a0, a1, a2, b0, b1, b2⟩ := HT2.out
        go_wp2_with fail
        refine (some_any k2 n2 s2 _).mono ?_
        rintro e w3 ⟨rfl, hk3⟩
        have HK3 := Lib.hid (HK2.out.trans hk3)
        clear hk3 a0 a1 a2 b0 b1 b2
        rw [HP2.out]
        go_wp2_with fail
        go_ret
        exact ⟨rfl, HK3.out⟩
    · have HE : Hid (G = false) := by show _ = _; rw [HR.out]; simp [h2]
      have d2 : (r == 2) = false := by rw [beq_eq_false_iff_ne]; exact h2
      rw [HE.out]
      clear HE HR h2
      go_enter Tryd.func14, Tryd.ntmps14
      go_wp2_with fail
      refine (compare_any k1 n1 k2 n2 s1 s2 _).mono ?_
      rintro e w1 ⟨rfl, hk1⟩
      have HK1 := Lib.hid (HK0.out.trans hk1)
      have HT1 := Lib.hid (HT0.out.keep hk1)
      clear hk1
      rw [HC.out]
      obtain ⟨a0, a1, a2, b0, b1, b2⟩ := HT1.out
      go_wp2_with fail
      go_ret
      exact ⟨rfl, HK1.out⟩

set_option maxRecDepth 100000 in
set_option maxHeartbeats 8000000 in
theorem rholds_any (r k1 n1 k2 n2 : Int) (s1 s2 : ByteArray) (w : World) :
    Calls Tryd.prog 15 #[.int .i64 r, .agg #[.int .i64 k1, .int .i64 n1, .string s1], .agg #[.int .i64 k2, .int .i64 n2, .string s2]] w fun e w' => e = .returned (.bool (holdsV r (k1, n1, s1) (k2, n2, s2))) ∧ Kept [] w w' := by
  have HK0 := Lib.hid (((Kept.refl [] w).alloc (.cells #[.int .i64 k1, .int .i64 n1, .string s1] 23)).alloc (.cells #[.int .i64 k2, .int .i64 n2, .string s2] 23))
  have HT0 := Lib.hid (Two.new w k1 n1 k2 n2 s1 s2 23)
  have HRG := Lib.hid (cmpV_range (k1, n1, s1) (k2, n2, s2))
  obtain ⟨G, hG⟩ : ∃ G, holdsV r (k1, n1, s1) (k2, n2, s2) = G := ⟨_, rfl⟩
  have HGD : Hid (G = if (cmpV (k1, n1, s1) (k2, n2, s2)).2 then relV r (cmpV (k1, n1, s1) (k2, n2, s2)).1 else decide (r = 2) && (someV (k1, n1, s1) && someV (k2, n2, s2))) := hG.symm
  rw [hG]
  obtain ⟨c, hc⟩ : ∃ c, cmpV (k1, n1, s1) (k2, n2, s2) = c := ⟨_, rfl⟩
  rw [hc] at HGD HRG
  obtain ⟨cn, ci⟩ := c
  have HC := Lib.hid hc
  clear hc hG
  cases ci with
  | true =>
    have HR : Hid (G = relV r cn) := HGD.out
    have hrg := HRG.out
    clear HGD HRG
    by_cases h : 1 ≤ r ∧ r ≤ 6
    · have hr : r = 1 ∨ r = 2 ∨ r = 3 ∨ r = 4 ∨ r = 5 ∨ r = 6 := by omega
      rcases hrg with rfl | rfl | rfl
      all_goals
        rcases hr with rfl | rfl | rfl | rfl | rfl | rfl
        all_goals
          rw [HR.out]
          clear HR
          go_enter Tryd.func15, Tryd.ntmps15
          go_wp2_with fail
          refine (rcompare_any k1 n1 k2 n2 s1 s2 _).mono ?_
          rintro e w1 ⟨rfl, hk1⟩
          have HK1 := Lib.hid (HK0.out.trans hk1)
          have HT1 := Lib.hid (HT0.out.keep hk1)
          clear hk1
          rw [HC.out]
          obtain ⟨a0, a1, a2, b0, b1, b2⟩ := HT1.out
          go_wp2_with fail
          go_ret
          exact ⟨rfl, HK1.out⟩
    · have HE : Hid (G = false) := by show _ = _; rw [HR.out]; unfold relV; repeat (first | rw [if_neg (by omega)] | rfl)
      rw [HE.out]
      have d1 : (r == 1) = false := by rw [beq_eq_false_iff_ne]; omega
      have d2 : (r == 2) = false := by rw [beq_eq_false_iff_ne]; omega
      have d3 : (r == 3) = false := by rw [beq_eq_false_iff_ne]; omega
      have d4 : (r == 4) = false := by rw [beq_eq_false_iff_ne]; omega
      have d5 : (r == 5) = false := by rw [beq_eq_false_iff_ne]; omega
      have d6 : (r == 6) = false := by rw [beq_eq_false_iff_ne]; omega
      clear HE HR h hrg
      go_enter Tryd.func15, Tryd.ntmps15
      go_wp2_with fail
      refine (rcompare_any k1 n1 k2 n2 s1 s2 _).mono ?_
      rintro e w1 ⟨rfl, hk1⟩
      have HK1 := Lib.hid (HK0.out.trans hk1)
      have HT1 := Lib.hid (HT0.out.keep hk1)
      clear hk1
      rw [HC.out]
      obtain ⟨a0, a1, a2, b0, b1, b2⟩ := HT1.out
      go_wp2_with fail
      go_ret
      exact ⟨rfl, HK1.out⟩
  | false =>
    have HR : Hid (G = (decide (r = 2) && (someV (k1, n1, s1) && someV (k2, n2, s2)))) := HGD.out
    clear HGD HRG
    by_cases h2 : r = 2
    · subst h2
      obtain ⟨p1, hp1⟩ : ∃ p1, someV (k1, n1, s1) = p1 := ⟨_, rfl⟩
      obtain ⟨p2, hp2⟩ : ∃ p2, someV (k2, n2, s2) = p2 := ⟨_, rfl⟩
      rw [hp1, hp2] at HR
      have HP1 := Lib.hid hp1
      have HP2 := Lib.hid hp2
      clear hp1 hp2
      cases p1 with
      | false =>
        have HE : Hid (G = false) := by show _ = _; rw [HR.out]; rfl
        rw [HE.out]
        clear HE HR
        go_enter Tryd.func15, Tryd.ntmps15
        go_wp2_with fail
        refine (rcompare_any k1 n1 k2 n2 s1 s2 _).mono ?_
        rintro e w1 ⟨rfl, hk1⟩
        have HK1 := Lib.hid (HK0.out.trans hk1)
        have HT1 := Lib.hid (HT0.out.keep hk1)
        clear hk1
        rw [HC.out]
        obtain ⟨a0, a1, a2, b0, b1, b2⟩ := HT1.out
        go_wp2_with fail
        refine (rsome_any k1 n1 s1 _).mono ?_
        rintro e w2 ⟨rfl, hk2⟩
        have HK2 := Lib.hid (HK1.out.trans hk2)
        have HT2 := Lib.hid (HT1.out.keep hk2)
        clear hk2 a0 a1 a2 b0 b1 b2
        rw [HP1.out]
        obtain ⟨a0, a1, a2, b0, b1, b2⟩ := HT2.out
        go_wp2_with fail
        go_ret
        exact ⟨rfl, HK2.out⟩
      | true =>
        have HE : Hid (G = p2) := by show _ = _; rw [HR.out]; simp
        rw [HE.out]
        clear HE HR
        go_enter Tryd.func15, Tryd.ntmps15
        go_wp2_with fail
        refine (rcompare_any k1 n1 k2 n2 s1 s2 _).mono ?_
        rintro e w1 ⟨rfl, hk1⟩
        have HK1 := Lib.hid (HK0.out.trans hk1)
        have HT1 := Lib.hid (HT0.out.keep hk1)
        clear hk1
        rw [HC.out]
        obtain ⟨a0, a1, a2, b0, b1, b2⟩ := HT1.out
        go_wp2_with fail
        refine (rsome_any k1 n1 s1 _).mono ?_
        rintro e w2 ⟨rfl, hk2⟩
        have HK2 := Lib.hid (HK1.out.trans hk2)
        have HT2 := Lib.hid (HT1.out.keep hk2)
        clear hk2 a0 a1 a2 b0 b1 b2
        rw [HP1.out]
        obtain ⟨a0, a1, a2, b0, b1, b2⟩ := HT2.out
        go_wp2_with fail
        refine (rsome_any k2 n2 s2 _).mono ?_
        rintro e w3 ⟨rfl, hk3⟩
        have HK3 := Lib.hid (HK2.out.trans hk3)
        clear hk3 a0 a1 a2 b0 b1 b2
        rw [HP2.out]
        go_wp2_with fail
        go_ret
        exact ⟨rfl, HK3.out⟩
    · have HE : Hid (G = false) := by show _ = _; rw [HR.out]; simp [h2]
      have d2 : (r == 2) = false := by rw [beq_eq_false_iff_ne]; exact h2
      rw [HE.out]
      clear HE HR h2
      go_enter Tryd.func15, Tryd.ntmps15
      go_wp2_with fail
      refine (rcompare_any k1 n1 k2 n2 s1 s2 _).mono ?_
      rintro e w1 ⟨rfl, hk1⟩
      have HK1 := Lib.hid (HK0.out.trans hk1)
      have HT1 := Lib.hid (HT0.out.keep hk1)
      clear hk1
      rw [HC.out]
      obtain ⟨a0, a1, a2, b0, b1, b2⟩ := HT1.out
      go_wp2_with fail
      go_ret
      exact ⟨rfl, HK1.out⟩

end Go.Proofs.YthnfoiaahiopdaaDoor
