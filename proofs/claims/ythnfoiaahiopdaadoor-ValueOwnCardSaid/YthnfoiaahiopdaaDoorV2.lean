/- How two values stand to each other: the document's; relations turned. -/
import Derived.Test.YthnfoiaahiopdaaDoorRows
import Derived.WalkKit
import Derived.WalkSpells
import Derived.WalkLawsBesides
import Derived.Deep.QuietTactic
import Derived.BigQuiet
import Derived.Lib.Hide
import Derived.Deep.Slices
import Derived.ProofKit
import Derived.SizedLaws
import Derived.Test.YthnfoiaahiopdaaDoorShelf
import Derived.Test.YthnfoiaahiopdaaDoorV1
set_option linter.unusedVariables false
set_option linter.unusedSimpArgs false
set_option linter.unnecessarySimpa false
namespace Go.Proofs.YthnfoiaahiopdaaDoor
open Go.RowKit Go.Shelf
attribute [local go_sem] Oper.semAt_some

set_option maxRecDepth 100000 in
set_option maxHeartbeats 2000000 in
theorem rcompare_any (k1 n1 k2 n2 : Int) (s1 s2 : ByteArray) (w : World) :
    Calls Tryd.prog 13 #[.agg #[.int .i64 k1, .int .i64 n1, .string s1], .agg #[.int .i64 k2, .int .i64 n2, .string s2]] w fun e w' =>
      e = .returned (.tuple #[.int .i64 (cmpV (k1, n1, s1) (k2, n2, s2)).1, .bool (cmpV (k1, n1, s1) (k2, n2, s2)).2]) ∧ Kept [] w w' := by
  have HK := Lib.hid (((Kept.refl [] w).alloc (.cells #[.int .i64 k1, .int .i64 n1, .string s1] 23)).alloc (.cells #[.int .i64 k2, .int .i64 n2, .string s2] 23))
  obtain ⟨G, hG⟩ : ∃ G, cmpV (k1, n1, s1) (k2, n2, s2) = G := ⟨_, rfl⟩
  rw [hG]
  have HG := Lib.hid hG
  clear hG
  by_cases h1 : k1 = 1
  · subst h1
    by_cases h2 : k2 = 1
    · subst h2
      by_cases hl : n1 < n2
      · have HE : Hid (G = (-1, true)) := by show _ = _; rw [← HG.out]; simp [cmpV, cmpN, hl]
        rw [HE.out]
        clear HE HG
        go_enter Tryd.func13, Tryd.ntmps13
        go_wp2_with fail
        go_ret2
        exact ⟨rfl, HK.out⟩
      · by_cases hl2 : n2 < n1
        · have HE : Hid (G = (1, true)) := by show _ = _; rw [← HG.out]; simp [cmpV, cmpN, hl, hl2]
          rw [HE.out]
          clear HE HG
          go_enter Tryd.func13, Tryd.ntmps13
          go_wp2_with fail
          go_ret2
          exact ⟨rfl, HK.out⟩
        · have HE : Hid (G = (0, true)) := by show _ = _; rw [← HG.out]; simp [cmpV, cmpN, hl, hl2]
          rw [HE.out]
          clear HE HG
          go_enter Tryd.func13, Tryd.ntmps13
          go_wp2_with fail
          go_ret2
          exact ⟨rfl, HK.out⟩
    · have b2 : (k2 == 1) = false := by rw [beq_eq_false_iff_ne]; exact h2
      have HE : Hid (G = (0, false)) := by show _ = _; rw [← HG.out]; simp [cmpV]; omega
      rw [HE.out]
      clear HE HG h2
      go_enter Tryd.func13, Tryd.ntmps13
      go_wp2_with fail
      go_ret2
      exact ⟨rfl, HK.out⟩
  · have b1 : (k1 == 1) = false := by rw [beq_eq_false_iff_ne]; exact h1
    by_cases h3 : k1 = 2
    · subst h3
      by_cases h2 : k2 = 2
      · subst h2
        have HR : Hid (G = (cmpB s1 s2, true)) := by show _ = _; rw [← HG.out]; simp [cmpV]
        have L1 : Op.bytesLess s1.toList s2.toList = decide (cmpB s1 s2 = -1) := by rw [ByteArray.toList_eq, ByteArray.toList_eq]; exact less_cmp _ _
        have L2 : Op.bytesLess s2.toList s1.toList = decide (cmpB s1 s2 = 1) := by
          rw [ByteArray.toList_eq, ByteArray.toList_eq, less_cmp, cmp_swap]; unfold cmpB
          congr 1; apply propext; omega
        have L3 : (s1.toList == s2.toList) = decide (cmpB s1 s2 = 0) := by
          rw [ByteArray.toList_eq, ByteArray.toList_eq, Bool.eq_iff_iff]
          simp [cmpB, cmp_zero]
        rcases cmp_range s1.data.toList s2.data.toList with hc | hc | hc
        · have HE : Hid (G = (-1, true)) := by show _ = _; rw [HR.out, cmpB, hc]
          have l1 : Op.bytesLess s1.toList s2.toList = true := by rw [L1, cmpB, hc]; rfl
          rw [HE.out]
          clear HE HG HR h1 b1 L1 L2 L3 hc
          go_enter Tryd.func13, Tryd.ntmps13
          go_wp2_with fail
          go_ret2
          exact ⟨rfl, HK.out⟩
        · have HE : Hid (G = (0, true)) := by show _ = _; rw [HR.out, cmpB, hc]
          have l1 : Op.bytesLess s1.toList s2.toList = false := by rw [L1, cmpB, hc]; rfl
          have l3 : (s1.toList == s2.toList) = true := by rw [L3, cmpB, hc]; rfl
          rw [HE.out]
          clear HE HG HR h1 b1 L1 L2 L3 hc
          go_enter Tryd.func13, Tryd.ntmps13
          go_wp2_with fail
          go_ret2
          exact ⟨rfl, HK.out⟩
        · have HE : Hid (G = (1, true)) := by show _ = _; rw [HR.out, cmpB, hc]
          have l1 : Op.bytesLess s1.toList s2.toList = false := by rw [L1, cmpB, hc]; rfl
          have l3 : (s1.toList == s2.toList) = false := by rw [L3, cmpB, hc]; rfl
          rw [HE.out]
          clear HE HG HR h1 b1 L1 L2 L3 hc
          go_enter Tryd.func13, Tryd.ntmps13
          go_wp2_with fail
          go_ret2
          exact ⟨rfl, HK.out⟩
      · have b2 : (k2 == 2) = false := by rw [beq_eq_false_iff_ne]; exact h2
        have HE : Hid (G = (0, false)) := by show _ = _; rw [← HG.out]; simp [cmpV]; omega
        rw [HE.out]
        clear HE HG h2 h1
        go_enter Tryd.func13, Tryd.ntmps13
        go_wp2_with fail
        go_ret2
        exact ⟨rfl, HK.out⟩
    · have b3 : (k1 == 2) = false := by rw [beq_eq_false_iff_ne]; exact h3
      have HE : Hid (G = (0, false)) := by show _ = _; rw [← HG.out]; simp [cmpV, h1, h3]
      rw [HE.out]
      clear HE HG h1 h3
      go_enter Tryd.func13, Tryd.ntmps13
      go_wp2_with fail
      go_ret2
      exact ⟨rfl, HK.out⟩

/-- What a table has for a relation. -/
def otherV (r a0 a1 a2 a3 a4 a5 a6 : Int) : Int := if r = 0 then a0 else if r = 1 then a1 else if r = 2 then a2 else if r = 3 then a3 else if r = 4 then a4 else if r = 5 then a5 else if r = 6 then a6 else 0
theorem rel_ways (r : Int) : r < 0 ∨ r = 0 ∨ r = 1 ∨ r = 2 ∨ r = 3 ∨ r = 4 ∨ r = 5 ∨ r = 6 ∨ 7 ≤ r := by omega
set_option maxRecDepth 100000 in
set_option maxHeartbeats 4000000 in
theorem other_any (r a0 a1 a2 a3 a4 a5 a6 : Int) (w : World) :
    Calls Tryd.prog 41 #[.int .i64 r, .agg #[.int .i64 a0, .int .i64 a1, .int .i64 a2, .int .i64 a3, .int .i64 a4, .int .i64 a5, .int .i64 a6]] w fun e w' =>
      e = .returned (.int .i64 (otherV r a0 a1 a2 a3 a4 a5 a6)) ∧ Kept [] w w' := by
  have HK := Lib.hid ((Kept.refl [] w).alloc (.cells #[.int .i64 a0, .int .i64 a1, .int .i64 a2, .int .i64 a3, .int .i64 a4, .int .i64 a5, .int .i64 a6] 53))
  rcases rel_ways r with h | rfl | rfl | rfl | rfl | rfl | rfl | rfl | h
  · have HE : Hid (otherV r a0 a1 a2 a3 a4 a5 a6 = 0) := by show _ = _; unfold otherV; repeat (rw [if_neg (by omega)])
    rw [HE.out]
    clear HE
    go_enter Tryd.func41, Tryd.ntmps41
    go_wp2_with fail
    go_ret
    exact ⟨rfl, HK.out⟩
  all_goals try
    show Calls Tryd.prog 41 _ w _
    first
      | (have hno : (7 : Int) ≤ r := h
         fail)
      | (go_enter Tryd.func41, Tryd.ntmps41
         go_wp2_with fail
         go_ret
         exact ⟨rfl, HK.out⟩)
  have HE : Hid (otherV r a0 a1 a2 a3 a4 a5 a6 = 0) := by show _ = _; unfold otherV; repeat (rw [if_neg (by omega)])
  rw [HE.out]
  clear HE
  have b0 : ¬ r < 0 := by omega
  go_enter Tryd.func41, Tryd.ntmps41
  go_wp2_with fail
  go_ret
  exact ⟨rfl, HK.out⟩

def swapV (r : Int) : Int := otherV r 0 1 2 5 6 3 4
def notV (r : Int) : Int := otherV r 0 2 1 6 5 4 3
set_option maxRecDepth 100000 in
theorem swap_any (r : Int) (w : World) : Calls Tryd.prog 16 #[.int .i64 r] w fun e w' => e = .returned (.int .i64 (swapV r)) ∧ Kept [] w w' := by
  go_enter Tryd.func16, Tryd.ntmps16
  go_wp2_with fail
  refine (other_any _ _ _ _ _ _ _ _ _).mono ?_
  rintro e w1 ⟨rfl, hk⟩
  have HK := Lib.hid hk
  clear hk
  go_wp2_with fail
  go_ret
  exact ⟨rfl, HK.out⟩
set_option maxRecDepth 100000 in
theorem not_any (r : Int) (w : World) : Calls Tryd.prog 18 #[.int .i64 r] w fun e w' => e = .returned (.int .i64 (notV r)) ∧ Kept [] w w' := by
  go_enter Tryd.func18, Tryd.ntmps18
  go_wp2_with fail
  refine (other_any _ _ _ _ _ _ _ _ _).mono ?_
  rintro e w1 ⟨rfl, hk⟩
  have HK := Lib.hid hk
  clear hk
  go_wp2_with fail
  go_ret
  exact ⟨rfl, HK.out⟩

set_option maxRecDepth 100000 in
set_option maxHeartbeats 2000000 in
theorem rswap_any (r : Int) (w : World) : Calls Tryd.prog 17 #[.int .i64 r] w fun e w' => e = .returned (.int .i64 (swapV r)) ∧ Kept [] w w' := by
  by_cases h : 1 ≤ r ∧ r ≤ 6
  · have hr : r = 1 ∨ r = 2 ∨ r = 3 ∨ r = 4 ∨ r = 5 ∨ r = 6 := by omega
    rcases hr with rfl | rfl | rfl | rfl | rfl | rfl
    all_goals
      go_enter Tryd.func17, Tryd.ntmps17
      go_wp2_with fail
      go_ret
      exact ⟨rfl, Kept.refl _ _⟩
  · have HE : Hid (swapV r = 0) := by show _ = _; unfold swapV otherV; split <;> first | rfl | (repeat (rw [if_neg (by omega)]))
    rw [HE.out]
    have b1 : (r == 1) = false := by rw [beq_eq_false_iff_ne]; omega
    have b2 : (r == 2) = false := by rw [beq_eq_false_iff_ne]; omega
    have b3 : (r == 3) = false := by rw [beq_eq_false_iff_ne]; omega
    have b4 : (r == 4) = false := by rw [beq_eq_false_iff_ne]; omega
    have b5 : (r == 5) = false := by rw [beq_eq_false_iff_ne]; omega
    have b6 : (r == 6) = false := by rw [beq_eq_false_iff_ne]; omega
    clear HE h
    go_enter Tryd.func17, Tryd.ntmps17
    go_wp2_with fail
    go_ret
    exact ⟨rfl, Kept.refl _ _⟩
set_option maxRecDepth 100000 in
set_option maxHeartbeats 2000000 in
theorem rnot_any (r : Int) (w : World) : Calls Tryd.prog 19 #[.int .i64 r] w fun e w' => e = .returned (.int .i64 (notV r)) ∧ Kept [] w w' := by
  by_cases h : 1 ≤ r ∧ r ≤ 6
  · have hr : r = 1 ∨ r = 2 ∨ r = 3 ∨ r = 4 ∨ r = 5 ∨ r = 6 := by omega
    rcases hr with rfl | rfl | rfl | rfl | rfl | rfl
    all_goals
      go_enter Tryd.func19, Tryd.ntmps19
      go_wp2_with fail
      go_ret
      exact ⟨rfl, Kept.refl _ _⟩
  · have HE : Hid (notV r = 0) := by show _ = _; unfold notV otherV; split <;> first | rfl | (repeat (rw [if_neg (by omega)]))
    rw [HE.out]
    have b1 : (r == 1) = false := by rw [beq_eq_false_iff_ne]; omega
    have b2 : (r == 2) = false := by rw [beq_eq_false_iff_ne]; omega
    have b3 : (r == 3) = false := by rw [beq_eq_false_iff_ne]; omega
    have b4 : (r == 4) = false := by rw [beq_eq_false_iff_ne]; omega
    have b5 : (r == 5) = false := by rw [beq_eq_false_iff_ne]; omega
    have b6 : (r == 6) = false := by rw [beq_eq_false_iff_ne]; omega
    clear HE h
    go_enter Tryd.func19, Tryd.ntmps19
    go_wp2_with fail
    go_ret
    exact ⟨rfl, Kept.refl _ _⟩

end Go.Proofs.YthnfoiaahiopdaaDoor
