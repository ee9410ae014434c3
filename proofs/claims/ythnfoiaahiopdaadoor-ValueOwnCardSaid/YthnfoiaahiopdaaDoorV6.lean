/- What the document fixes; the law of orders' facts. -/
import Derived.Test.YthnfoiaahiopdaaDoorRows
import Derived.WalkKit
import Derived.WalkSpells
import Derived.WalkLawsBesides
import Derived.Deep.QuietTactic
import Derived.BigQuiet
import Derived.Lib.Hide
import Derived.Lib.ConvBytes
import Derived.Deep.Slices
import Derived.ProofKit
import Derived.SizedLaws
import Derived.Test.YthnfoiaahiopdaaDoorShelf
import Derived.Laws.BytesArg
import Derived.Laws.BitsLemmas
import Derived.Deep.RegionHeld3
import Derived.Deep.AppendLies
import Derived.Maps.AppendAt
import Derived.Test.YthnfoiaahiopdaaDoorV2
import Derived.Test.YthnfoiaahiopdaaDoorV5
set_option linter.unusedVariables false
set_option linter.unusedSimpArgs false
set_option linter.unnecessarySimpa false
namespace Go.Proofs.YthnfoiaahiopdaaDoor
open Go.RowKit Go.Shelf
attribute [local go_sem] Oper.semAt_some

theorem text_lit (w : World) : Calls Tryd.prog 36 #[.agg #[.int .i64 2, .int .i64 0, .string { data := #[97, 34, 98] }]] w fun e w' => e = .returned (.string { data := #[34, 97, 92, 34, 98, 34] }) ∧ Kept [] w w' := by
  have h := text_str 2 0 { data := #[97, 34, 98] } rfl (by decide) w
  have e : strOfNums (quoteI { data := #[97, 34, 98] }) = { data := #[34, 97, 92, 34, 98, 34] } := by rfl
  rwa [e] at h
theorem name_lit1 (w : World) : Calls Tryd.prog 29 #[.string { data := #[120, 49] }] w fun e w' => e = .returned (.bool true) ∧ Kept [] w w' :=
  name_any { data := #[120, 49] } (by decide) w
theorem name_lit2 (w : World) : Calls Tryd.prog 29 #[.string { data := #[49, 120] }] w fun e w' => e = .returned (.bool false) ∧ Kept [] w w' :=
  name_any { data := #[49, 120] } (by decide) w
theorem cmp_lit (w : World) : Calls Tryd.prog 11 #[.agg #[.int .i64 1, .int .i64 3, .string ByteArray.empty], .agg #[.int .i64 1, .int .i64 (-5), .string ByteArray.empty]] w fun e w' => e = .returned (.tuple #[.int .i64 1, .bool true]) ∧ Kept [] w w' :=
  compare_any 1 3 1 (-5) ByteArray.empty ByteArray.empty w
theorem swap_lit (w : World) : Calls Tryd.prog 16 #[.int .i64 3] w fun e w' => e = .returned (.int .i64 5) ∧ Kept [] w w' := swap_any 3 w
set_option maxRecDepth 100000 in
set_option maxHeartbeats 2000000 in
theorem live_any (w : World) : Calls Tryd.prog 12 #[] w fun e w' => e = .returned (.bool true) ∧ Kept [] w w' := by
  go_enter Tryd.func12, Tryd.ntmps12
  go_wp2_with fail
  refine (cmp_lit _).mono ?_
  rintro e w1 ⟨rfl, hk1⟩
  have HK1 := Lib.hid hk1
  clear hk1
  go_wp2_with fail
  refine (text_lit _).mono ?_
  rintro e w2 ⟨rfl, hk2⟩
  have HK2 := Lib.hid (HK1.out.trans hk2)
  clear hk2
  have et : (({ data := #[34, 97, 92, 34, 98, 34] } : ByteArray).toList == ({ data := #[34, 97, 92, 34, 98, 34] } : ByteArray).toList) = true := beq_self_eq_true _
  go_wp2_with fail
  refine (name_lit1 _).mono ?_
  rintro e w3 ⟨rfl, hk3⟩
  have HK3 := Lib.hid (HK2.out.trans hk3)
  clear hk3
  go_wp2_with fail
  refine (name_lit2 _).mono ?_
  rintro e w4 ⟨rfl, hk4⟩
  have HK4 := Lib.hid (HK3.out.trans hk4)
  clear hk4
  go_wp2_with fail
  refine (swap_lit _).mono ?_
  rintro e w5 ⟨rfl, hk5⟩
  have HK5 := Lib.hid (HK4.out.trans hk5)
  clear hk5
  go_wp2_with fail
  go_ret
  exact ⟨rfl, HK5.out⟩

/-! ### What holds of the order -/
theorem cmpN_swap (a b : Int) : cmpN b a = - cmpN a b := by
  unfold cmpN
  by_cases h1 : a < b
  · have h2 : ¬ b < a := by omega
    simp [h1, h2]
  · by_cases h2 : b < a <;> simp [h1, h2]
theorem cmpV_swap (a b : ValD) : cmpV b a = (- (cmpV a b).1, (cmpV a b).2) := by
  unfold cmpV
  by_cases hk : a.1 = b.1
  · rw [hk]
    by_cases h1 : b.1 = 1
    · simp [h1, cmpN_swap a.2.1 b.2.1]
    · by_cases h2 : b.1 = 2
      · simp [h2, cmpB, cmp_swap a.2.2.data.toList b.2.2.data.toList]
      · simp [h1, h2]
  · have hk' : ¬ b.1 = a.1 := fun e => hk e.symm
    simp [hk, hk']
theorem cmp_trans : ∀ (a b c : List UInt8), Lib.compareBytes a b ≤ 0 → Lib.compareBytes b c ≤ 0 → Lib.compareBytes a c ≤ 0 ∧ (Lib.compareBytes a b < 0 ∨ Lib.compareBytes b c < 0 → Lib.compareBytes a c < 0)
  | [], [], [] => by simp [Lib.compareBytes]
  | [], [], _ :: _ => by simp [Lib.compareBytes]
  | [], _ :: _, [] => by simp [Lib.compareBytes]
  | [], _ :: _, _ :: _ => by simp [Lib.compareBytes]
  | _ :: _, [], _ => by simp [Lib.compareBytes]
  | _ :: _, _ :: _, [] => by simp [Lib.compareBytes]
  | x :: a, y :: b, z :: c => by
    have ih := cmp_trans a b c
    simp only [Lib.compareBytes]
    by_cases h1 : x < y
    · by_cases h2 : y < z
      · have h3 : x < z := by rw [UInt8.lt_iff_toNat_lt] at *; omega
        simp [h1, h2, h3]
      · by_cases h4 : z < y
        · simp [h1, h2, h4]
        · have h5 : y = z := by rw [UInt8.lt_iff_toNat_lt] at h2 h4; exact UInt8.toNat_inj.1 (by omega)
          subst h5
          simp [h1]
    · by_cases h1' : y < x
      · simp [h1, h1']
      · have h6 : x = y := by rw [UInt8.lt_iff_toNat_lt] at h1 h1'; exact UInt8.toNat_inj.1 (by omega)
        subst h6
        by_cases h2 : x < z
        · simp [h2, UInt8.lt_irrefl]
        · by_cases h4 : z < x
          · simp [h2, h4, UInt8.lt_irrefl]
          · simpa [h2, h4, UInt8.lt_irrefl] using ih
theorem cmpN_le (a b : Int) : cmpN a b ≤ 0 ↔ a ≤ b := by
  unfold cmpN
  by_cases h1 : a < b
  · rw [if_pos h1]; omega
  · rw [if_neg h1]
    by_cases h2 : b < a
    · rw [if_pos h2]; omega
    · rw [if_neg h2]; omega
theorem cmpN_lt (a b : Int) : cmpN a b < 0 ↔ a < b := by
  unfold cmpN
  by_cases h1 : a < b
  · rw [if_pos h1]; omega
  · rw [if_neg h1]
    by_cases h2 : b < a
    · rw [if_pos h2]; omega
    · rw [if_neg h2]; omega
theorem cmpN_trans (a b c : Int) (h1 : cmpN a b ≤ 0) (h2 : cmpN b c ≤ 0) : cmpN a c ≤ 0 ∧ (cmpN a b < 0 ∨ cmpN b c < 0 → cmpN a c < 0) := by
  rw [cmpN_le] at *
  rw [cmpN_lt, cmpN_lt, cmpN_lt]
  omega
theorem cmpV_trans (a b c : ValD) (h1 : (cmpV a b).2 = true) (h2 : (cmpV b c).2 = true) :
    (cmpV a c).2 = true ∧ ((cmpV a b).1 ≤ 0 → (cmpV b c).1 ≤ 0 → (cmpV a c).1 ≤ 0 ∧ ((cmpV a b).1 < 0 ∨ (cmpV b c).1 < 0 → (cmpV a c).1 < 0)) := by
  unfold cmpV at *
  by_cases hk : a.1 = b.1
  · by_cases hk2 : b.1 = c.1
    · by_cases e1 : c.1 = 1
      · simp [hk, hk2, e1] at *
        exact cmpN_trans _ _ _
      · by_cases e2 : c.1 = 2
        · simp [hk, hk2, e2] at *
          exact cmp_trans _ _ _
        · simp [hk, hk2, e1, e2] at *
    · simp [hk2] at h2
  · simp [hk] at h1
theorem cmpV_zero (a b : ValD) (h1 : (cmpV a b).2 = true) (h2 : (cmpV a b).1 = 0) : (a.1 = 1 ∧ a.2.1 = b.2.1) ∨ (a.1 = 2 ∧ a.2.2 = b.2.2) := by
  unfold cmpV at *
  by_cases hk : a.1 = b.1
  · by_cases e1 : b.1 = 1
    · simp [hk, e1, cmpN] at *
      repeat (first | split at h2 | omega)
    · by_cases e2 : b.1 = 2
      · simp [hk, e2, cmpB, cmp_zero] at *
        exact ByteArray.ext (by simpa using h2)
      · simp [hk, e1, e2] at h1
  · simp [hk] at h1

end Go.Proofs.YthnfoiaahiopdaaDoor
