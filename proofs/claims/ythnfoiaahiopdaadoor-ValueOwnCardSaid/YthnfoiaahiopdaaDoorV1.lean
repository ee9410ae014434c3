/- How two values stand to each other: the program's and the document's. -/
import Derived.Test.YthnfoiaahiopdaaDoorShelf
import Derived.WalkLawsBesides
import Derived.Test.YthnfoiaahiopdaaDoorRows
import Derived.WalkKit
import Derived.WalkSpells
import Derived.Deep.QuietTactic
import Derived.BigQuiet
import Derived.Lib.Hide
import Derived.Deep.Slices
import Derived.ProofKit
import Derived.SizedLaws
import Derived.Test.YthnfoiaahiopdaaDoorBase
set_option linter.unusedVariables false
set_option linter.unusedSimpArgs false
set_option linter.unnecessarySimpa false
namespace Go.Proofs.YthnfoiaahiopdaaDoor
open Go.RowKit Go.Shelf
attribute [local go_sem] Oper.semAt_some

abbrev ValD := Int × (Int × ByteArray)
def valV (v : ValD) : Value := .agg #[.int .i64 v.1, .int .i64 v.2.1, .string v.2.2]

def cmpB (a b : ByteArray) : Int := Lib.compareBytes a.data.toList b.data.toList
theorem less_cmp : ∀ (a b : List UInt8), Op.bytesLess a b = decide (Lib.compareBytes a b = -1)
  | [], [] => rfl
  | [], _ :: _ => rfl
  | _ :: _, [] => rfl
  | a :: x, b :: y => by
    rw [Op.bytesLess, Lib.compareBytes, less_cmp x y]
    by_cases h1 : a < b
    · simp [h1]
    · by_cases h2 : b < a
      · have h3 : a ≠ b := by rintro rfl; exact h1 h2
        simp [h1, h2, h3]
      · have h3 : a = b := by
          rw [UInt8.lt_iff_toNat_lt] at h1 h2
          exact UInt8.toNat_inj.1 (by omega)
        simp [h3, UInt8.lt_irrefl]
theorem cmp_swap : ∀ (a b : List UInt8), Lib.compareBytes b a = - Lib.compareBytes a b
  | [], [] => rfl
  | [], _ :: _ => rfl
  | _ :: _, [] => rfl
  | a :: x, b :: y => by
    rw [Lib.compareBytes, Lib.compareBytes, cmp_swap x y]
    by_cases h1 : a < b
    · have h2 : ¬ b < a := by rw [UInt8.lt_iff_toNat_lt] at *; omega
      simp [h1, h2]
    · by_cases h2 : b < a <;> simp [h1, h2]
theorem cmp_range : ∀ (a b : List UInt8), Lib.compareBytes a b = -1 ∨ Lib.compareBytes a b = 0 ∨ Lib.compareBytes a b = 1
  | [], [] => by simp [Lib.compareBytes]
  | [], _ :: _ => by simp [Lib.compareBytes]
  | _ :: _, [] => by simp [Lib.compareBytes]
  | a :: x, b :: y => by
    rw [Lib.compareBytes]
    by_cases h1 : a < b
    · simp [h1]
    · by_cases h2 : b < a
      · simp [h1, h2]
      · simp [h1, h2]; exact cmp_range x y
theorem cmp_zero : ∀ (a b : List UInt8), Lib.compareBytes a b = 0 ↔ a = b
  | [], [] => by simp [Lib.compareBytes]
  | [], _ :: _ => by simp [Lib.compareBytes]
  | _ :: _, [] => by simp [Lib.compareBytes]
  | a :: x, b :: y => by
    rw [Lib.compareBytes]
    by_cases h1 : a < b
    · have : a ≠ b := by rintro rfl; exact UInt8.lt_irrefl _ h1
      simp [h1, this]
    · by_cases h2 : b < a
      · have : a ≠ b := by rintro rfl; exact UInt8.lt_irrefl _ h2
        simp [h1, h2, this]
      · have h3 : a = b := by
          rw [UInt8.lt_iff_toNat_lt] at h1 h2
          exact UInt8.toNat_inj.1 (by omega)
        simp [h1, h2, h3, UInt8.lt_irrefl, cmp_zero x y]

/-- How two values stand to each other. -/
def cmpN (a b : Int) : Int := if a < b then -1 else if b < a then 1 else 0
def cmpV (a b : ValD) : Int × Bool :=
  if a.1 ≠ b.1 then (0, false) else if a.1 = 1 then (cmpN a.2.1 b.2.1, true) else if a.1 = 2 then (cmpB a.2.2 b.2.2, true) else (0, false)

set_option maxRecDepth 100000 in
set_option maxHeartbeats 2000000 in
theorem compare_any (k1 n1 k2 n2 : Int) (s1 s2 : ByteArray) (w : World) :
    Calls Tryd.prog 11 #[.agg #[.int .i64 k1, .int .i64 n1, .string s1], .agg #[.int .i64 k2, .int .i64 n2, .string s2]] w fun e w' =>
      e = .returned (.tuple #[.int .i64 (cmpV (k1, n1, s1) (k2, n2, s2)).1, .bool (cmpV (k1, n1, s1) (k2, n2, s2)).2]) ∧ Kept [] w w' := by
  have HK := Lib.hid (((Kept.refl [] w).alloc (.cells #[.int .i64 k1, .int .i64 n1, .string s1] 23)).alloc (.cells #[.int .i64 k2, .int .i64 n2, .string s2] 23))
  obtain ⟨G, hG⟩ : ∃ G, cmpV (k1, n1, s1) (k2, n2, s2) = G := ⟨_, rfl⟩
  rw [hG]
  have HG := Lib.hid hG
  clear hG
  by_cases hk : k1 = k2
  · subst hk
    by_cases h1 : k1 = 1
    · subst h1
      by_cases hn : n1 = n2
      · have HE : Hid (G = (0, true)) := by show _ = _; rw [← HG.out]; simp [cmpV, cmpN, hn]
        rw [HE.out]
        subst hn
        clear HE HG
        go_enter Tryd.func11, Tryd.ntmps11
        go_wp2_with fail
        go_quiet (fail)
        go_wp2_with fail
        go_ret2
        exact ⟨rfl, HK.out.drewN _⟩
      · have bn : (n1 == n2) = false := by rw [beq_eq_false_iff_ne]; exact hn
        by_cases hl : n1 < n2
        · have HE : Hid (G = (-1, true)) := by show _ = _; rw [← HG.out]; simp [cmpV, cmpN, hl]
          rw [HE.out]
          clear HE HG hn
          go_enter Tryd.func11, Tryd.ntmps11
          go_wp2_with fail
          go_ret2
          exact ⟨rfl, HK.out⟩
        · have HE : Hid (G = (1, true)) := by show _ = _; rw [← HG.out]; simp [cmpV, cmpN, hl]; omega
          rw [HE.out]
          clear HE HG hn
          go_enter Tryd.func11, Tryd.ntmps11
          go_wp2_with fail
          go_ret2
          exact ⟨rfl, HK.out⟩
    · by_cases h2 : k1 = 2
      · subst h2
        have HE : Hid (G = (Lib.compareBytes s1.data.toList s2.data.toList, true)) := by show _ = _; rw [← HG.out]; simp [cmpV, cmpB]
        rw [HE.out]
        clear HE HG h1
        go_enter Tryd.func11, Tryd.ntmps11
        go_wp2_with fail
        refine (Tryd.strings_Compare _ _ _).mono ?_
        rintro e w1 ⟨rfl, rfl⟩
        go_wp2_with fail
        go_ret2
        exact ⟨rfl, HK.out⟩
      · have b1 : (k1 == 1) = false := by rw [beq_eq_false_iff_ne]; exact h1
        have b2 : (k1 == 2) = false := by rw [beq_eq_false_iff_ne]; exact h2
        have HE : Hid (G = (0, false)) := by show _ = _; rw [← HG.out]; simp [cmpV, h1, h2]
        rw [HE.out]
        clear HE HG h1 h2
        go_enter Tryd.func11, Tryd.ntmps11
        go_wp2_with fail
        go_quiet (fail)
        go_wp2_with fail
        go_ret2
        exact ⟨rfl, HK.out.drewN _⟩
  · have bk : (k1 == k2) = false := by rw [beq_eq_false_iff_ne]; exact hk
    have HE : Hid (G = (0, false)) := by show _ = _; rw [← HG.out]; simp [cmpV, hk]
    rw [HE.out]
    clear HE HG hk
    go_enter Tryd.func11, Tryd.ntmps11
    go_wp2_with fail
    go_ret2
    exact ⟨rfl, HK.out⟩

end Go.Proofs.YthnfoiaahiopdaaDoor
