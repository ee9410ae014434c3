/- Decimal numerals: the plain laws; the text of a value; which values may be. -/
import Derived.Lib.ItoaLen
import Derived.Test.YthgenobbpaclhaaDoorRows
import Derived.WalkKit
import Derived.WalkSpells
import Derived.WalkLawsBesides
import Derived.Deep.QuietTactic
import Derived.BigQuiet
import Derived.Lib.Hide
import Derived.Lib.ConvBytes
import Derived.Deep.Slices
import Derived.ProofKit
import Derived.SizedLaws
import Derived.Test.YthgenobbpaclhaaDoorShelf
import Derived.Laws.BytesArg
import Derived.Laws.BitsLemmas
import Derived.Deep.RegionHeld3
import Derived.Deep.AppendLies
import Derived.Maps.AppendAt
import Derived.Test.YthgenobbpaclhaaDoorX3
set_option linter.unusedVariables false
set_option linter.unusedSimpArgs false
set_option linter.unnecessarySimpa false
namespace Go.Proofs.YthgenobbpaclhaaDoor
open Go.RowKit Go.Shelf
attribute [local go_sem] Oper.semAt_some

theorem dig_nat (d : Nat) (h : d < 10) : (UInt8.ofNat (48 + d)).toNat = 48 + d := by rw [UInt8.toNat_ofNat']; omega
theorem dec_digits (u : Nat) : ∀ c ∈ Lib.decDigits u, 48 ≤ c.toNat ∧ c.toNat ≤ 57 := by
  induction u using Nat.strongRecOn with
  | _ u ih =>
    intro c hc
    rw [Lib.decDigits] at hc
    split at hc
    · obtain rfl := List.mem_singleton.1 hc
      rw [dig_nat u (by omega)]
      omega
    · rw [List.mem_append] at hc
      rcases hc with hc | hc
      · exact ih (u / 10) (by omega) c hc
      · obtain rfl := List.mem_singleton.1 hc
        rw [dig_nat (u % 10) (by omega)]
        omega
theorem dec_ne (u : Nat) : Lib.decDigits u ≠ [] := by
  rw [Lib.decDigits]
  split <;> simp
theorem parse_dec (u : Nat) : ∀ (r : List UInt8), u < 18446744073709551616 → Lib.parseUintM 18446744073709551615 0 (Lib.decDigits u ++ r) = Lib.parseUintM 18446744073709551615 u r := by
  induction u using Nat.strongRecOn with
  | _ u ih =>
    intro r hu
    rw [Lib.decDigits]
    split
    · rename_i h
      rw [List.singleton_append, Lib.parseUintM, dig_nat u h]
      rw [if_pos (by omega), if_neg (by omega), if_neg (by omega)]
      congr 1
      omega
    · rename_i h
      rw [List.append_assoc, ih (u / 10) (by omega) _ (by omega), List.singleton_append, Lib.parseUintM, dig_nat (u % 10) (by omega)]
      rw [if_pos (by omega), if_neg (by omega), if_neg (by omega)]
      congr 1
      omega
theorem parseB_dec (u : Nat) (hu : u < 18446744073709551616) : Lib.parseUintB 64 (Lib.decDigits u) = .ok u := by
  unfold Lib.parseUintB
  rw [if_neg (dec_ne u)]
  have h := parse_dec u [] hu
  rw [List.append_nil] at h
  exact h
theorem parse_itoa (n : Int) (h0 : -9223372036854775808 ≤ n) (h1 : n ≤ 9223372036854775807) : Lib.parseIntB 64 (Lib.itoa n) = .ok n := by
  unfold Lib.itoa
  by_cases hn : n < 0
  · rw [if_pos hn]
    have hu := parseB_dec n.natAbs (by omega)
    unfold Lib.parseIntB
    have e45 : (45 : UInt8).toNat = 45 := rfl
    simp only [e45, or_true, if_true]
    rw [hu]
    show (if ¬True ∧ 2 ^ (64 - 1) ≤ n.natAbs then Lib.NumEnd.range else if True ∧ 2 ^ (64 - 1) < n.natAbs then Lib.NumEnd.range else Lib.NumEnd.ok (-((n.natAbs : Nat) : Int))) = _
    rw [if_neg (by simp), if_neg (by simp; omega)]
    congr 1
    omega
  · rw [if_neg hn]
    have hu := parseB_dec n.toNat (by omega)
    cases hd : Lib.decDigits n.toNat with
    | nil => exact absurd hd (dec_ne _)
    | cons c r =>
      have hc := dec_digits n.toNat c (by rw [hd]; simp)
      rw [hd] at hu
      unfold Lib.parseIntB
      have e1 : ¬ c.toNat = 43 := by omega
      have e2 : ¬ c.toNat = 45 := by omega
      simp only [e1, e2, or_self, if_false]
      rw [hu]
      show (if ¬False ∧ 2 ^ (64 - 1) ≤ n.toNat then Lib.NumEnd.range else if False ∧ 2 ^ (64 - 1) < n.toNat then Lib.NumEnd.range else Lib.NumEnd.ok ((n.toNat : Nat) : Int)) = _
      rw [if_neg (by simp; omega), if_neg (by simp)]
      congr 1
      omega
theorem parse_quote (r : List UInt8) : Lib.parseIntB 64 (34 :: r) = .syntax := by
  unfold Lib.parseIntB
  have e34 : (34 : UInt8).toNat = 34 := rfl
  simp [e34, Lib.parseUintB, Lib.parseUintM]
theorem parse_bd {l : List UInt8} {v : Int} (h : Lib.parseIntB 64 l = .ok v) : -9223372036854775808 ≤ v ∧ v ≤ 9223372036854775807 := by
  unfold Lib.parseIntB at h
  cases l with
  | nil => cases h
  | cons c r =>
    simp only at h
    split at h
    · cases h
    · cases h
    · rename_i u _
      split at h
      · cases h
      · rename_i g1
        split at h
        · cases h
        · rename_i g2
          injection h with h
          split at h
          · rename_i g3
            have : ¬ 9223372036854775808 < u := fun e => g2 ⟨g3, e⟩
            omega
          · rename_i g3
            have : ¬ 9223372036854775808 ≤ u := fun e => g1 ⟨g3, e⟩
            omega

/-- A value's text. -/
def textV (v : ValD) : ByteArray := if v.1 = 1 then ⟨(Lib.itoa v.2.1).toArray⟩ else if v.1 = 2 then strOfNums (quoteI v.2.2) else { data := #[63] }
def okV (v : ValD) : Bool := (decide (v.1 = 1) && decide (v.2.2.size = 0)) || (decide (v.1 = 2) && (decide (v.2.1 = 0) && decide (v.2.2.size ≤ 64)))
def chkV (v : ValD) : Int := if okV v then 0 else 30

end Go.Proofs.YthgenobbpaclhaaDoor
