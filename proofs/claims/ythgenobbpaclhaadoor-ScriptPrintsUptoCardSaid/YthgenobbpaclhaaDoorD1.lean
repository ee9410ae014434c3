/- Decimal numerals, as the document reads and writes them: the plain laws. -/
import Derived.Test.YthgenobbpaclhaaDoorRows
import Derived.WalkKit
import Derived.WalkSpells
import Derived.WalkLawsBesides
import Derived.Deep.QuietTactic
import Derived.BigQuiet
import Derived.Lib.Hide
import Derived.Lib.ConvBytes
import Derived.Deep.Slices
import Derived.ProofKit
import Derived.SizedLaws
import Derived.Test.YthgenobbpaclhaaDoorShelf
import Derived.Laws.BytesArg
import Derived.Laws.BitsLemmas
import Derived.Deep.RegionHeld3
import Derived.Deep.AppendLies
import Derived.Maps.AppendAt
import Derived.Lib.ItoaLen
import Derived.Test.YthgenobbpaclhaaDoorX5
set_option linter.unusedVariables false
set_option linter.unusedSimpArgs false
set_option linter.unnecessarySimpa false
namespace Go.Proofs.YthgenobbpaclhaaDoor
open Go.RowKit Go.Shelf

/-- The int of digits, below 0; none: a letter that is no digit, or a number too great. -/
def numF : Int → List Int → Option Int
  | n, [] => some n
  | n, c :: r => if c < 48 ∨ 57 < c then none else if n < Int.tdiv (-9223372036854775808 + (c - 48)) 10 then none else numF (10 * n - (c - 48)) r
def numV (S : List Int) : Int × Bool :=
  if S.head? = some 45 then (match numF 0 (S.drop 1) with | none => (0, false) | some n => (n, decide (1 < S.length)))
  else (match numF 0 S with | none => (0, false) | some n => if n = -9223372036854775808 then (0, false) else (-n, decide (0 < S.length)))
def decI (u : Nat) : List Int := (Lib.decDigits u).map fun b => (b.toNat : Int)
theorem decI_small {u : Nat} (h : u < 10) : decI u = [48 + (u : Int)] := by
  unfold decI
  rw [Lib.decDigits, dif_pos h, List.map_cons, List.map_nil, dig_nat u h]
  simp
theorem decI_step {u : Nat} (h : ¬ u < 10) : decI u = decI (u / 10) ++ [48 + ((u % 10 : Nat) : Int)] := by
  unfold decI
  rw [Lib.decDigits, dif_neg h, List.map_append, List.map_cons, List.map_nil, dig_nat (u % 10) (by omega)]
  simp
theorem numF_digit {n : Int} {d : Nat} {r : List Int} (hd : d < 10) (h : -9223372036854775808 + (d : Int) ≤ 10 * n) (h0 : n ≤ 0) : numF n ((48 + (d : Int)) :: r) = numF (10 * n - d) r := by
  rw [numF, if_neg (by omega)]
  have e : (48 + (d : Int) - 48) = d := by omega
  rw [e]
  have ht : Int.tdiv (-9223372036854775808 + (d : Int)) 10 ≤ n := by
    have e2 : (-9223372036854775808 + (d : Int)) = -(9223372036854775808 - (d : Int)) := by omega
    rw [e2, Int.neg_tdiv, Int.tdiv_eq_ediv_of_nonneg (by omega)]
    omega
  rw [if_neg (by omega)]
theorem numF_dec (u : Nat) : ∀ (r : List Int), u ≤ 9223372036854775808 → numF 0 (decI u ++ r) = numF (-(u : Int)) r := by
  induction u using Nat.strongRecOn with
  | _ u ih =>
    intro r hu
    by_cases h : u < 10
    · rw [decI_small h, List.singleton_append, numF_digit h (by omega) (by omega)]
      congr 1
      omega
    · rw [decI_step h, List.append_assoc, ih (u / 10) (by omega) _ (by omega), List.singleton_append, numF_digit (by omega) (by omega) (by omega)]
      congr 1
      omega
theorem decI_ne (u : Nat) : decI u ≠ [] := by
  unfold decI
  simp [dec_ne u]
theorem decI_bd (u : Nat) : ∀ c ∈ decI u, 48 ≤ c ∧ c ≤ 57 := by
  intro c hc
  unfold decI at hc
  rw [List.mem_map] at hc
  obtain ⟨b, hb, rfl⟩ := hc
  have := dec_digits u b hb
  omega
theorem numV_itoa (n : Int) (h0 : -9223372036854775808 ≤ n) (h1 : n ≤ 9223372036854775807) : numV (bI ⟨(Lib.itoa n).toArray⟩) = (n, true) := by
  have hb : bI ⟨(Lib.itoa n).toArray⟩ = if n < 0 then 45 :: decI n.natAbs else decI n.toNat := by
    unfold bI decI Lib.itoa
    by_cases hn : n < 0
    · rw [if_pos hn, if_pos hn]; rfl
    · rw [if_neg hn, if_neg hn]
  rw [hb]
  unfold numV
  by_cases hn : n < 0
  · rw [if_pos hn]
    have e := numF_dec n.natAbs [] (by omega)
    rw [List.append_nil] at e
    simp only [List.head?_cons, if_true, List.drop_succ_cons, List.drop_zero, e]
    rw [numF]
    have hp : 0 < (decI n.natAbs).length := List.length_pos_iff.2 (decI_ne _)
    simp only [List.length_cons, Prod.mk.injEq, decide_eq_true_eq]
    omega
  · rw [if_neg hn]
    have e := numF_dec n.toNat [] (by omega)
    rw [List.append_nil] at e
    cases hd : decI n.toNat with
    | nil => exact absurd hd (decI_ne _)
    | cons c r =>
      have hc := decI_bd n.toNat c (by rw [hd]; simp)
      rw [hd] at e
      have h45 : ¬ (some c = some (45 : Int)) := by intro h; injection h with h; omega
      simp only [List.head?_cons, if_neg h45, e]
      rw [numF]
      simp only
      rw [if_neg (by omega)]
      simp only [List.length_cons, Prod.mk.injEq, decide_eq_true_eq]
      omega

end Go.Proofs.YthgenobbpaclhaaDoor
