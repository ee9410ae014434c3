/- A numeral read: the document's. -/
import Derived.Test.YthgenobbpaclhaaDoorRows
import Derived.WalkKit
import Derived.WalkSpells
import Derived.WalkLawsBesides
import Derived.Deep.QuietTactic
import Derived.BigQuiet
import Derived.Lib.Hide
import Derived.Laws.Runes
import Derived.Laws.Concat
import Derived.Laws.Cover4
import Derived.Lib.ConvBytes
import Derived.Deep.Slices
import Derived.ProofKit
import Derived.SizedLaws
import Derived.Test.YthgenobbpaclhaaDoorShelf
import Derived.Laws.BytesArg
import Derived.Laws.BitsLemmas
import Derived.Deep.RegionHeld3
import Derived.Deep.AppendLies
import Derived.Maps.AppendAt
import Derived.Lib.ItoaLen
import Derived.Test.YthgenobbpaclhaaDoorD1
import Derived.Test.YthgenobbpaclhaaDoorD2
set_option linter.unusedVariables false
set_option linter.unusedSimpArgs false
set_option linter.unnecessarySimpa false
namespace Go.Proofs.YthgenobbpaclhaaDoor
open Go.RowKit Go.Shelf
attribute [local go_sem] Oper.semAt_some

theorem bI_drop (s : ByteArray) {k : Nat} (hk : k < s.size) : (bI s).drop k = byt s k :: (bI s).drop (k + 1) := by
  obtain ⟨h2, h3⟩ := List.getElem?_eq_some_iff.1 (bI_get s k hk)
  rw [List.drop_eq_getElem_cons h2, h3]
theorem bI_head (s : ByteArray) : (bI s).head? = some 45 ↔ 0 < s.size ∧ byt s 0 = 45 := by
  constructor
  · intro h
    by_cases h0 : 0 < s.size
    · have h1 := bI_get s 0 h0
      rw [← List.head?_eq_getElem?, h] at h1
      injection h1 with h1
      exact ⟨h0, h1.symm⟩
    · exfalso
      have : bI s = [] := by rw [← List.length_eq_zero_iff, bI_len]; omega
      rw [this] at h
      cases h
  · rintro ⟨h0, h1⟩
    rw [List.head?_eq_getElem?, bI_get s 0 h0, h1]
/-- Where the digits begin. -/
def NumAt (s : ByteArray) (i : Nat) : Prop := (i = 1 ∧ (bI s).head? = some 45) ∨ (i = 0 ∧ (bI s).head? ≠ some 45)
theorem NumAt.none {s : ByteArray} {i : Nat} (h : NumAt s i) (hn : numF 0 ((bI s).drop i) = none) : numV (bI s) = (0, false) := by
  unfold numV
  rcases h with ⟨rfl, h⟩ | ⟨rfl, h⟩
  · rw [if_pos h, hn]
  · rw [List.drop_zero] at hn
    rw [if_neg h, hn]
theorem NumAt.one {s : ByteArray} {n : Int} {z : Nat} (h : NumAt s 1) (hz : s.size = z) (hn : numF 0 ((bI s).drop 1) = some n) : numV (bI s) = (n, decide ((1 : Int) < (z : Int))) := by
  unfold numV
  rcases h with ⟨_, h⟩ | ⟨h, _⟩
  · rw [if_pos h, hn, bI_len, hz]
    simp only [Prod.mk.injEq, true_and]
    rw [decide_eq_decide]
    omega
  · omega
theorem NumAt.zero {s : ByteArray} {n : Int} {z : Nat} (h : NumAt s 0) (hz : s.size = z) (hn : numF 0 ((bI s).drop 0) = some n) (hm : n ≠ -9223372036854775808) : numV (bI s) = (-n, decide ((0 : Int) < (z : Int))) := by
  unfold numV
  rcases h with ⟨h, _⟩ | ⟨_, h⟩
  · omega
  · rw [List.drop_zero] at hn
    rw [if_neg h, hn]
    simp only
    rw [if_neg hm, bI_len, hz]
    simp only [Prod.mk.injEq, true_and]
    rw [decide_eq_decide]
    omega
theorem NumAt.min {s : ByteArray} (h : NumAt s 0) (hn : numF 0 ((bI s).drop 0) = some (-9223372036854775808)) : numV (bI s) = (0, false) := by
  unfold numV
  rcases h with ⟨h, _⟩ | ⟨_, h⟩
  · omega
  · rw [List.drop_zero] at hn
    rw [if_neg h, hn]
    rfl
/-- How far a numeral has been read. -/
def NumRel (s : ByteArray) (i : Nat) (n : Int) (k : Nat) : Prop := numF n ((bI s).drop k) = numF 0 ((bI s).drop i) ∧ -9223372036854775808 ≤ n ∧ n ≤ 0
theorem NumRel.bad {s : ByteArray} {i k : Nat} {n : Int} (h : NumRel s i n k) (hk : k < s.size) (hb : byt s k < 48 ∨ 57 < byt s k) : numF 0 ((bI s).drop i) = none := by
  rw [← h.1, bI_drop s hk, numF, if_pos hb]
theorem NumRel.over {s : ByteArray} {i k : Nat} {n : Int} (h : NumRel s i n k) (hk : k < s.size) (ho : n < Int.tdiv (-9223372036854775808 + (byt s k - 48)) 10) : numF 0 ((bI s).drop i) = none := by
  rw [← h.1, bI_drop s hk, numF]
  split
  · rfl
  · rfl
theorem NumRel.turn {s : ByteArray} {i k : Nat} {n : Int} (h : NumRel s i n k) (hk : k < s.size) (h0 : 48 ≤ byt s k) (h1 : byt s k ≤ 57) (ho : ¬ n < Int.tdiv (-9223372036854775808 + (byt s k - 48)) 10) : NumRel s i (10 * n - (byt s k - 48)) (k + 1) ∧ -9223372036854775808 ≤ 10 * n ∧ 10 * n ≤ 0 := by
  have e : numF n ((bI s).drop k) = numF (10 * n - (byt s k - 48)) ((bI s).drop (k + 1)) := by rw [bI_drop s hk, numF, if_neg (by omega), if_neg ho]
  have ht : Int.tdiv (-9223372036854775808 + (byt s k - 48)) 10 = -((9223372036854775808 - (byt s k - 48)) / 10) := by
    have e2 : (-9223372036854775808 + (byt s k - 48)) = -(9223372036854775808 - (byt s k - 48)) := by omega
    rw [e2, Int.neg_tdiv, Int.tdiv_eq_ediv_of_nonneg (by omega)]
  rw [ht] at ho
  have hn := h.2.2
  exact ⟨⟨e ▸ h.1, by omega, by omega⟩, by omega, by omega⟩
theorem NumRel.done {s : ByteArray} {i k : Nat} {n : Int} (h : NumRel s i n k) (hk : ¬ k < s.size) : numF 0 ((bI s).drop i) = some n := by
  rw [← h.1, List.drop_eq_nil_of_le (by rw [bI_len]; omega), numF]

theorem bI_nil {s : ByteArray} (h : s.size = 0) : bI s = [] := by rw [← List.length_eq_zero_iff, bI_len, h]
def RnumPost (s : ByteArray) (w : World) (e : Ending) (w' : World) : Prop := e = .returned (.tuple #[.int .i64 (numV (bI s)).1, .bool (numV (bI s)).2]) ∧ w = w'
theorem RnumPost.of {s : ByteArray} {w : World} {n : Int} {b : Bool} (h : numV (bI s) = (n, b)) : RnumPost s w (.returned (.tuple #[.int .i64 n, .bool b])) w := by
  unfold RnumPost
  rw [h]
  exact ⟨rfl, rfl⟩
end Go.Proofs.YthgenobbpaclhaaDoor
