/- Names. -/
import Derived.Lib.ConvBytes
import Derived.Test.YthgenobbpaclhaaDoorRows
import Derived.WalkKit
import Derived.WalkSpells
import Derived.WalkLawsBesides
import Derived.Deep.QuietTactic
import Derived.BigQuiet
import Derived.Lib.Hide
import Derived.Deep.Slices
import Derived.ProofKit
import Derived.SizedLaws
import Derived.Test.YthgenobbpaclhaaDoorShelf
set_option linter.unusedVariables false
set_option linter.unusedSimpArgs false
set_option linter.unnecessarySimpa false
namespace Go.Proofs.YthgenobbpaclhaaDoor
open Go.RowKit Go.Shelf

def letterV (c : Int) : Bool := (decide (97 ≤ c) && decide (c ≤ 122)) || (decide (65 ≤ c) && decide (c ≤ 90)) || decide (c = 95)
def digitV (c : Int) : Bool := decide (48 ≤ c) && decide (c ≤ 57)
def byt (s : ByteArray) (i : Nat) : Int := ((s.data.toList.getD i 0).toNat : Int)
theorem byt_at (s : ByteArray) (i : Nat) (h : i < s.size) : ((s[i]'h).toNat : Int) = byt s i := by
  unfold byt
  congr 1
  have h2 : i < s.data.size := h
  simp only [List.getD]
  rw [Array.getElem?_toList, Array.getElem?_eq_getElem h2]
  rfl
theorem byt_bd (s : ByteArray) (i : Nat) : 0 ≤ byt s i ∧ byt s i < 256 := by
  unfold byt
  have := (s.data.toList.getD i 0).toNat_lt
  omega
def okAt (i : Nat) (c : Int) : Bool := letterV c || (decide (i ≠ 0) && digitV c)
def namGo (s : ByteArray) : Nat → Nat → Bool
  | 0, _ => true
  | r + 1, k => okAt k (byt s k) && namGo s r (k + 1)
def nameV (s : ByteArray) : Bool := decide (s.size ≠ 0) && decide (s.size ≤ 32) && namGo s s.size 0

theorem c_classes (c : Int) : c < 48 ∨ (48 ≤ c ∧ c ≤ 57) ∨ (57 < c ∧ c < 65) ∨ (65 ≤ c ∧ c ≤ 90) ∨ (90 < c ∧ c < 95) ∨ c = 95 ∨ c = 96 ∨ (97 ≤ c ∧ c ≤ 122) ∨ 122 < c := by omega

end Go.Proofs.YthgenobbpaclhaaDoor
