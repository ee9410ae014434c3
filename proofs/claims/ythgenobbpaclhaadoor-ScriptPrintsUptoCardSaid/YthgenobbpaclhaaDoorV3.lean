/- Whether a relation is so: the program's and the document's. -/
import Derived.Test.YthgenobbpaclhaaDoorRows
import Derived.WalkKit
import Derived.WalkSpells
import Derived.WalkLawsBesides
import Derived.Deep.QuietTactic
import Derived.BigQuiet
import Derived.Lib.Hide
import Derived.Deep.Slices
import Derived.ProofKit
import Derived.SizedLaws
import Derived.Test.YthgenobbpaclhaaDoorShelf
import Derived.Test.YthgenobbpaclhaaDoorBase
import Derived.Test.YthgenobbpaclhaaDoorV1
set_option linter.unusedVariables false
set_option linter.unusedSimpArgs false
set_option linter.unnecessarySimpa false
namespace Go.Proofs.YthgenobbpaclhaaDoor
open Go.RowKit Go.Shelf
attribute [local go_sem] Oper.semAt_some

def someV (v : ValD) : Bool := decide (v.1 = 1) || decide (v.1 = 2)
def relV (r n : Int) : Bool := if r = 1 then decide (n = 0) else if r = 2 then decide (n ≠ 0) else if r = 3 then decide (n < 0) else if r = 4 then decide (n ≤ 0) else if r = 5 then decide (0 < n) else if r = 6 then decide (0 ≤ n) else false
def holdsV (r : Int) (a b : ValD) : Bool := if (cmpV a b).2 then relV r (cmpV a b).1 else decide (r = 2) && (someV a && someV b)
theorem cmpN_range (a b : Int) : cmpN a b = -1 ∨ cmpN a b = 0 ∨ cmpN a b = 1 := by unfold cmpN; repeat (first | split | omega)
theorem cmpV_range (a b : ValD) : (cmpV a b).1 = -1 ∨ (cmpV a b).1 = 0 ∨ (cmpV a b).1 = 1 := by
  unfold cmpV
  split
  · simp
  · split
    · exact cmpN_range _ _
    · split
      · exact cmp_range _ _
      · simp
/-- The cells of two values, each in a block of its own. -/
structure Two (w : World) (A B : Nat) (k1 n1 k2 n2 : Int) (s1 s2 : ByteArray) : Prop where
  a0 : w.cell? ⟨A, 0, none⟩ = some (.int .i64 k1)
  a1 : w.cell? ⟨A, 1, none⟩ = some (.int .i64 n1)
  a2 : w.cell? ⟨A, 2, none⟩ = some (.string s1)
  b0 : w.cell? ⟨B, 0, none⟩ = some (.int .i64 k2)
  b1 : w.cell? ⟨B, 1, none⟩ = some (.int .i64 n2)
  b2 : w.cell? ⟨B, 2, none⟩ = some (.string s2)
theorem Two.keep {w w' : World} {A B : Nat} {k1 n1 k2 n2 : Int} {s1 s2 : ByteArray} (h : Two w A B k1 n1 k2 n2 s1 s2) (hk : Kept [] w w') : Two w' A B k1 n1 k2 n2 s1 s2 :=
  ⟨hk.cell (by simp) h.a0, hk.cell (by simp) h.a1, hk.cell (by simp) h.a2, hk.cell (by simp) h.b0, hk.cell (by simp) h.b1, hk.cell (by simp) h.b2⟩
theorem Two.new (w : World) (k1 n1 k2 n2 : Int) (s1 s2 : ByteArray) (t : TypeId) : Two ((w.alloc (.cells #[.int .i64 k1, .int .i64 n1, .string s1] t)).alloc (.cells #[.int .i64 k2, .int .i64 n2, .string s2] t)) w.heap.size (w.heap.size + 1) k1 n1 k2 n2 s1 s2 := by
  have ha := (Blk.new w #[.int .i64 k1, .int .i64 n1, .string s1] t).alloc (.cells #[.int .i64 k2, .int .i64 n2, .string s2] t)
  have hb := Blk.new (w.alloc (.cells #[.int .i64 k1, .int .i64 n1, .string s1] t)) #[.int .i64 k2, .int .i64 n2, .string s2] t
  have e : (w.alloc (.cells #[.int .i64 k1, .int .i64 n1, .string s1] t)).heap.size = w.heap.size + 1 := by simp
  rw [e] at hb
  exact ⟨ha.cell 0, ha.cell 1, ha.cell 2, hb.cell 0, hb.cell 1, hb.cell 2⟩

end Go.Proofs.YthgenobbpaclhaaDoor
