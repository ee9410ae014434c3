/- Names, walked: the document's. -/
import Derived.Test.YthgenobbpaclhaaDoorRows
import Derived.WalkKit
import Derived.WalkSpells
import Derived.WalkLawsBesides
import Derived.Deep.QuietTactic
import Derived.BigQuiet
import Derived.Lib.Hide
import Derived.Lib.ConvBytes
import Derived.Deep.Slices
import Derived.ProofKit
import Derived.SizedLaws
import Derived.Test.YthgenobbpaclhaaDoorShelf
import Derived.Test.YthgenobbpaclhaaDoorN5
set_option linter.unusedVariables false
set_option linter.unusedSimpArgs false
set_option linter.unnecessarySimpa false
namespace Go.Proofs.YthgenobbpaclhaaDoor
open Go.RowKit Go.Shelf

theorem index_at (s : ByteArray) (k : Nat) (h : k < s.size) (w : World) : (Instr.index 9 (.string s) (.int .i64 (k : Int))).run Tryd.prog w = .ok (.int .u8 (byt s k)) w := by
  rw [run_index_string w 9 s .i64 k (by kernel_rfl), dif_pos ⟨by omega, by omega⟩]
  rw [← byt_at s k h]
  rfl
theorem size_eq (s : ByteArray) : s.size = s.toList.length := by rw [ByteArray.toList_eq]; rfl
theorem empty_list {s : ByteArray} (h : s.size ≠ 0) : s.toList.isEmpty = false := by
  rw [size_eq] at h
  cases hs : s.toList with
  | nil => rw [hs] at h; simp at h
  | cons a l => rfl
theorem len_at {n : Nat} (s : ByteArray) (h : s.size = n) (w : World) : (Builtin.len_ #[9] 3 #[.string s]).run Tryd.prog w = .ok (goInt n) w := by rw [← h]; exact run_len_string w 9 3 s (by kernel_rfl)

end Go.Proofs.YthgenobbpaclhaaDoor
