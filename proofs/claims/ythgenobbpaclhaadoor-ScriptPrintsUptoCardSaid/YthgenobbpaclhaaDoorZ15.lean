/- Scripts: the script that the document fixes (plain laws). -/
import Derived.Test.YthgenobbpaclhaaDoorZ13
set_option linter.unusedVariables false
set_option linter.unusedSimpArgs false
set_option linter.unnecessarySimpa false
namespace Go.Proofs.YthgenobbpaclhaaDoor
open Go.RowKit Go.Shelf

def liveC : ConfD := ⟨[-1, 0], [1], 4⟩
def liveA : AttrD := ({ data := #[120] }, (1, 3, eB))
def liveX : StepD := ⟨2, eB, [], 0, 5, { data := #[65] }, [liveA], 0, 0, 0, 0, 0, 0, 0⟩
def liveY : StepD := zS 12
theorem num0 : numT 0 = { data := #[48] } := by kernel_rfl
theorem num1 : numT 1 = { data := #[49] } := by kernel_rfl
theorem num2 : numT 2 = { data := #[50] } := by kernel_rfl
theorem num3 : numT 3 = { data := #[51] } := by kernel_rfl
theorem num4 : numT 4 = { data := #[52] } := by kernel_rfl
theorem num5 : numT 5 = { data := #[53] } := by kernel_rfl
theorem numM : numT (-1) = { data := #[45, 49] } := by kernel_rfl
theorem quoA : quoT { data := #[65] } = { data := #[34, 65, 34] } := by kernel_rfl
theorem quoX : quoT { data := #[120] } = { data := #[34, 120, 34] } := by kernel_rfl
theorem liveX_line : lineT liveX = some { data := #[105, 110, 106, 101, 99, 116, 32, 48, 32, 53, 32, 34, 65, 34, 32, 49, 32, 34, 120, 34, 32, 51] } := by
  unfold lineT lineW
  rw [if_pos ⟨by decide, by decide, by rfl, by decide⟩]
  show some (joinT (allW liveX)) = _
  have e : allW liveX = [wordK 2, numT 0, numT 5, quoT { data := #[65] }, numT 1, quoT { data := #[120] }, numT 3] := by rfl
  rw [e, num0, num5, quoA, num1, quoX, num3]
  rfl
theorem liveY_line : lineT liveY = some { data := #[99, 97, 108, 109] } := by
  unfold lineT lineW
  rw [if_pos ⟨by decide, by decide, by rfl, by decide⟩]
  rfl
theorem liveHead : headT liveC = { data := #[101, 110, 103, 105, 110, 101, 32, 52, 32, 50, 32, 45, 49, 32, 48, 32, 49, 32, 49] } := by
  have e : headW liveC = [engB, numT 4, numT 2, numT (-1), numT 0, numT 1, numT 1] := by rfl
  unfold headT
  rw [e, num4, num2, numM, num0, num1]
  rfl
def liveS : ByteArray := { data := #[101, 110, 103, 105, 110, 101, 32, 52, 32, 50, 32, 45, 49, 32, 48, 32, 49, 32, 49, 10, 105, 110, 106, 101, 99, 116, 32, 48, 32, 53, 32, 34, 65, 34, 32, 49, 32, 34, 120, 34, 32, 51, 10, 99, 97, 108, 109, 10] }
theorem livePrint : printV liveC [liveX, liveY] = (liveS, 0) := by
  rw [printV_ok (s := [105, 110, 106, 101, 99, 116, 32, 48, 32, 53, 32, 34, 65, 34, 32, 49, 32, 34, 120, 34, 32, 51, 10, 99, 97, 108, 109, 10]) (by decide) (by simp [linesB, liveX_line, liveY_line]), liveHead]
  rfl

end Go.Proofs.YthgenobbpaclhaaDoor
