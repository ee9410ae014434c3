/- A value's text says it; a text that says a value is its text. -/
import Derived.Test.YthgenobbpaclhaaDoorX8
import Derived.Test.YthgenobbpaclhaaDoorVR
set_option linter.unusedVariables false
set_option linter.unusedSimpArgs false
set_option linter.unnecessarySimpa false
namespace Go.Proofs.YthgenobbpaclhaaDoor
open Go.RowKit Go.Shelf
attribute [local go_sem] Oper.semAt_some

theorem quote_size (s : ByteArray) : (strOfNums (quoteI s)).size ≤ 4 * s.size + 2 := by
  rw [strOfNums_size, quoteI, List.length_cons, List.length_append]
  have := escGo_le s s.size 0
  simp
  omega
theorem text_size {v : ValD} (h : okV v = true) (h0 : -9223372036854775808 ≤ v.2.1) (h1 : v.2.1 ≤ 9223372036854775807) : (textV v).size ≤ 300 ∧ Fits v := by
  rcases okV_ways h with ⟨f1, f2⟩ | ⟨f1, f2, f3⟩
  · rw [textV_int f1]
    have := Lib.itoa_length_le v.2.1 h0 h1
    refine ⟨by show ((Lib.itoa v.2.1).toArray).size ≤ 300; simp; omega, h0, h1, ?_⟩
    rw [f2]
    decide
  · rw [textV_str f1]
    have := quote_size v.2.2
    exact ⟨by omega, h0, h1, by omega⟩

end Go.Proofs.YthgenobbpaclhaaDoor
