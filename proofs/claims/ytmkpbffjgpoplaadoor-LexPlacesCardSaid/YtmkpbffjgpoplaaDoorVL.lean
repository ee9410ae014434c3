/- What the rows' list of variables gives. -/
import Derived.Test.YtmkpbffjgpoplaaDoorX8
import Derived.Test.YtmkpbffjgpoplaaDoorRows
import Derived.LaidLaws
import Derived.Lib.LaidTab
import Derived.LaidHandle
import Derived.LaidMore
import Derived.MakeChecks
set_option linter.unusedVariables false
set_option linter.unusedSimpArgs false
namespace Go.Proofs.YtmkpbffjgpoplaaDoor
open Go.RowKit Go.Shelf

theorem pow_data : (Rows.laid_internal_strconv_uint64pow10 : DataW Unit) = Lib.tabData .u64 Lib.pow10Tab := by kernel_rfl
theorem vars_of_laid {W : World} (h : laidMetH Tryd.prog [("math/bits.deBruijn32tab", Rows.laid_math_bits_deBruijn32tab), ("math/bits.deBruijn64tab", Rows.laid_math_bits_deBruijn64tab), ("internal/strconv.uint64pow10", Rows.laid_internal_strconv_uint64pow10), ("strconv.ErrRange", Rows.laid_strconv_ErrRange), ("strconv.ErrSyntax", Rows.laid_strconv_ErrSyntax)] W) : Vars W := by
  rw [MakeChecks.laidMetH_plain _ _ _ (by kernel_rfl)] at h
  obtain ⟨ps, ⟨g0, t0, cs0, f0, p0, q0, hg0, ht0, hv0, hd0, ⟨g1, t1, cs1, f1, p1, q1, hg1, ht1, hv1, hd1, ⟨g2, t2, cs2, f2, p2, q2, hg2, ht2, hv2, hd2, ⟨g3, t3, cs3, f3, p3, q3, hg3, ht3, hv3, hd3, ⟨g4, t4, cs4, f4, p4, q4, hg4, ht4, hv4, hd4, _, _⟩, _⟩, _⟩, _⟩, _⟩, _, _⟩ := h
  have e2 : g2 = 3 := Option.some.inj (hg2.symm.trans globTab)
  have e3 : g3 = 2 := Option.some.inj (hg3.symm.trans (by kernel_rfl))
  have e4 : g4 = 1 := Option.some.inj (hg4.symm.trans (by kernel_rfl))
  subst e2 e3 e4
  have u2 : t2 = 116 := Option.some.inj (ht2.symm.trans (by kernel_rfl))
  have u3 : t3 = 72 := Option.some.inj (ht3.symm.trans (by kernel_rfl))
  have u4 : t4 = 72 := Option.some.inj (ht4.symm.trans (by kernel_rfl))
  subst u2 u3 u4
  rw [pow_data] at hd2
  have c2 := Lib.cells_of_tab (n := 20) Tryd.underlying116 Tryd.underlying92 (by kernel_rfl) (by kernel_rfl) hd2
  obtain ⟨_, u3, v3, c3, _, _⟩ := iface_of_trod Tryd.underlying72 hd3
  obtain ⟨_, u4, v4, c4, _, _⟩ := iface_of_trod Tryd.underlying72 hd4
  refine ⟨?_, ⟨.iface u4 v4, ?_, .inr ⟨_, _, rfl⟩⟩, ⟨.iface u3 v3, ?_, .inr ⟨_, _, rfl⟩⟩⟩
  · show World.var? _ _ _ = _
    rw [hv2, ← c2]
  · have := World.var?_cell hg4 hv4 0
    rw [Array.eq_one_of_toList c4] at this
    simpa using this
  · have := World.var?_cell hg3 hv3 0
    rw [Array.eq_one_of_toList c3] at this
    simpa using this


end Go.Proofs.YtmkpbffjgpoplaaDoor
