/- What the row's list of variables gives; the law's rows. -/
import Derived.Test.YthnfoiaahiopdaaDoorRows
import Derived.LaidLaws
import Derived.Lib.LaidTab
import Derived.LaidHandle
import Derived.LaidMore
import Derived.MakeChecks
import Derived.WalkKit
import Derived.WalkSpells
import Derived.WalkLawsBesides
import Derived.Deep.QuietTactic
import Derived.BigQuiet
import Derived.Lib.Hide
import Derived.Lib.ConvBytes
import Derived.Deep.Slices
import Derived.ProofKit
import Derived.SizedLaws
import Derived.Test.YthnfoiaahiopdaaDoorShelf
import Derived.Laws.BytesArg
import Derived.Laws.BitsLemmas
import Derived.Deep.RegionHeld3
import Derived.Deep.AppendLies
import Derived.Maps.AppendAt
import Derived.Lib.ItoaLen
import Derived.Lib.SmallJoins
import Derived.Test.YthnfoiaahiopdaaDoorVR
import Derived.Test.YthnfoiaahiopdaaDoorX9
set_option linter.unusedVariables false
set_option linter.unusedSimpArgs false
namespace Go.Proofs.YthnfoiaahiopdaaDoor
open Go.RowKit Go.Shelf

theorem pow_data : (Rows.laid_internal_strconv_uint64pow10 : DataW Unit) = Lib.tabData .u64 Lib.pow10Tab := by kernel_rfl
theorem vars_of_laid {W : World} (h : laidMetH Tryd.prog [("math/bits.deBruijn32tab", Rows.laid_math_bits_deBruijn32tab), ("math/bits.deBruijn64tab", Rows.laid_math_bits_deBruijn64tab), ("internal/strconv.uint64pow10", Rows.laid_internal_strconv_uint64pow10), ("strconv.ErrRange", Rows.laid_strconv_ErrRange), ("strconv.ErrSyntax", Rows.laid_strconv_ErrSyntax)] W) : Vars W := by
  rw [MakeChecks.laidMetH_plain _ _ _ (by kernel_rfl)] at h
  obtain ⟨ps, ⟨g0, t0, cs0, f0, p0, q0, hg0, ht0, hv0, hd0, ⟨g1, t1, cs1, f1, p1, q1, hg1, ht1, hv1, hd1, ⟨g2, t2, cs2, f2, p2, q2, hg2, ht2, hv2, hd2, ⟨g3, t3, cs3, f3, p3, q3, hg3, ht3, hv3, hd3, ⟨g4, t4, cs4, f4, p4, q4, hg4, ht4, hv4, hd4, _, _⟩, _⟩, _⟩, _⟩, _⟩, _, _⟩ := h
  have e2 : g2 = 3 := Option.some.inj (hg2.symm.trans globTab)
  have e3 : g3 = 2 := Option.some.inj (hg3.symm.trans (by kernel_rfl))
  have e4 : g4 = 1 := Option.some.inj (hg4.symm.trans (by kernel_rfl))
  subst e2 e3 e4
  have u2 : t2 = 92 := Option.some.inj (ht2.symm.trans (by kernel_rfl))
  have u3 : t3 = 61 := Option.some.inj (ht3.symm.trans (by kernel_rfl))
  have u4 : t4 = 61 := Option.some.inj (ht4.symm.trans (by kernel_rfl))
  subst u2 u3 u4
  rw [pow_data] at hd2
  have c2 := Lib.cells_of_tab (n := 20) Tryd.underlying92 Tryd.underlying72 (by kernel_rfl) (by kernel_rfl) hd2
  obtain ⟨_, u3, v3, c3, _, _⟩ := iface_of_trod Tryd.underlying61 hd3
  obtain ⟨_, u4, v4, c4, _, _⟩ := iface_of_trod Tryd.underlying61 hd4
  refine ⟨?_, ⟨.iface u4 v4, ?_, .inr ⟨_, _, rfl⟩⟩, ⟨.iface u3 v3, ?_, .inr ⟨_, _, rfl⟩⟩⟩
  · show World.var? _ _ _ = _
    rw [hv2, ← c2]
  · have := World.var?_cell hg4 hv4 0
    rw [Array.eq_one_of_toList c4] at this
    simpa using this
  · have := World.var?_cell hg3 hv3 0
    rw [Array.eq_one_of_toList c3] at this
    simpa using this

theorem i64_bd {n : Int} (h : (Lit.int .i64 n).wf = true) : -9223372036854775808 ≤ n ∧ n ≤ 9223372036854775807 := by
  simpa [Lit.wf, IntKind.min, IntKind.max, IntKind.signed, IntKind.bits] using h
theorem valR_wf {w : World} {x : ValD} {c : Array Value} (h : valR.K w x c.toList) : -9223372036854775808 ≤ x.2.1 ∧ x.2.1 ≤ 9223372036854775807 := by
  obtain ⟨_, _, _, _, _, _, _, ⟨_, h2⟩, _⟩ := h
  exact i64_bd h2

theorem back_row (w : World) (hL : laidMetH Tryd.prog Rows.valueBackRow.laid w) (c1 : Array Value) (x1 : ValD) (h1 : valR.K w x1 c1.toList) (s : ByteArray) (hs : s.size ≤ 140737488351232) :
    Calls Tryd.prog 10 #[.agg c1, .string s] w fun e w' => e = .returned (.bool true) ∧ Below w.heap.size w w' := by
  have hw := valR_wf h1
  obtain ⟨rfl, hz⟩ := valR_cells h1
  exact (lawBack_any _ _ _ s hw.1 hw.2 hz hs w (vars_of_laid hL)).mono fun e w' ⟨he, hk⟩ => ⟨he, hk.below⟩

end Go.Proofs.YthnfoiaahiopdaaDoor
