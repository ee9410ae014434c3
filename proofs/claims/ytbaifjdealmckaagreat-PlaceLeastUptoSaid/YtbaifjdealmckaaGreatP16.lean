/- Rates that are the same for all: the library's Repeat of one number. -/
import Derived.Deep.RegionHeld3
import Derived.Laws.CopyRow
import Derived.Laws.MakeOwn
import Derived.Test.YtbaifjdealmckaaGreatRows
import Derived.WalkKit
import Derived.WalkSpells
import Derived.WalkLawsBesides
import Derived.Deep.QuietTactic
import Derived.BigQuiet
import Derived.Lib.Hide
import Derived.BigRegion
import Derived.Shelf.Abstract
import Derived.Lib.ConvBytes
import Derived.StillTailTactics
import Derived.Laws.AppendOwnNone
import Derived.Deep.AppendLies
import Derived.Deep.Slices
import Derived.ProofKit
import Derived.SizedLaws
import Derived.Test.YtbaifjdealmckaaGreatBase
set_option linter.unusedVariables false
set_option linter.unusedSimpArgs false
set_option linter.unnecessarySimpa false
namespace Go.Proofs.YtbaifjdealmckaaGreat
open Go.RowKit Go.Shelf
attribute [local go_sem] Oper.semAt_some

theorem and_one : Go.bits .and .u64 1 4294967295 = 1 := by decide
theorem and_small : ∀ k : Fin 33, Go.bits .and .u64 (k.val : Int) 4294967295 = k.val := by decide

set_option maxRecDepth 100000 in
set_option maxHeartbeats 2000000 in
theorem mul64_any (n : Nat) (hn : n ≤ 32) (w : World) : Calls Tryz.prog 105 #[.int .u64 1, .int .u64 n] w fun e w' => e = .returned (.tuple #[.int .u64 0, .int .u64 n]) ∧ Kept [] w w' := by
  have e1 := and_one
  have e2 : Go.bits .and .u64 (n : Int) 4294967295 = n := and_small ⟨n, by omega⟩
  have e3 : (n : Int) / 4294967296 = 0 := by omega
  have e4 : IntKind.u64.wrap (n : Int) = n := by unfold IntKind.wrap; simp [IntKind.signed, IntKind.bits]; omega
  have e5 : IntKind.u64.wrap 0 = 0 := by decide
  have e6 : Go.bits .and .u64 0 4294967295 = 0 := by decide
  go_enter Tryz.func105, Tryz.ntmps105
  go_wp2_with fail
  go_ret2
  refine ⟨?_, Kept.refl _ _⟩
  simp [e1, e2, e3, e4, e5, e6]

set_option maxRecDepth 100000 in
set_option maxHeartbeats 2000000 in
theorem bmul_any (n : Nat) (hn : n ≤ 32) (w : World) : Calls Tryz.prog 78 #[.int .u64 1, .int .u64 n] w fun e w' => e = .returned (.tuple #[.int .u64 0, .int .u64 n]) ∧ Kept [] w w' := by
  have HM := Lib.hid (mul64_any n hn w)
  go_enter Tryz.func78, Tryz.ntmps78
  go_wp2_with fail
  refine HM.out.mono ?_
  rintro e w' ⟨rfl, hk⟩
  go_wp2_with fail
  go_ret2
  exact ⟨rfl, hk⟩

theorem Kept.setRow {S : List Nat} {a w : World} {g : Nat} (h : Kept S a w) (cs : Array Value) (hg : g ∈ S ∨ a.heap.size ≤ g) : Kept S a (w.setRow g cs) :=
  ⟨h.os, h.tape, h.output, by rw [setRow_size]; exact h.size, fun k hk hs => by
    rw [setRow_other _ _ _ _ (by rintro rfl; rcases hg with hg | hg; exact hs hg; omega)]
    exact h.block k hk hs⟩
def Ks (n : Nat) : List Int := List.replicate n 1024
/-- The first m cells are the number. -/
def Full (C : Array Value) (m : Nat) : Prop := ∀ i, i < m → C[i]? = some (.int .i64 1024)
theorem Full.list {C : Array Value} {n : Nat} (h : Full C n) (hs : C.size = n) : C.toList = (Ks n).map (.int .i64) := by
  unfold Ks
  rw [List.map_replicate]
  refine List.ext_getElem? (fun i => ?_)
  by_cases hi : i < n
  · rw [Array.getElem?_toList, h i hi]
    simp [hi]
  · rw [List.getElem?_eq_none (by simp; omega), List.getElem?_eq_none (by simp; omega)]

end Go.Proofs.YtbaifjdealmckaaGreat
