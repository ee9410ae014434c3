/- Sums and products that stop at the top are the document's: the walk of CostSums. -/
import Derived.Test.YtiiiflckphgdiaaP25
set_option linter.unusedVariables false
set_option linter.unusedSimpArgs false
set_option linter.unnecessarySimpa false
namespace Go.Proofs.Ytiiiflckphgdiaa
open Go.RowKit Go.Shelf
attribute [local go_sem] Oper.semAt_some

theorem costSums_any (w : World) (A : Option Addr) (n cap : Nat) (x : List Int) (wx : (Rk.slice (Rk.int .i64)).K w x [.slice A n cap]) :
    Calls Try.prog 3 #[.slice A n cap] w fun e w' => e = .returned (.bool true) ∧ Below w.heap.size w w' := by
  have HX := Lib.hid (RdI.of_rk wx)
  clear wx
  obtain ⟨a, ha⟩ : ∃ a, addV x = a := ⟨_, rfl⟩
  obtain ⟨g, hg⟩ : ∃ g, mulV x = g := ⟨_, rfl⟩
  have H1 : Hid (∀ W, Kept [] w W → Calls Try.prog 10 #[.slice A n cap] W fun e w' => e = .returned (.int .i64 a) ∧ W = w') := fun W h => by
    have := add_any _ x W (HX.out.keep h); rwa [ha] at this
  have H2 : Hid (∀ W, Kept [] w W → Calls Try.prog 11 #[.slice A n cap] W fun e w' => e = .returned (.int .i64 a) ∧ W = w') := fun W h => by
    have := radd_any _ x W (HX.out.keep h); rwa [ha] at this
  have H3 : Hid (∀ W, Kept [] w W → Calls Try.prog 12 #[.slice A n cap] W fun e w' => e = .returned (.int .i64 g) ∧ W = w') := fun W h => by
    have := mul_any _ x W (HX.out.keep h); rwa [hg] at this
  have H4 : Hid (∀ W, Kept [] w W → Calls Try.prog 13 #[.slice A n cap] W fun e w' => e = .returned (.int .i64 g) ∧ ∃ m, w' = W.drewN m) := fun W h => by
    have := rmul_any _ x W (HX.out.keep h); rwa [hg] at this
  clear ha hg
  go_enter Try.func3, Try.ntmps3
  go_wp2_with fail
  refine (begun_any _).mono ?_
  rintro e w1 ⟨rfl, hk1⟩
  have HK1 := Lib.hid hk1
  clear hk1
  go_wp2_with fail
  refine (H1.out _ HK1.out).mono ?_
  rintro e w2 ⟨rfl, rfl⟩
  go_wp2_with fail
  refine (H2.out _ HK1.out).mono ?_
  rintro e w2 ⟨rfl, rfl⟩
  go_wp2_with fail
  refine (H3.out _ HK1.out).mono ?_
  rintro e w2 ⟨rfl, rfl⟩
  go_wp2_with fail
  refine (H4.out _ HK1.out).mono ?_
  rintro e w2 ⟨rfl, m, rfl⟩
  go_wp2_with fail
  go_ret
  exact ⟨rfl, (HK1.out.drewN m).below⟩
end Go.Proofs.Ytiiiflckphgdiaa
