/- Two runs turned about: the row stays a row. -/
import Derived.Test.YthnfoiaahiopdaaDoorA3
set_option linter.unusedVariables false
set_option linter.unusedSimpArgs false
set_option linter.unnecessarySimpa false
namespace Go.Proofs.YthnfoiaahiopdaaDoor
open Go.RowKit Go.Shelf Go.Lib Go.Sort
attribute [local go_sem] Oper.semAt_some

set_option maxRecDepth 100000 in
set_option maxHeartbeats 4000000 in
theorem rotate_any {w0 : World} {g : Nat} {d0 : Array AttrD} (R : RowA w0 g d0) (N cap a m b : Nat) (hN : d0.size = N) (d : Array AttrD) (hd : d.size = N) (ham : a < m) (hmb : m < b) (hb : b ≤ N) (hsz : N < 4611686018427387904) (W : World) (S : SWA w0 g d W) :
    Calls Tryd.prog 72 #[.slice (some ⟨g, 0, none⟩) N cap, .int .i64 a, .int .i64 m, .int .i64 b, .func (.func 45) #[] #[]] W (SortPost w0 g N) := by
  have HSR : Hid (∀ (x y n : Nat) (d : Array AttrD) (W : World), x + n ≤ y → y + n ≤ N → d.size = N → SWA w0 g d W → Calls Tryd.prog 83 #[.slice (some ⟨g, 0, none⟩) N cap, .int .i64 x, .int .i64 y, .int .i64 n, .func (.func 45) #[] #[]] W (SortPost w0 g N)) := fun x y n d W h1 h2 h3 h4 => swapRange_any R N cap x y n hN d h3 h1 h2 hsz W h4
  have HS := Lib.hid S
  have HD := Lib.hid hd
  clear S R hN hd
  obtain ⟨i0, hi0⟩ : ∃ i, m - a = i := ⟨_, rfl⟩
  obtain ⟨j0, hj0⟩ : ∃ i, b - m = i := ⟨_, rfl⟩
  have hw1 : IntKind.i64.wrap ((m : Int) - (a : Int)) = (i0 : Int) := by rw [IntKind.wrap_i64]; omega
  have hw2 : IntKind.i64.wrap ((b : Int) - (m : Int)) = (j0 : Int) := by rw [IntKind.wrap_i64]; omega
  have hi1 : 1 ≤ i0 ∧ i0 ≤ m := by omega
  have hj1 : 1 ≤ j0 ∧ m + j0 ≤ N := by omega
  clear hi0 hj0
  go_enter Tryd.func72, Tryd.ntmps72
  go_wp2_with fail
  go_loopw [10, 11] (fun ii jj wr => ∃ (i j : Nat) (d' : Array AttrD), ii = .int .i64 i ∧ jj = .int .i64 j ∧ 1 ≤ i ∧ i ≤ m ∧ 1 ≤ j ∧ m + j ≤ N ∧ d'.size = N ∧ SWA w0 g d' wr) (fun ii jj _ => (intOf ii).toNat + (intOf jj).toNat)
  case atStart => exact ⟨i0, j0, d, rfl, rfl, hi1.1, hi1.2, hj1.1, hj1.2, HD.out, HS.out⟩
  case round =>
    clear hw1 hw2
    obtain ⟨i, j, d', rfl, rfl, h1, h2, h3, h4, hd', hS⟩ := hrel
    have HD2 := Lib.hid hd'
    have HS2 := Lib.hid hS
    clear hd' hS
    obtain ⟨x, hx⟩ : ∃ x, m - i = x := ⟨_, rfl⟩
    have hw1 : IntKind.i64.wrap ((m : Int) - (i : Int)) = (x : Int) := by rw [IntKind.wrap_i64]; omega
    by_cases heq : i = j
    · subst heq
      have HC := Lib.hid (HSR.out x m i d' wr (by omega) (by omega) HD2.out HS2.out)
      clear hx
      go_wp2_with fail
      refine HC.out.mono ?_
      rintro e w2 ⟨rfl, hp⟩
      go_wp2_with fail
      go_end0
      exact ⟨rfl, hp⟩
    · have hne : ((i : Int) == (j : Int)) = false := by simp; omega
      have hne2 : ((i : Int) != (j : Int)) = true := by simp; omega
      by_cases hgt : j < i
      · have hd1 : decide ((j : Int) < (i : Int)) = true := decide_eq_true (by omega)
        obtain ⟨k, hk⟩ : ∃ k, i - j = k := ⟨_, rfl⟩
        have hw2 : IntKind.i64.wrap ((i : Int) - (j : Int)) = (k : Int) := by rw [IntKind.wrap_i64]; omega
        have HC := Lib.hid (HSR.out x m j d' wr (by omega) (by omega) HD2.out HS2.out)
        have hk1 : 1 ≤ k ∧ k < i := by omega
        clear hx heq hk
        go_wp2_with fail
        refine HC.out.mono ?_
        rintro e w2 ⟨rfl, d2, hd2, hS2⟩
        have HD3 := Lib.hid hd2
        have HS3 := Lib.hid hS2
        clear hd2 hS2
        go_wp2_with fail
        go_roundw
        case rel => exact ⟨k, j, d2, rfl, rfl, hk1.1, by omega, h3, h4, HD3.out, HS3.out⟩
        case measure => simp [intOf]; omega
      · have hd1 : decide ((j : Int) < (i : Int)) = false := decide_eq_false (by omega)
        obtain ⟨k, hk⟩ : ∃ k, j - i = k := ⟨_, rfl⟩
        obtain ⟨y, hy⟩ : ∃ y, m + j - i = y := ⟨_, rfl⟩
        have hw2 : IntKind.i64.wrap ((j : Int) - (i : Int)) = (k : Int) := by rw [IntKind.wrap_i64]; omega
        have hw3 : IntKind.i64.wrap ((m : Int) + (j : Int)) = ((m + j : Nat) : Int) := by rw [IntKind.wrap_i64]; omega
        have hw4 : IntKind.i64.wrap (((m : Int) + (j : Int)) - (i : Int)) = (y : Int) := by rw [IntKind.wrap_i64]; omega
        have hw5 : IntKind.i64.wrap (((m + j : Nat) : Int) - (i : Int)) = (y : Int) := by rw [IntKind.wrap_i64]; omega
        have HC := Lib.hid (HSR.out x y i d' wr (by omega) (by omega) HD2.out HS2.out)
        have hk1 : 1 ≤ k ∧ k < j := by omega
        clear hx heq hk hy
        go_wp2_with fail
        refine HC.out.mono ?_
        rintro e w2 ⟨rfl, d2, hd2, hS2⟩
        have HD3 := Lib.hid hd2
        have HS3 := Lib.hid hS2
        clear hd2 hS2
        go_wp2_with fail
        go_roundw
        case rel => exact ⟨i, k, d2, rfl, rfl, h1, h2, hk1.1, by omega, HD3.out, HS3.out⟩
        case measure => simp [intOf]; omega

end Go.Proofs.YthnfoiaahiopdaaDoor
