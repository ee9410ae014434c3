/- Two sorted runs put together: the row stays a row. -/
import Derived.Test.YthnfoiaahiopdaaDoorA4
set_option linter.unusedVariables false
set_option linter.unusedSimpArgs false
set_option linter.unnecessarySimpa false
namespace Go.Proofs.YthnfoiaahiopdaaDoor
open Go.RowKit Go.Shelf Go.Lib Go.Sort
attribute [local go_sem] Oper.semAt_some

theorem cmp_calls (n1 : ByteArray) (a1 a2 : Int) (a3 : ByteArray) (n2 : ByteArray) (b1 b2 : Int) (b3 : ByteArray) : ∃ r : Int, ∀ W, Calls Tryd.prog 45 #[.agg #[.string n1, .int .i64 a1, .int .i64 a2, .string a3], .agg #[.string n2, .int .i64 b1, .int .i64 b2, .string b3]] W fun e w' => e = .returned (.int .i64 r) ∧ ∃ q os', w' = grow (W.drewN q) os' :=
  ⟨_, fun W => cmpA_any (n1, a1, a2, a3) (n2, b1, b2, b3) W⟩

set_option maxRecDepth 100000 in
set_option maxHeartbeats 4000000 in
theorem symMerge_one {w0 : World} {g : Nat} {d0 : Array AttrD} (R : RowA w0 g d0) (N cap a m b : Nat) (hN : d0.size = N) (d : Array AttrD) (hd : d.size = N) (ham : m = a + 1) (hmb : m < b) (hb : b ≤ N) (hsz : N < 4611686018427387904) (W : World) (S : SWA w0 g d W) :
    Calls Tryd.prog 62 #[.slice (some ⟨g, 0, none⟩) N cap, .int .i64 a, .int .i64 m, .int .i64 b, .func (.func 45) #[] #[]] W (SortPost w0 g N) := by
  have hmix : Tryd.prog.follows .mixedOrders = true := by kernel_rfl
  have HR := Lib.hid R
  have HN := Lib.hid hN
  have HS := Lib.hid S
  have HD := Lib.hid hd
  have hw1 : IntKind.i64.wrap ((m : Int) - (a : Int)) = 1 := by rw [IntKind.wrap_i64]; omega
  have HAM := Lib.hid ham
  have hamb : a < m := by omega
  clear S R hN hd ham
  go_enter Tryd.func62, Tryd.ntmps62
  go_wp2_with fail
  go_loopw [10, 11] (fun ii jj wr => ∃ (i j : Nat) (d' : Array AttrD), ii = .int .i64 i ∧ jj = .int .i64 j ∧ m ≤ i ∧ i ≤ j ∧ j ≤ b ∧ d'.size = N ∧ SWA w0 g d' wr) (fun ii jj _ => (intOf jj).toNat - (intOf ii).toNat)
  case atStart => exact ⟨m, b, d, rfl, rfl, Nat.le_refl _, by omega, Nat.le_refl _, HD.out, HS.out⟩
  case round =>
    obtain ⟨i, j, d', rfl, rfl, h1, h2, h3, hd', hS⟩ := hrel
    have HD2 := Lib.hid hd'
    have HS2 := Lib.hid hS
    clear hd' hS hw1
    by_cases hlt : i < j
    · obtain ⟨h, hh⟩ : ∃ h, (i + j) / 2 = h := ⟨_, rfl⟩
      have hw2 : IntKind.i64.wrap ((i : Int) + (j : Int)) = ((i + j : Nat) : Int) := by rw [IntKind.wrap_i64]; omega
      have hb1 : i ≤ h ∧ h < j := by omega
      have hw3 : ((i : Int) + (j : Int)) / 2 = (h : Int) := by omega
      clear hh
      obtain ⟨⟨n1, a1, a2, a3⟩, hx⟩ : ∃ x, d'[h]! = x := ⟨_, rfl⟩
      obtain ⟨⟨n2, b1, b2, b3⟩, hy⟩ : ∃ x, d'[a]! = x := ⟨_, rfl⟩
      have Z := fun n os => SWK.at4 (SWK.grown HS2.out n os) HR.out (by rw [HD2.out, HN.out]) (i := h) (by rw [HD2.out]; omega) hx
      have Y := fun n os => SWK.at4 (SWK.grown HS2.out n os) HR.out (by rw [HD2.out, HN.out]) (i := a) (by rw [HD2.out]; omega) hy
      have z0 := fun n os => (Z n os).1
      have z1 := fun n os => (Z n os).2.1
      have z2 := fun n os => (Z n os).2.2.1
      have z3 := fun n os => (Z n os).2.2.2.1
      have y0 := fun n os => (Y n os).1
      have y1 := fun n os => (Y n os).2.1
      have y2 := fun n os => (Y n os).2.2.1
      have y3 := fun n os => (Y n os).2.2.2.1
      obtain ⟨r, hr⟩ := cmp_calls n1 a1 a2 a3 n2 b1 b2 b3
      have HC := Lib.hid hr
      have kP : h < N := by omega
      have kQ : a < N := by omega
      clear hx hy hr Z Y
      by_cases hr : r < 0
      · have hd1 : decide (r < 0) = true := decide_eq_true hr
        have hw4 : IntKind.i64.wrap ((h : Int) + 1) = ((h + 1 : Nat) : Int) := by rw [IntKind.wrap_i64]; omega
        go_upto_region 5 with fail
        go_quiet_grown ((go_at_call 45; refine Calls.grown_of (HC.out _)))
        have HS3 := Lib.hid (SWK.grown HS2.out nq osq)
        generalize grow (wr.drewN nq) osq = w3 at HS3 ⊢
        clear z0 z1 z2 z3 y0 y1 y2 y3
        go_wp2_with fail
        go_roundw
        case rel => exact ⟨h + 1, j, d', by go_num, rfl, by omega, by omega, h3, HD2.out, HS3.out⟩
        case measure => simp [intOf]; omega
      · have hd1 : decide (r < 0) = false := decide_eq_false hr
        go_upto_region 5 with fail
        go_quiet_grown ((go_at_call 45; refine Calls.grown_of (HC.out _)))
        have HS3 := Lib.hid (SWK.grown HS2.out nq osq)
        generalize grow (wr.drewN nq) osq = w3 at HS3 ⊢
        clear z0 z1 z2 z3 y0 y1 y2 y3
        go_wp2_with fail
        go_roundw
        case rel => exact ⟨i, h, d', rfl, rfl, h1, hb1.1, by omega, HD2.out, HS3.out⟩
        case measure => simp [intOf]; omega
    · have hij : i = j := by omega
      have HIB : Hid (i ≤ b) := by show _ ≤ _; omega
      clear h2 h3 hij
      go_wp2_with fail
      go_loopw [13] (fun kk wr => ∃ (k : Nat) (d' : Array AttrD), kk = .int .i64 k ∧ a ≤ k ∧ k ≤ b ∧ d'.size = N ∧ SWA w0 g d' wr) (fun kk _ => b - (intOf kk).toNat)
      case atStart => exact ⟨a, d', rfl, Nat.le_refl _, by omega, HD2.out, HS2.out⟩
      case round =>
        clear HD2 HS2
        obtain ⟨k, d', rfl, g1, g2, hd', hS⟩ := hrel
        have HD2 := Lib.hid hd'
        have HS2 := Lib.hid hS
        clear hd' hS
        by_cases hk : k + 1 < i
        · obtain ⟨q, hq⟩ : ∃ q, k + 1 = q := ⟨_, rfl⟩
          have hw4 : IntKind.i64.wrap ((k : Int) + 1) = (q : Int) := by rw [IntKind.wrap_i64]; omega
          have hw5 : IntKind.i64.wrap ((i : Int) - 1) = (i : Int) - 1 := by have := HIB.out; rw [IntKind.wrap_i64]; omega
          have hd1 : decide ((k : Int) < (i : Int) - 1) = true := decide_eq_true (by omega)
          have hqb : q ≤ b := by have := HIB.out; omega
          have hqN : q < N := by have := HIB.out; omega
          obtain ⟨⟨n1, a1, a2, a3⟩, hx⟩ : ∃ x, d'[k]! = x := ⟨_, rfl⟩
          obtain ⟨⟨n2, b1, b2, b3⟩, hy⟩ : ∃ x, d'[q]! = x := ⟨_, rfl⟩
          obtain ⟨z0, z1, z2, z3, f0, f1, f2, f3⟩ := SWK.at4 HS2.out HR.out (by rw [HD2.out, HN.out]) (i := k) (by rw [HD2.out]; omega) hx
          obtain ⟨y0, y1, y2, y3, e0, e1, e2, e3⟩ := SWK.at4 HS2.out HR.out (by rw [HD2.out, HN.out]) (i := q) (by rw [HD2.out]; omega) hy
          have hsw := SWK.swapped HS2.out HR.out k q (by rw [HD2.out]; omega) (by rw [HD2.out]; omega)
          rw [hx, hy, Nat.zero_add, Nat.zero_add, swap_world] at hsw
          have HSW := Lib.hid hsw
          have kP : k < N := by omega
          have kQ : q < N := by omega
          have k1 : ¬ (k = q) := by omega
          have k2 : ¬ (q = k) := by omega
          have k3 : ¬ (k * 4 = q * 4) := by omega
          have k4 : ¬ (q * 4 = k * 4) := by omega
          have k5 : ¬ (k * 4 = q * 4 + 1) := by omega
          have k6 : ¬ (k * 4 + 1 = q * 4) := by omega
          have k7 : ¬ (q * 4 = k * 4 + 1) := by omega
          have k8 : ¬ (q * 4 + 1 = k * 4) := by omega
          have k9 : ¬ (k * 4 = q * 4 + 2) := by omega
          have k10 : ¬ (k * 4 + 2 = q * 4) := by omega
          have k11 : ¬ (q * 4 = k * 4 + 2) := by omega
          have k12 : ¬ (q * 4 + 2 = k * 4) := by omega
          have k13 : ¬ (k * 4 = q * 4 + 3) := by omega
          have k14 : ¬ (k * 4 + 3 = q * 4) := by omega
          have k15 : ¬ (q * 4 = k * 4 + 3) := by omega
          have k16 : ¬ (q * 4 + 3 = k * 4) := by omega
          clear hx hy hsw
          go_upto_region 11 with fail
          go_big_region
          show Exit.inBlock _ _ .normal _ (swapW wr g k q (n1, a1, a2, a3) (n2, b1, b2, b3))
          generalize swapW wr g k q (n1, a1, a2, a3) (n2, b1, b2, b3) = w2 at HSW ⊢
          clear z0 z1 z2 z3 f0 f1 f2 f3 y0 y1 y2 y3 e0 e1 e2 e3 k1 k2 k3 k4 k5 k6 k7 k8 k9 k10 k11 k12 k13 k14 k15 k16
          go_wp2_with fail
          go_roundw
          case rel => exact ⟨q, swp d' k q, rfl, by omega, hqb, by rw [size_swp]; exact HD2.out, HSW.out⟩
          case measure => simp [intOf]; omega
        · have hd1 : decide ((k : Int) < (i : Int) - 1) = false := decide_eq_false (by omega)
          have hw5 : IntKind.i64.wrap ((i : Int) - 1) = (i : Int) - 1 := by have := HIB.out; rw [IntKind.wrap_i64]; omega
          go_wp2_with fail
          go_end0
          exact ⟨rfl, d', HD2.out, HS2.out⟩

end Go.Proofs.YthnfoiaahiopdaaDoor
