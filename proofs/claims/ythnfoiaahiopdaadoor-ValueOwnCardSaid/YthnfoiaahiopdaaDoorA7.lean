/- Two sorted runs put together, both of more than one: the row stays a row. -/
import Derived.Test.YthnfoiaahiopdaaDoorA6
import Derived.Deep.DeepCutAuto
set_option linter.unusedVariables false
set_option linter.unusedSimpArgs false
set_option linter.unnecessarySimpa false
namespace Go.Proofs.YthnfoiaahiopdaaDoor
open Go.RowKit Go.Shelf Go.Lib Go.Sort
attribute [local go_sem] Oper.semAt_some

set_option maxRecDepth 100000 in
set_option maxHeartbeats 4000000 in
theorem symMerge_gen {w0 : World} {g : Nat} {d0 : Array AttrD} (R : RowA w0 g d0) (N cap a m b : Nat) (hN : d0.size = N) (d : Array AttrD) (hd : d.size = N) (ham : a + 1 < m) (hmb : m + 1 < b) (hb : b ≤ N) (hsz : N < 4611686018427387904) (W : World) (S : SWA w0 g d W)
    (IH : ∀ (a' m' b' : Nat) (d' : Array AttrD) (W' : World), b' - a' < b - a → a' < m' → m' < b' → b' ≤ N → d'.size = N → SWA w0 g d' W' → Calls Tryd.prog 62 #[.slice (some ⟨g, 0, none⟩) N cap, .int .i64 a', .int .i64 m', .int .i64 b', .func (.func 45) #[] #[]] W' (SortPost w0 g N)) :
    Calls Tryd.prog 62 #[.slice (some ⟨g, 0, none⟩) N cap, .int .i64 a, .int .i64 m, .int .i64 b, .func (.func 45) #[] #[]] W (SortPost w0 g N) := by
  have hmix : Tryd.prog.follows .mixedOrders = true := by kernel_rfl
  have HROT : Hid (∀ (a' m' b' : Nat) (d' : Array AttrD) (W' : World), a' < m' → m' < b' → b' ≤ N → d'.size = N → SWA w0 g d' W' → Calls Tryd.prog 72 #[.slice (some ⟨g, 0, none⟩) N cap, .int .i64 a', .int .i64 m', .int .i64 b', .func (.func 45) #[] #[]] W' (SortPost w0 g N)) := fun a' m' b' d' W' h1 h2 h3 h4 h5 => rotate_any R N cap a' m' b' hN d' h4 h1 h2 h3 hsz W' h5
  have HIH := Lib.hid IH
  have HR := Lib.hid R
  have HN := Lib.hid hN
  have HS := Lib.hid S
  have HD := Lib.hid hd
  obtain ⟨x1, hx1⟩ : ∃ x, m - a = x := ⟨_, rfl⟩
  obtain ⟨x2, hx2⟩ : ∃ x, b - m = x := ⟨_, rfl⟩
  obtain ⟨M, hM⟩ : ∃ x, (a + b) / 2 = x := ⟨_, rfl⟩
  obtain ⟨n, hn⟩ : ∃ x, M + m = x := ⟨_, rfl⟩
  have hw1 : IntKind.i64.wrap ((m : Int) - (a : Int)) = (x1 : Int) := by rw [IntKind.wrap_i64]; omega
  have hne1 : ((x1 : Int) == 1) = false := by simp; omega
  have hw2 : IntKind.i64.wrap ((b : Int) - (m : Int)) = (x2 : Int) := by rw [IntKind.wrap_i64]; omega
  have hne2 : ((x2 : Int) == 1) = false := by simp; omega
  have hw3 : ((a : Int) + (b : Int)) / 2 = (M : Int) := by omega
  have hw4 : IntKind.i64.wrap ((M : Int) + (m : Int)) = (n : Int) := by rw [IntKind.wrap_i64]; omega
  have hMb : 2 * M ≤ a + b ∧ a + b ≤ 2 * M + 1 := by omega
  have HNN := Lib.hid hn
  have hM1 : a < M ∧ M < b := by omega
  clear S R hN hd hx1 hx2 hM hn IH
  go_enter Tryd.func62, Tryd.ntmps62
  go_upto_region 27 with fail
  go_cut [140] from 138 (fun x wx => x = .bool (decide (M < m)) ∧ wx = W)
  case first =>
    by_cases h : M < m
    · have hd : decide (M < m) = true := decide_eq_true h
      go_wp2_with fail
      go_meet
      exact ⟨by rw [hd], rfl⟩
    · have hd : decide (M < m) = false := decide_eq_false h
      go_wp2_with fail
      go_meet
      exact ⟨by rw [hd], rfl⟩
  case rest =>
    obtain ⟨rfl, rfl⟩ := hcut
    refine ‹∀ (a : Act) (w : World), Code.wp Tryd.prog _ _ a w → _› _ _ ?_
    go_cut [20, 21] from 138 (fun s r wx => (∃ (st re : Nat), s = .int .i64 st ∧ r = .int .i64 re ∧ a ≤ st ∧ n ≤ st + b ∧ st ≤ re ∧ re ≤ M ∧ re ≤ m) ∧ wx = wc)
    case first =>
      by_cases h : M < m
      · have hd : decide (M < m) = true := decide_eq_true h
        obtain ⟨st, hst⟩ : ∃ x, n - b = x := ⟨_, rfl⟩
        have hn := HNN.out
        have hw5 : IntKind.i64.wrap ((n : Int) - (b : Int)) = (st : Int) := by rw [IntKind.wrap_i64]; omega
        rw [hd]
        clear hn
        go_wp2_with fail
        go_meet
        exact ⟨⟨st, M, rfl, rfl, by have := HNN.out; omega, by omega, by have := HNN.out; omega, Nat.le_refl _, by omega⟩, rfl⟩
      · have hd : decide (M < m) = false := decide_eq_false h
        rw [hd]
        go_wp2_with fail
        go_meet
        exact ⟨⟨a, m, rfl, rfl, Nat.le_refl _, by have := HNN.out; omega, by omega, by omega, Nat.le_refl _⟩, rfl⟩
    case rest =>
      obtain ⟨⟨st0, re0, rfl, rfl, g1, g2, g3, g4, g5⟩, rfl⟩ := hcut
      clear hw1 hw2 hw3 hw4 hne1 hne2
      have hn1 : 1 ≤ n := by have := HNN.out; omega
      have hw6 : IntKind.i64.wrap ((n : Int) - 1) = ((n - 1 : Nat) : Int) := by have := HNN.out; rw [IntKind.wrap_i64]; omega
      go_wp2_with fail
      go_loopw [20, 21] (fun ii jj wr => ∃ (i j : Nat) (d' : Array AttrD), ii = .int .i64 i ∧ jj = .int .i64 j ∧ a ≤ i ∧ n ≤ i + b ∧ i ≤ j ∧ j ≤ M ∧ j ≤ m ∧ d'.size = N ∧ SWA w0 g d' wr) (fun ii jj _ => (intOf jj).toNat - (intOf ii).toNat)
      case atStart => exact ⟨st0, re0, d, rfl, rfl, g1, g2, g3, g4, g5, HD.out, HS.out⟩
      case round =>
        clear g1 g2 g3 g4 g5
        obtain ⟨i, j, d', rfl, rfl, g1, g2, g3, g4, g5, hd', hS⟩ := hrel
        have HD2 := Lib.hid hd'
        have HS2 := Lib.hid hS
        clear hd' hS
        by_cases hlt : i < j
        · obtain ⟨h, hh⟩ : ∃ h, (i + j) / 2 = h := ⟨_, rfl⟩
          have hb1 : i ≤ h ∧ h < j := by omega
          have hw3 : ((i : Int) + (j : Int)) / 2 = (h : Int) := by omega
          obtain ⟨q, hq⟩ : ∃ q, n - 1 - h = q := ⟨_, rfl⟩
          have hqN : q < N := by have := HNN.out; omega
          have hw5 : IntKind.i64.wrap (((n - 1 : Nat) : Int) - (h : Int)) = (q : Int) := by have := HNN.out; rw [IntKind.wrap_i64]; omega
          have hw8 : IntKind.i64.wrap ((n : Int) - 1 - (h : Int)) = (q : Int) := by have := HNN.out; rw [IntKind.wrap_i64]; omega
          clear hh hq
          obtain ⟨⟨n1, a1, a2, a3⟩, hx⟩ : ∃ x, d'[q]! = x := ⟨_, rfl⟩
          obtain ⟨⟨n2, b1, b2, b3⟩, hy⟩ : ∃ x, d'[h]! = x := ⟨_, rfl⟩
          have Z := fun n os => SWK.at4 (SWK.grown HS2.out n os) HR.out (by rw [HD2.out, HN.out]) (i := q) (by rw [HD2.out]; omega) hx
          have Y := fun n os => SWK.at4 (SWK.grown HS2.out n os) HR.out (by rw [HD2.out, HN.out]) (i := h) (by rw [HD2.out]; omega) hy
          have z0 := fun n os => (Z n os).1
          have z1 := fun n os => (Z n os).2.1
          have z2 := fun n os => (Z n os).2.2.1
          have z3 := fun n os => (Z n os).2.2.2.1
          have y0 := fun n os => (Y n os).1
          have y1 := fun n os => (Y n os).2.1
          have y2 := fun n os => (Y n os).2.2.1
          have y3 := fun n os => (Y n os).2.2.2.1
          obtain ⟨r, hr⟩ := cmp_calls n1 a1 a2 a3 n2 b1 b2 b3
          have HC := Lib.hid hr
          have kP : q < N := by omega
          have kQ : h < N := by omega
          clear hx hy hr Z Y
          by_cases hr : r < 0
          · have hd1 : decide (r < 0) = true := decide_eq_true hr
            go_upto_region 35 with fail
            go_quiet_grown ((go_at_call 45; refine Calls.grown_of (HC.out _)))
            have HS3 := Lib.hid (SWK.grown HS2.out nq osq)
            generalize grow (wr.drewN nq) osq = w3 at HS3 ⊢
            clear z0 z1 z2 z3 y0 y1 y2 y3
            go_wp2_with fail
            go_roundw
            case rel => exact ⟨i, h, d', rfl, rfl, g1, g2, hb1.1, by omega, by omega, HD2.out, HS3.out⟩
            case measure => simp [intOf]; omega
          · have hd1 : decide (r < 0) = false := decide_eq_false hr
            have hw4 : IntKind.i64.wrap ((h : Int) + 1) = ((h + 1 : Nat) : Int) := by rw [IntKind.wrap_i64]; omega
            go_upto_region 35 with fail
            go_quiet_grown ((go_at_call 45; refine Calls.grown_of (HC.out _)))
            have HS3 := Lib.hid (SWK.grown HS2.out nq osq)
            generalize grow (wr.drewN nq) osq = w3 at HS3 ⊢
            clear z0 z1 z2 z3 y0 y1 y2 y3
            go_wp2_with fail
            go_roundw
            case rel => exact ⟨h + 1, j, d', by go_num, rfl, by omega, by omega, by omega, g4, g5, HD2.out, HS3.out⟩
            case measure => simp [intOf]; omega
        · obtain ⟨e, he⟩ : ∃ e, n - i = e := ⟨_, rfl⟩
          have hw5 : IntKind.i64.wrap ((n : Int) - (i : Int)) = (e : Int) := by have := HNN.out; rw [IntKind.wrap_i64]; omega
          have heb : e ≤ b := by omega
          have hij : i = j := by omega
          have him : i ≤ m ∧ i ≤ M := by omega
          clear he hij g3 g4 g5 g2
          go_upto_region 39 with fail
          go_cut [185] from 149 (fun x wx => x = .bool (decide (i < m ∧ m < e)) ∧ wx = wr)
          case first =>
            by_cases q1 : i < m
            · by_cases q2 : m < e
              · go_wp2_with fail
                go_meet
                exact ⟨by simp [q1, q2], rfl⟩
              · go_wp2_with fail
                go_meet
                exact ⟨by simp [q2], rfl⟩
            · go_wp2_with fail
              go_meet
              exact ⟨by simp [q1], rfl⟩
          case rest =>
            obtain ⟨rfl, rfl⟩ := hcut
            refine ‹∀ (a : Act) (w : World), Code.wp Tryd.prog _ _ a w → _› _ _ ?_
            go_cut [] from 149 (fun wx => ∃ d9 : Array AttrD, d9.size = N ∧ SWA w0 g d9 wx)
            case first =>
              by_cases hc : i < m ∧ m < e
              · have HC := Lib.hid (HROT.out i m e d' wc hc.1 hc.2 (by omega) HD2.out HS2.out)
                rw [decide_eq_true hc]
                go_wp2_with fail
                refine HC.out.mono ?_
                rintro e' w2 ⟨rfl, hp⟩
                go_wp2_with fail
                go_meet
                exact hp
              · rw [decide_eq_false hc]
                go_wp2_with fail
                go_meet
                exact ⟨d', HD2.out, HS2.out⟩
            case rest =>
              clear HD2 HS2
              obtain ⟨d9, hd9, hS9⟩ := hcut
              have HD9 := Lib.hid hd9
              have HS9 := Lib.hid hS9
              clear hd9 hS9
              go_upto_region 41 with fail
              go_cut [199] from 149 (fun x wx => x = .bool (decide (a < i ∧ i < M)) ∧ wx = wc)
              case first =>
                by_cases q1 : a < i
                · by_cases q2 : i < M
                  · go_wp2_with fail
                    go_meet
                    exact ⟨by simp [q1, q2], rfl⟩
                  · go_wp2_with fail
                    go_meet
                    exact ⟨by simp [q2], rfl⟩
                · go_wp2_with fail
                  go_meet
                  exact ⟨by simp [q1], rfl⟩
              case rest =>
                obtain ⟨rfl, rfl⟩ := hcut
                refine ‹∀ (a : Act) (w : World), Code.wp Tryd.prog _ _ a w → _› _ _ ?_
                go_cut [] from 149 (fun wx => ∃ d9 : Array AttrD, d9.size = N ∧ SWA w0 g d9 wx)
                case first =>
                  by_cases hc : a < i ∧ i < M
                  · have HC := Lib.hid (HIH.out a i M d9 wc (by omega) hc.1 hc.2 (by omega) HD9.out HS9.out)
                    rw [decide_eq_true hc]
                    go_wp2_with fail
                    refine HC.out.mono ?_
                    rintro e' w2 ⟨rfl, hp⟩
                    go_wp2_with fail
                    go_meet
                    exact hp
                  · rw [decide_eq_false hc]
                    go_wp2_with fail
                    go_meet
                    exact ⟨d9, HD9.out, HS9.out⟩
                case rest =>
                  clear HD9 HS9
                  obtain ⟨d9, hd9, hS9⟩ := hcut
                  have HD9 := Lib.hid hd9
                  have HS9 := Lib.hid hS9
                  clear hd9 hS9
                  go_upto_region 43 with fail
                  go_cut [213] from 149 (fun x wx => x = .bool (decide (M < e ∧ e < b)) ∧ wx = wc)
                  case first =>
                    by_cases q1 : M < e
                    · by_cases q2 : e < b
                      · go_wp2_with fail
                        go_meet
                        exact ⟨by simp [q1, q2], rfl⟩
                      · go_wp2_with fail
                        go_meet
                        exact ⟨by simp [q2], rfl⟩
                    · go_wp2_with fail
                      go_meet
                      exact ⟨by simp [q1], rfl⟩
                  case rest =>
                    obtain ⟨rfl, rfl⟩ := hcut
                    refine ‹∀ (a : Act) (w : World), Code.wp Tryd.prog _ _ a w → _› _ _ ?_
                    by_cases hc : M < e ∧ e < b
                    · have HC := Lib.hid (HIH.out M e b d9 wc (by omega) hc.1 hc.2 hb HD9.out HS9.out)
                      rw [decide_eq_true hc]
                      go_wp2_with fail
                      refine HC.out.mono ?_
                      rintro e' w2 ⟨rfl, hp⟩
                      go_wp2_with fail
                      go_end0
                      exact ⟨rfl, hp⟩
                    · rw [decide_eq_false hc]
                      go_wp2_with fail
                      go_end0
                      exact ⟨rfl, d9, HD9.out, HS9.out⟩

end Go.Proofs.YthnfoiaahiopdaaDoor
