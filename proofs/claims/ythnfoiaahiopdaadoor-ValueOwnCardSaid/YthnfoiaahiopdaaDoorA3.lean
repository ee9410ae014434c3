/- A run of exchanges: the row stays a row. -/
import Derived.Test.YthnfoiaahiopdaaDoorA2
import Derived.Deep.DeepCutAuto
set_option linter.unusedVariables false
set_option linter.unusedSimpArgs false
set_option linter.unnecessarySimpa false
namespace Go.Proofs.YthnfoiaahiopdaaDoor
open Go.RowKit Go.Shelf Go.Lib Go.Sort
attribute [local go_sem] Oper.semAt_some

/-- What comes of a part of the sort: the row holds as many, in some order. -/
def SortPost (w0 : World) (g N : Nat) (e : Ending) (w' : World) : Prop := e = .returned (.tuple #[]) ∧ ∃ d' : Array AttrD, d'.size = N ∧ SWA w0 g d' w'

theorem drew_set (w : World) (a : Addr) (v : Value) : (w.setCell a v).drew = w.drew.setCell a v := rfl
/-- The world behind an exchange, as the walk leaves it. -/
def swapW (wr : World) (g p q : Nat) (x y : AttrD) : World := (((((((((wr.setCell ⟨g, p * 4, none⟩ (.string y.1)).setCell ⟨g, p * 4 + 1, none⟩ (.int .i64 y.2.1)).setCell ⟨g, p * 4 + 2, none⟩ (.int .i64 y.2.2.1)).setCell ⟨g, p * 4 + 3, none⟩ (.string y.2.2.2)).setCell ⟨g, q * 4, none⟩ (.string x.1)).setCell ⟨g, q * 4 + 1, none⟩ (.int .i64 x.2.1)).setCell ⟨g, q * 4 + 2, none⟩ (.int .i64 x.2.2.1)).setCell ⟨g, q * 4 + 3, none⟩ (.string x.2.2.2)).drew)
theorem swap_world (wr : World) (g p q : Nat) (x y : AttrD) : ((wr.drew.setCells g (p * 4) (attrC y)).setCells g (q * 4) (attrC x)) = swapW wr g p q x y := by
  unfold swapW
  simp only [World.setCells, attrC, drew_set, Nat.add_assoc, Nat.reduceAdd]
set_option maxRecDepth 100000 in
set_option maxHeartbeats 4000000 in
theorem swapRange_any {w0 : World} {g : Nat} {d0 : Array AttrD} (R : RowA w0 g d0) (N cap a b n : Nat) (hN : d0.size = N) (d : Array AttrD) (hd : d.size = N) (hab : a + n ≤ b) (hb : b + n ≤ N) (hsz : N < 4611686018427387904) (W : World) (S : SWA w0 g d W) :
    Calls Tryd.prog 83 #[.slice (some ⟨g, 0, none⟩) N cap, .int .i64 a, .int .i64 b, .int .i64 n, .func (.func 45) #[] #[]] W (SortPost w0 g N) := by
  have HS := Lib.hid S
  have HR := Lib.hid R
  have HN := Lib.hid hN
  have HD := Lib.hid hd
  clear S R hN hd
  go_enter Tryd.func83, Tryd.ntmps83
  go_wp2_with fail
  go_loopw [10] (fun ii wr => ∃ (i : Nat) (d' : Array AttrD), ii = .int .i64 i ∧ i ≤ n ∧ d'.size = N ∧ SWA w0 g d' wr) (fun ii _ => n - (intOf ii).toNat)
  case atStart => exact ⟨0, d, rfl, Nat.zero_le _, HD.out, HS.out⟩
  case round =>
    obtain ⟨i, d', rfl, hi, hd', hS⟩ := hrel
    have HD2 := Lib.hid hd'
    have HS2 := Lib.hid hS
    by_cases hlt : i < n
    · obtain ⟨p, hp⟩ : ∃ p, a + i = p := ⟨_, rfl⟩
      obtain ⟨q, hq⟩ : ∃ q, b + i = q := ⟨_, rfl⟩
      have hpN : p < N := by omega
      have hqN : q < N := by omega
      obtain ⟨⟨n1, a1, a2, a3⟩, hx⟩ : ∃ x, d'[p]! = x := ⟨_, rfl⟩
      obtain ⟨⟨n2, b1, b2, b3⟩, hy⟩ : ∃ x, d'[q]! = x := ⟨_, rfl⟩
      obtain ⟨z0, z1, z2, z3, f0, f1, f2, f3⟩ := SWK.at4 HS2.out HR.out (by rw [HD2.out, HN.out]) (i := p) (by rw [HD2.out]; exact hpN) hx
      obtain ⟨y0, y1, y2, y3, e0, e1, e2, e3⟩ := SWK.at4 HS2.out HR.out (by rw [HD2.out, HN.out]) (i := q) (by rw [HD2.out]; exact hqN) hy
      have hsw := SWK.swapped HS2.out HR.out p q (by rw [HD2.out]; exact hpN) (by rw [HD2.out]; exact hqN)
      rw [hx, hy, Nat.zero_add, Nat.zero_add, swap_world] at hsw
      have HSW := Lib.hid hsw
      have hw1 : IntKind.i64.wrap ((a : Int) + (i : Int)) = (p : Int) := by rw [IntKind.wrap_i64]; omega
      have hw2 : IntKind.i64.wrap ((b : Int) + (i : Int)) = (q : Int) := by rw [IntKind.wrap_i64]; omega
      have k1 : ¬ (p = q) := by omega
      have k2 : ¬ (q = p) := by omega
      have k3 : ¬ (p * 4 = q * 4) := by omega
      have k4 : ¬ (q * 4 = p * 4) := by omega
      have k5 : ¬ (p * 4 = q * 4 + 1) := by omega
      have k6 : ¬ (p * 4 + 1 = q * 4) := by omega
      have k7 : ¬ (q * 4 = p * 4 + 1) := by omega
      have k8 : ¬ (q * 4 + 1 = p * 4) := by omega
      have k9 : ¬ (p * 4 = q * 4 + 2) := by omega
      have k10 : ¬ (p * 4 + 2 = q * 4) := by omega
      have k11 : ¬ (q * 4 = p * 4 + 2) := by omega
      have k12 : ¬ (q * 4 + 2 = p * 4) := by omega
      have k13 : ¬ (p * 4 = q * 4 + 3) := by omega
      have k14 : ¬ (p * 4 + 3 = q * 4) := by omega
      have k15 : ¬ (q * 4 = p * 4 + 3) := by omega
      have k16 : ¬ (q * 4 + 3 = p * 4) := by omega
      clear hx hy hsw hS hd' hp hq
      go_upto_region 3 with fail
      go_big_region
      show Exit.inBlock 1 _ .normal _ (swapW wr g p q (n1, a1, a2, a3) (n2, b1, b2, b3))
      generalize swapW wr g p q (n1, a1, a2, a3) (n2, b1, b2, b3) = w2 at HSW ⊢
      clear z0 z1 z2 z3 f0 f1 f2 f3 y0 y1 y2 y3 e0 e1 e2 e3
      go_wp2_with fail
      go_roundw
      case rel => exact ⟨i + 1, swp d' p q, by go_num, by omega, by rw [size_swp]; exact HD2.out, HSW.out⟩
      case measure => simp [intOf]; omega
    · go_wp2_with fail
      go_end0
      exact ⟨rfl, d', HD2.out, HS2.out⟩

end Go.Proofs.YthnfoiaahiopdaaDoor
