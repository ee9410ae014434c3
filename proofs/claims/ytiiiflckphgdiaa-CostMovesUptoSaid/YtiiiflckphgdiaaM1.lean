/- The program's model of a placing: which are brokers; what a way costs. -/
import Derived.Test.YtiiiflckphgdiaaP15
import Derived.Test.YtiiiflckphgdiaaT6
set_option linter.unusedVariables false
set_option linter.unusedSimpArgs false
set_option linter.unnecessarySimpa false
namespace Go.Proofs.Ytiiiflckphgdiaa
open Go.RowKit Go.Shelf Tr
attribute [local go_sem] Oper.semAt_some

def outB (n : Nat) (i : Int) : Bool := decide (i < 0) || decide ((n : Int) ≤ i)
theorem TreeAt.keep {w w' : World} {b : Nat} {P : List Int} (h : TreeAt w b P) (k : Kept [] w w') : TreeAt w' b P := RawAt.keep h k
theorem TreeAt.lt {w : World} {b : Nat} {P : List Int} (h : TreeAt w b P) : b < w.heap.size := h.2.2.lt

set_option maxHeartbeats 1000000 in
theorem broker1_any (bx b : Nat) (P : List Int) (i : Int) (w : World) (h : TreeAt w b P) (hb : w.cell? ⟨bx, 0, none⟩ = some (.pointer (some ⟨b, 0, none⟩))) :
    Calls Try.prog 72 #[.int .i64 i, .pointer (some ⟨bx, 0, none⟩)] w fun e w' => e = .returned (.bool (outB P.length i)) ∧ w = w' := by
  by_cases h1 : i < 0
  · have e1 : outB P.length i = true := by unfold outB; simp [h1]
    rw [e1]
    clear e1
    go_enter Try.func72, Try.ntmps72
    go_wp2_with fail
    go_ret
    exact ⟨rfl, rfl⟩
  · have HE : Hid (outB P.length i = decide ((P.length : Int) ≤ i)) := by show _ = _; unfold outB; simp [h1]
    rw [HE.out]
    have HL := Lib.hid (len_some b P.length _ w h)
    clear h
    obtain ⟨n, hn⟩ : ∃ n, P.length = n := ⟨_, rfl⟩
    rw [hn] at HL ⊢
    clear hn HE
    go_enter Try.func72, Try.ntmps72
    go_wp2_with fail
    refine HL.out.mono ?_
    rintro e w' ⟨rfl, rfl⟩
    go_wp2_with fail
    go_ret
    exact ⟨rfl, rfl⟩

set_option maxRecDepth 100000 in
set_option maxHeartbeats 1000000 in
theorem broker_any (b : Nat) (P : List Int) (v : Value) (l : List Int) (w : World) (h : TreeAt w b P) (hx : RdI w .i64 v l) (hr : Rds (Rk.int .i64) w v l) :
    Calls Try.prog 53 #[.pointer (some ⟨b, 0, none⟩), v] w fun e w' => e = .returned (.bool (!l.any (outB P.length))) ∧ Kept [] w w' := by
  have HC := Lib.hid (fun (W : World) (hk : Kept [] w W) (hb : W.cell? ⟨w.heap.size, 0, none⟩ = some (.pointer (some ⟨b, 0, none⟩))) => contains_ints 72 #[.pointer (some ⟨w.heap.size, 0, none⟩)] (outB P.length) v l W (hr.keep hk) (fun _ _ => rfl)
    (fun W' x _ hk' => (broker1_any w.heap.size b P x W' (h.keep (hk.trans hk')) (hk'.cell (by simp) hb)).mono fun _ w1 ⟨he, hw⟩ => ⟨he, hw ▸ Kept.refl [] W'⟩))
  obtain ⟨A, c, rfl, hmA, -⟩ := hx
  obtain ⟨n, hn⟩ : ∃ n, l.length = n := ⟨_, rfl⟩
  rw [hn] at HC ⊢
  obtain ⟨q, hq⟩ : ∃ q, l.any (outB P.length) = q := ⟨_, rfl⟩
  rw [hq] at HC ⊢
  clear h hr hn hmA hq
  have HK := Lib.hid ((Kept.refl [] w).alloc (.cells #[.pointer (some ⟨b, 0, none⟩)] 48))
  have HB := Lib.hid ((Blk.new w #[.pointer (some ⟨b, 0, none⟩)] 48).cell 0)
  go_enter Try.func53, Try.ntmps53
  go_wp2_with fail
  refine (HC.out _ HK.out (HB.out.trans rfl)).mono ?_
  rintro e w' ⟨rfl, hk⟩
  have HK2 := Lib.hid (HK.out.trans hk)
  clear hk
  go_wp2_with fail
  go_ret
  exact ⟨rfl, HK2.out⟩

/-- A model's cells. -/
abbrev mdC (b : Nat) (xo xf rs rt rp av sv ov : Value) : Array Value := #[.pointer (some ⟨b, 0, none⟩), xo, xf, rs, rt, rp, av, sv, ov]
def wayV (P : List Int) (n a b : Int) : Int := mulV [n, distG P a b]

set_option maxHeartbeats 1000000 in
theorem way_any (mb b : Nat) (P : List Int) (n a c : Int) (w : World) (h : TreeAt w b P) (hT : Tree P) (hm : w.cell? ⟨mb, 0, none⟩ = some (.pointer (some ⟨b, 0, none⟩))) :
    Calls Try.prog 55 #[.pointer (some ⟨mb, 0, none⟩), .int .i64 n, .int .i64 a, .int .i64 c] w fun e w' => e = .returned (.int .i64 (wayV P n a c)) ∧ Kept [] w w' := by
  have HD := Lib.hid (dist_any b P a c w h hT)
  clear h hT
  unfold wayV
  obtain ⟨d, hd⟩ : ∃ d, distG P a c = d := ⟨_, rfl⟩
  rw [hd] at HD ⊢
  clear hd
  obtain ⟨q, hq⟩ : ∃ q, mulV [n, d] = q := ⟨_, rfl⟩
  have HQ := Lib.hid hq
  rw [hq]
  clear hq
  go_enter Try.func55, Try.ntmps55
  go_wp2_with fail
  refine HD.out.mono ?_
  rintro e w1 ⟨rfl, hk⟩
  have HK := Lib.hid hk
  clear hk
  go_wp2_with fail
  refine (mul_any _ _ _ two_built).mono ?_
  rintro e w2 ⟨rfl, rfl⟩
  rw [HQ.out]
  go_wp2_with fail
  go_ret
  exact ⟨rfl, HK.out.alloc _⟩

end Go.Proofs.Ytiiiflckphgdiaa
