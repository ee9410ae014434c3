/- The tree's iterators: such, and what is collected of one. -/
import Derived.Test.YtikpnlmimhnmmaaT8
import Derived.RangeFuncNested
import Derived.RangeFuncBound
import Derived.RangeFuncCalls
import Derived.RangeFuncLeaves
import Derived.RangeFuncBox
import Derived.Shelf.Abstract
import Derived.Shelf.RegionOpen
import Derived.OwnWalkIn
import Derived.TacticsInMore
import Derived.LoopNIn
import Derived.LoopIn
import Derived.Maps.AppendAt
set_option linter.unusedVariables false
set_option linter.unusedSimpArgs false
namespace Go.Proofs.Ytikpnlmimhnmmaa
open Go.RowKit Go.Shelf Tr
attribute [local go_sem] Oper.semAt_some

/-- Those of 0 .. n-1 of which p holds. -/
def sel (p : Nat → Bool) (n : Nat) : List Int := ((List.range n).filter p).map (fun k : Nat => (k : Int))
theorem sel_zero (p : Nat → Bool) : sel p 0 = [] := rfl
theorem sel_hit (p : Nat → Bool) (n : Nat) (h : p n = true) : sel p (n + 1) = sel p n ++ [(n : Int)] := by
  unfold sel; rw [List.range_succ, List.filter_append, List.map_append]; simp [h]
theorem sel_miss (p : Nat → Bool) (n : Nat) (h : p n = false) : sel p (n + 1) = sel p n := by
  unfold sel; rw [List.range_succ, List.filter_append, List.map_append]; simp [h]
theorem sel_le (p : Nat → Bool) (n : Nat) : (sel p n).length ≤ n := by
  unfold sel; rw [List.length_map]; have := List.length_filter_le p (List.range n); simpa using this
theorem sel_pre (p : Nat → Bool) {k n : Nat} (h : k ≤ n) : sel p k <+: sel p n := by
  induction n with
  | zero => have : k = 0 := by omega
            subst this; exact List.prefix_refl _
  | succ n ih =>
    by_cases hk : k = n + 1
    · subst hk; exact List.prefix_refl _
    · refine (ih (by omega)).trans ?_
      cases hp : p n
      · rw [sel_miss p n hp]; exact List.prefix_refl _
      · rw [sel_hit p n hp]; exact List.prefix_append _ _
theorem Kept.grownBy {w w' : World} (h : Kept [] w w') : w.grownBy w' none :=
  ⟨h.os, h.tape, h.output, h.size, fun k hk _ => h.block k hk (by simp)⟩

set_option maxRecDepth 100000 in
set_option maxHeartbeats 4000000 in
theorem such1_stops (m : Nat) (hm : 1 ≤ m) (bt bf n₀ nn gf : Nat) (tp : Option Addr) (lbf : Array Value) (p : Nat → Bool) (w : World) (hn0 : n₀ ≤ w.heap.size) (hbt : bt < n₀) (hbf : bf < n₀)
    (ht : w.cell? ⟨bt, 0, none⟩ = some (.pointer tp)) (hf : w.cell? ⟨bf, 0, none⟩ = some (.func (.func gf) #[] lbf)) (eg : ∀ args w, (callFunc gf args).run Try.prog w = .ok (.enter gf args) w)
    (hlen : ∀ W, Below n₀ w W → Calls Try.prog 13 #[.pointer tp] W fun e W' => e = .returned (.int .i64 nn) ∧ W = W') (hn16 : nn ≤ 16)
    (hp : ∀ W (k : Nat), Below n₀ w W → k < nn → Calls Try.prog gf (#[.int .i64 k] ++ lbf) W fun e W' => e = .returned (.bool (p k)) ∧ Kept [] W W') :
    SeqStopsK Fence.wide m Try.prog 58 #[.pointer (some ⟨bt, 0, none⟩), .pointer (some ⟨bf, 0, none⟩)] (fun k : Int => #[.int .i64 k]) (Below n₀) (fun ys => ys = sel p nn) (fun pre => pre <+: sel p nn) 16 w := by
  intro l J Jx W hW hJ hJx hY h0
  have hb0 : Below n₀ w W := hW.mono hn0
  have htW := (hb0.cell (p := ⟨bt, 0, none⟩) hbt).trans ht
  have hfW := (hb0.cell (p := ⟨bf, 0, none⟩) hbf).trans hf
  refine callsIn_of_wp Try.func58 rfl trivial ?_ rfl
  simp only [Try.ntmps58, List.size_toArray, List.length_cons, List.length_nil, Nat.reduceAdd, Nat.reduceSub, Array.replicate_succ, Array.replicate_zero, List.push_toArray, List.append_toArray, List.nil_append, List.cons_append]
  have hm' : 1 ≤ m := hm
  gi_wp2_with (refine ⟨trivial, ?_⟩; gi_at_call 13; refine (callsIn_wide.2 (hlen W hb0)).mono ?_; rintro e w' ⟨rfl, rfl⟩)
  gi_loopw [7] (fun i wr => ∃ (k : Nat), i = .int .i64 k ∧ k ≤ nn ∧ Below n₀ w wr ∧ J (sel p k) wr ∧ W.heap.size ≤ wr.heap.size) (fun i _ => nn - (intOf i).toNat)
  case atStart => exact ⟨0, rfl, by omega, hb0, h0, Nat.le_refl _⟩
  case round =>
    obtain ⟨k, rfl, hk, hbr, hJs, hsz⟩ := hrel
    have hsl := sel_le p k
    by_cases hlt : k < nn
    · have hfr := (hbr.cell (p := ⟨bf, 0, none⟩) hbf).trans hf
      have hpk := hp wr k hbr hlt
      gi_wp2_with fail
      refine ⟨trivial, (callsIn_wide.2 hpk).mono ?_⟩
      rintro e w1 ⟨rfl, hk1⟩
      have hJ1 := hJ _ wr w1 none hJs hk1.grownBy (fun r e => by cases e)
      have hb1 : Below n₀ w w1 := hbr.trans (hk1.below.mono (by have := hbr.size; omega))
      have hsz1 : W.heap.size ≤ w1.heap.size := Nat.le_trans hsz hk1.size
      cases hpv : p k with
      | false =>
        have hrel : J (sel p (k + 1)) w1 := by rw [sel_miss p k hpv]; exact hJ1
        clear hpv hpk
        have hwk : IntKind.i64.wrap ((k : Int) + 1) = ((k + 1 : Nat) : Int) := by unfold IntKind.wrap; simp [IntKind.signed, IntKind.bits]; omega
        have HWK := Lib.hid hwk
        clear hwk
        gi_wp2_with (refine ⟨fun _ h => (by cases h), ?_⟩)
        go_roundw
        case rel => exact ⟨k + 1, congrArg (Value.int .i64) HWK.out, by omega, hb1, hrel, hsz1⟩
        case measure => simp only [intOf, HWK.out]; omega
      | true =>
        have hh := sel_hit p k hpv
        have HH := Lib.hid hh
        clear hh hpv hpk
        obtain ⟨fn, tmps, assign, body, hy, hR⟩ := hY (sel p k) k w1 hJ1 (by omega)
        gi_wp2_with fail
        refine hR.mono ?_
        rintro e W3 (⟨rfl, hJ3, hk3⟩ | ⟨rfl, hJx3⟩)
        · rw [← HH.out] at hJ3
          gi_wp2_with fail
          go_roundw
          case rel => exact ⟨k + 1, by go_num, by omega, hb1.trans hk3, hJ3, by have := hk3.size; omega⟩
          case measure => simp [intOf]; omega
        · rw [← HH.out] at hJx3
          gi_wp2_with fail
          refine bodyPost_ret (results_none rfl _ _ _) rfl ?_
          exact ⟨⟨_, rfl⟩, .inr ⟨_, sel_pre p (show k + 1 ≤ nn by omega), hJx3⟩⟩
    · gi_wp2
      go_end0
      have : k = nn := by omega
      subst this
      exact ⟨⟨_, rfl⟩, .inl ⟨_, rfl, hJs⟩⟩

end Go.Proofs.Ytikpnlmimhnmmaa
