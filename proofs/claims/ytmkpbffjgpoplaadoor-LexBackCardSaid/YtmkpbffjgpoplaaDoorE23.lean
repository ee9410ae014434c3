/- lex.Walk's iterator. -/
import Derived.Test.YtmkpbffjgpoplaaDoorE20
import Derived.Test.YtmkpbffjgpoplaaDoorE11
import Derived.Test.YtmkpbffjgpoplaaDoorE22
import Derived.RangeFuncNested
import Derived.RangeFuncBound
import Derived.RangeFuncCalls
import Derived.RangeFuncLeaves
import Derived.Shelf.Abstract
import Derived.Shelf.RegionOpen
import Derived.OwnWalkIn
import Derived.TacticsInMore
import Derived.LoopNIn
import Derived.LoopIn
set_option linter.unusedVariables false
set_option linter.unusedSimpArgs false
set_option linter.unnecessarySimpa false
namespace Go.Proofs.YtmkpbffjgpoplaaDoor
open Go.RowKit Go.Shelf
attribute [local go_sem] Oper.semAt_some

theorem lnext_some (s : ByteArray) (k : Nat) (hk : k ≤ s.size) (hs : s.size ≤ 17592186044416) (w : World) (hv : Vars w) {t : TokD} (h : nextO s k = some t) : Calls Tryd.prog 26 #[.string s, .int .i64 k] w fun e w' => e = .returned (.tuple #[tokV t, .int .i64 ((blankV s k + t.text.size : Nat) : Int), .bool true]) ∧ Kept [] w w' := by
  refine (lnext_any s k hk hs w hv).mono ?_
  rintro e w' ⟨t', x, b, rfl, hm, hk⟩
  rw [h] at hm
  obtain ⟨rfl, rfl, rfl⟩ := hm
  exact ⟨by rw [Int.natCast_add], hk⟩
theorem lnext_none (s : ByteArray) (k : Nat) (hk : k ≤ s.size) (hs : s.size ≤ 17592186044416) (w : World) (hv : Vars w) (h : nextO s k = none) : Calls Tryd.prog 26 #[.string s, .int .i64 k] w fun e w' => ∃ t x, e = .returned (.tuple #[tokV t, .int .i64 x, .bool false]) ∧ Kept [] w w' := by
  refine (lnext_any s k hk hs w hv).mono ?_
  rintro e w' ⟨t', x, b, rfl, hm, hk⟩
  rw [h] at hm
  simp only at hm
  subst hm
  exact ⟨t', x, rfl, hk⟩

theorem Kept.grownBy {w w' : World} (h : Kept [] w w') : w.grownBy w' none := ⟨h.os, h.tape, h.output, h.size, fun k hk _ => h.block k hk (by simp)⟩
def encT (t : TokD) : Array Value := #[tokV t]
/-- What Walk gives. -/
noncomputable def walkV (s : ByteArray) : List TokD := if s.size ≤ 4096 then (wordsV s 0).1 else []
/-- What a round keeps: what lay below n₀, and the text. -/
def KpT (n₀ tb : Nat) (s : ByteArray) (W W' : World) : Prop := Below n₀ W W' ∧ (W.cell? ⟨tb, 0, none⟩ = some (.string s) → W'.cell? ⟨tb, 0, none⟩ = some (.string s))
theorem KpT.t {n₀ tb : Nat} {s : ByteArray} {A B C : World} (h : KpT n₀ tb s A B) (k : KpT n₀ tb s B C) : KpT n₀ tb s A C := ⟨h.1.trans k.1, fun h1 => k.2 (h.2 h1)⟩
theorem putObj_cell {W : World} {l : Nat} {o o' : Obj} {a : Addr} {v : Value} (ho : W.heap[l]? = some o) (hc : o.isCells = false) (h : W.cell? a = some v) : (W.putObj l o').cell? a = some v := by
  refine cell_kept h (grownBy_putObj' W l o') (fun r e => ?_)
  cases e
  exact ⟨o, ho, hc⟩
theorem KpT.b {n₀ tb : Nat} {s : ByteArray} {w : World} (hn : n₀ ≤ w.heap.size) (W : World) (l : Nat) (o o' : Obj) (hl : w.heap.size ≤ l) (h : W.heap[l]? = some o) (hc : o.isCells = false) (hw : o.isWalk = false) : KpT n₀ tb s W (W.putObj l o') :=
  ⟨belowK_b hn W l o o' hl h hc hw, fun h1 => putObj_cell h hc h1⟩
theorem Kept.of_below_mono {n₀ : Nat} {w w' : World} (h : Below n₀ w w') (hn : w.heap.size ≤ n₀) : Kept [] w w' := Kept.of_below (h.mono hn)

theorem WRel.more {s : ByteArray} {L : List TokD} {k p : Nat} (h : WRel s L k p) : L <+: (wordsV s 0).1 := by
  obtain ⟨_, _, _, h3⟩ := h
  rw [h3]
  exact List.prefix_append _ _

set_option maxRecDepth 100000 in
set_option maxHeartbeats 8000000 in
theorem walk1_stops (m : Nat) (hm : 1 ≤ m) (tb : Nat) (s : ByteArray) (w0 w : World) (hv : Vars w0) (hb : Below w0.heap.size w0 w) (htb : w.cell? ⟨tb, 0, none⟩ = some (.string s)) :
    SeqStopsK Fence.wide m Tryd.prog 25 #[.pointer (some ⟨tb, 0, none⟩)] encT (KpT w0.heap.size tb s) (fun ys => ys = walkV s) (fun pre => pre <+: walkV s) 4097 w := by
  intro l J Jx W hW hJ hJx hY h0
  have hsW := hW.size
  have htW := (hW.cell (p := ⟨tb, 0, none⟩) (World.block_lt_of_cell? w _ htb)).trans htb
  have hbW : Below w0.heap.size w0 W := hb.trans (hW.mono hb.size)
  have HNO : Hid (∀ (k : Nat) (W1 : World), s.size ≤ 4096 → k ≤ s.size → Below w0.heap.size w0 W1 → nextO s k = none → Calls Tryd.prog 26 #[.string s, .int .i64 k] W1 fun e w' => ∃ t x, e = .returned (.tuple #[tokV t, .int .i64 x, .bool false]) ∧ Kept [] W1 w') := fun k W1 h0 h1 h2 h3 => lnext_none s k h1 (by omega) W1 (hv.keep (Kept.of_below h2)) h3
  have HYES : Hid (∀ (k : Nat) (W1 : World) (t : TokD), s.size ≤ 4096 → k ≤ s.size → Below w0.heap.size w0 W1 → nextO s k = some t → Calls Tryd.prog 26 #[.string s, .int .i64 k] W1 fun e w' => e = .returned (.tuple #[tokV t, .int .i64 ((blankV s k + t.text.size : Nat) : Int), .bool true]) ∧ Kept [] W1 w') := fun k W1 t h0 h1 h2 h3 => lnext_some s k h1 (by omega) W1 (hv.keep (Kept.of_below h2)) h3
  obtain ⟨n, hn⟩ : ∃ n, s.size = n := ⟨_, rfl⟩
  have HN := Lib.hid hn
  have hl := len_at s hn
  have HST := Lib.hid (WRel.start s)
  clear hn hv hb htb
  refine callsIn_of_wp Tryd.func25 rfl trivial ?_ rfl
  simp only [Tryd.ntmps25, List.size_toArray, List.length_cons, List.length_nil, Nat.reduceAdd, Nat.reduceSub, Array.replicate_succ, Array.replicate_zero, List.push_toArray, List.append_toArray, List.nil_append, List.cons_append]
  by_cases hbig : 4096 < n
  · have hd : decide ((4096 : Int) < (n : Int)) = true := decide_eq_true (by omega)
    have HW : Hid (walkV s = []) := by show _ = _; unfold walkV; rw [if_neg (by rw [HN.out]; omega)]
    gi_wp2_with fail
    refine bodyPost_ret (results_none rfl _ _ _) rfl ?_
    exact ⟨⟨_, rfl⟩, .inl ⟨_, HW.out.symm, h0⟩⟩
  · have hd : decide ((4096 : Int) < (n : Int)) = false := decide_eq_false (by omega)
    have HW : Hid (walkV s = (wordsV s 0).1) := by show _ = _; unfold walkV; rw [if_pos (by rw [HN.out]; omega)]
    gi_wp2_with fail
    gi_loopw [3] (fun i wr => ∃ (k : Nat) (L : List TokD), i = .int .i64 k ∧ WRel s L k (blankV s k) ∧ J L wr ∧ Below w0.heap.size w0 wr ∧ wr.cell? ⟨tb, 0, none⟩ = some (.string s) ∧ W.heap.size ≤ wr.heap.size) (fun i _ => n + 1 - (intOf i).toNat)
    case atStart => exact ⟨0, [], rfl, HST.out, h0, hbW, htW, Nat.le_refl _⟩
    case round =>
      obtain ⟨k, L, rfl, hrl, hJs, hbr, htr, hsz⟩ := hrel
      have hkn : k ≤ n := by have := hrl.1; rw [HN.out] at this; exact this
      cases hno : nextO s k with
      | none =>
        have HC := Lib.hid (HNO.out k wr (by rw [HN.out]; omega) hrl.1 hbr hno)
        have HF : Hid (walkV s = L) := by
          show _ = _
          rw [HW.out, hrl.stop rfl (fun h => by unfold nextO at hno; rw [if_pos h] at hno; exact hno)]
        have hJ2 := fun w1 (hk : Kept [] wr w1) => hJ L wr w1 none hJs hk.grownBy (fun r e => by cases e)
        have HJ2 := Lib.hid hJ2
        clear hno hrl hJ2
        gi_wp2_with (refine ⟨trivial, ?_⟩; gi_at_call 26; refine (callsIn_wide.2 HC.out).mono ?_; rintro e w1 ⟨⟨K, T, ⟨v1, v2, v3⟩, pl⟩, x, rfl, hk1⟩; simp only [tokV])
        refine ⟨fun _ h => (by cases h), ?_⟩
        gi_wp2_with fail
        refine bodyPost_ret (results_none rfl _ _ _) rfl ?_
        exact ⟨⟨_, rfl⟩, .inl ⟨_, HF.out.symm, HJ2.out _ (hk1.alloc _)⟩⟩
      | some t =>
        have HC := Lib.hid (HYES.out k wr t (by rw [HN.out]; omega) hrl.1 hbr hno)
        have hno2 : blankV s k < n ∧ wordO s (blankV s k) = some t := by
          unfold nextO at hno
          split at hno
          · rename_i h; exact ⟨by rw [← HN.out]; exact h, hno⟩
          · cases hno
        have hst := hrl.step HN.out hno2.1 hno2.2
        have hbd := blankV_bd s hrl.1
        have hlen : L.length < 4097 := by have := hrl.2.2.1; omega
        have hpr : L ++ [t] <+: walkV s := by rw [HW.out]; exact hst.1.more
        obtain ⟨K, T, ⟨v1, v2, v3⟩, pl⟩ := t
        obtain ⟨q, hq⟩ : ∃ q, blankV s k + T.size = q := ⟨_, rfl⟩
        have hkq : k < q := by have := hst.2.2; simp only at this; omega
        have hqn : q ≤ n := by have := hst.2.1; simp only at this; omega
        have hst1 := hst.1
        simp only at hst1 HC
        rw [hq] at HC hst1
        have HS1 := Lib.hid hst1
        have HPR := Lib.hid hpr
        have HY : Hid (∀ w1, Kept [] wr w1 → YieldAt Fence.wide (m - 1) Tryd.prog l (encT ⟨K, T, (v1, v2, v3), pl⟩) w1 fun e W' => (e = .returned (.bool true) ∧ J (L ++ [⟨K, T, (v1, v2, v3), pl⟩]) W' ∧ KpT w0.heap.size tb s w1 W') ∨ (e = .returned (.bool false) ∧ Jx (L ++ [⟨K, T, (v1, v2, v3), pl⟩]) W')) := fun w1 hk => hY L ⟨K, T, (v1, v2, v3), pl⟩ w1 (hJ L wr w1 none hJs hk.grownBy (fun r e => by cases e)) hlen
        clear hno hrl hno2 hst hst1 hbd hpr hlen hq
        gi_wp2_with (refine ⟨trivial, ?_⟩; gi_at_call 26; refine (callsIn_wide.2 HC.out).mono ?_; rintro e w1 ⟨rfl, hk1⟩; simp only [tokV]; obtain ⟨fn, tmps, assign, body, hy, hR⟩ := HY.out _ (hk1.alloc (.cells #[.int .i64 K, .string T, .int .i64 v1, .int .i64 v2, .string v3, .int .i64 pl] 40)); dsimp only [encT, tokV] at hy; have bT := Blk.new w1 #[.int .i64 K, .string T, .int .i64 v1, .int .i64 v2, .string v3, .int .i64 pl] 40; obtain ⟨⟨t0, t1, t2, t3, t4, t5⟩, ft0, ft1, ft2, ft3, ft4, ft5⟩ := bT.six)
        have hk2 := hk1.alloc (.cells #[.int .i64 K, .string T, .int .i64 v1, .int .i64 v2, .string v3, .int .i64 pl] 40)
        refine hR.mono ?_
        rintro e W3 (⟨rfl, hJ3, hk3⟩ | ⟨rfl, hJx3⟩)
        · gi_wp2_with fail
          go_roundw
          case rel => exact ⟨q, L ++ [⟨K, T, (v1, v2, v3), pl⟩], rfl, HS1.out, hJ3, (hbr.trans (hk2.below.mono hbr.size)).trans hk3.1, hk3.2 (hk2.cell (by simp) htr), by have := hk3.1.size; have := hk2.size; omega⟩
          case measure => simp [intOf]; omega
        · gi_wp2_with fail
          refine bodyPost_ret (results_none rfl _ _ _) rfl ?_
          exact ⟨⟨_, rfl⟩, .inr ⟨_, HPR.out, hJx3⟩⟩

theorem lWalk_any (s : ByteArray) (w : World) : Calls Tryd.prog 14 #[.string s] w fun e w' => e = .returned (.func (.func 25) #[] #[.pointer (some ⟨w.heap.size, 0, none⟩)]) ∧ w' = w.alloc (.cells #[.string s] 9) := by
  go_enter Tryd.func14, Tryd.ntmps14
  go_wp2_with fail
  go_ret
  exact ⟨rfl, rfl⟩

end Go.Proofs.YtmkpbffjgpoplaaDoor
