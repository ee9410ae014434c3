/- Contracts of the marks' own methods, each walked once. -/
import Derived.Test.YtadmhofipapmcaaBase
import Derived.Lib.MinMax
set_option linter.unusedVariables false
set_option linter.unusedSimpArgs false
namespace Go.Proofs.Ytadmhofipapmcaa
open Go.RowKit

/-- The cells of marks. -/
def wcells (n : Int) (l : List Int) : Array Value := (Value.int .i64 n :: l.map (Value.int .i64)).toArray
/-- Block b holds the marks l (twelve of them), n of which count. -/
def WaterAt (w : World) (b : Nat) (n : Nat) (l : List Int) : Prop := n ≤ 12 ∧ l.length = 12 ∧ Blk w b (wcells n l) 50
theorem WaterAt.kept {S : List Nat} {w w' : World} {b n : Nat} {l : List Int} (h : WaterAt w b n l) (k : Kept S w w') (hs : b ∉ S) : WaterAt w' b n l := ⟨h.1, h.2.1, h.2.2.kept k hs⟩
theorem WaterAt.head {w : World} {b n : Nat} {l : List Int} (h : WaterAt w b n l) : w.cell? ⟨b, 0, none⟩ = some (.int .i64 n) := by
  rw [h.2.2.cell]; simp [wcells]
theorem WaterAt.at {w : World} {b n : Nat} {l : List Int} (h : WaterAt w b n l) (i : Nat) (hi : i < 12) : w.cell? ⟨b, 1 + i, none⟩ = some (.int .i64 (l.getD i 0)) := by
  rw [h.2.2.cell]
  have : i < l.length := by rw [h.2.1]; exact hi
  simp [wcells, Nat.add_comm 1 i, List.getElem?_eq_getElem this]

/-! ### pure functions -/
def minOf : List Int → Int
  | [] => 0
  | x :: xs => xs.foldl min x

set_option maxHeartbeats 400000 in
theorem none_no (b n : Nat) (l : List Int) (w : World) (h : WaterAt w b n l) (hn : 1 ≤ n) :
    Calls Try.prog 25 #[.pointer (some ⟨b, 0, none⟩)] w fun e w' => e = .returned (.bool false) ∧ w = w' := by
  have h0 := h.head
  have hz : ((n : Int) == 0) = false := by simp; omega
  clear h
  go_enter Try.func25, Try.ntmps25
  go_wp2
  go_ret
  exact ⟨rfl, rfl⟩

set_option maxHeartbeats 400000 in
theorem none_nil (w : World) :
    Calls Try.prog 25 #[.pointer none] w fun e w' => e = .returned (.bool true) ∧ w = w' := by
  go_enter Try.func25, Try.ntmps25
  go_wp2
  go_ret
  exact ⟨rfl, rfl⟩

set_option maxHeartbeats 400000 in
theorem none_zero (b : Nat) (l : List Int) (w : World) (h : WaterAt w b 0 l) :
    Calls Try.prog 25 #[.pointer (some ⟨b, 0, none⟩)] w fun e w' => e = .returned (.bool true) ∧ w = w' := by
  have h0 := h.head
  clear h
  go_enter Try.func25, Try.ntmps25
  go_wp2
  go_ret
  exact ⟨rfl, rfl⟩

/-- May a mark be? -/
def mayB (t : Int) : Bool := decide (0 ≤ t) && decide (t ≤ 1099511627777)

set_option maxHeartbeats 400000 in
theorem may_any (t : Int) (w : World) :
    Calls Try.prog 27 #[.int .i64 t] w fun e w' => e = .returned (.bool (mayB t)) ∧ w = w' := by
  unfold mayB
  by_cases h : 0 ≤ t
  · go_enter Try.func27, Try.ntmps27
    go_wp2
    go_ret
    exact ⟨by simp [h], rfl⟩
  · go_enter Try.func27, Try.ntmps27
    go_wp2
    go_ret
    exact ⟨by simp; omega, rfl⟩

set_option maxHeartbeats 400000 in
theorem is_any (b n : Nat) (l : List Int) (i : Int) (w : World) (h : WaterAt w b n l) (hn : 1 ≤ n) :
    Calls Try.prog 26 #[.pointer (some ⟨b, 0, none⟩), .int .i64 i] w fun e w' => e = .returned (.bool (decide (0 ≤ i) && decide (i < n))) ∧ w = w' := by
  have h0 := h.head
  by_cases hi : 0 ≤ i
  · go_enter Try.func26, Try.ntmps26
    go_wp2_with (go_at_call 25; refine (none_no b n l _ h hn).mono ?_; rintro e w' ⟨rfl, rfl⟩)
    go_ret
    exact ⟨by simp [hi], rfl⟩
  · go_enter Try.func26, Try.ntmps26
    go_wp2_with (go_at_call 25; refine (none_no b n l _ h hn).mono ?_; rintro e w' ⟨rfl, rfl⟩)
    go_ret
    exact ⟨by simp; omega, rfl⟩

theorem minOf_snoc (l : List Int) (x : Int) (h : l ≠ []) : minOf (l ++ [x]) = min (minOf l) x := by
  cases l with
  | nil => exact absurd rfl h
  | cons y ys => simp [minOf, List.foldl_append]

set_option maxHeartbeats 1000000 in
theorem min_any (b off cap : Nat) (zs : List Int) (w : World) (hn : 1 ≤ zs.length) (hm : zs.length ≤ 9223372036854775806)
    (hc : ∀ i, i < zs.length → w.cell? ⟨b, off + i, none⟩ = some (.int .i64 (zs.getD i 0))) :
    Calls Try.prog 29 #[.slice (some ⟨b, off, none⟩) zs.length cap] w fun e w' => e = .returned (.int .i64 (minOf zs)) ∧ w = w' := by
  have h0 := hc 0 (by omega)
  obtain ⟨n, hN⟩ : ∃ n, n = zs.length := ⟨_, rfl⟩
  have HC := Lib.hid hc
  clear hc
  rw [← hN] at hn hm ⊢
  have HN := Lib.hid hN
  have hpos : (0 : Int) < (n : Int) := by omega
  clear hN
  rw [Nat.add_zero] at h0
  go_enter Try.func29, Try.ntmps29
  go_wp2
  go_loop [3, 4] (fun m i => ∃ k : Nat, 1 ≤ k ∧ k ≤ n ∧ i = .int .i64 k ∧ m = .int .i64 (minOf (zs.take k))) (fun _ i => n - (intOf i).toNat)
  case atStart =>
    refine ⟨1, Nat.le_refl _, hn, rfl, ?_⟩
    have := HN.out
    cases zs with
    | nil => simp at this; omega
    | cons z zs => simp [minOf]
  case round =>
    obtain ⟨k, hk1, hk, rfl, rfl⟩ := hrel
    by_cases hlt : k < n
    · have hck := HC.out k (by have := HN.out; omega)
      have hts : Hid (minOf (zs.take (k + 1)) = min (minOf (zs.take k)) (zs.getD k 0)) := by
        have hl : k < zs.length := by have := HN.out; omega
        show minOf (zs.take (k + 1)) = _
        rw [List.take_succ_eq_append_getElem hl, minOf_snoc _ _ (by cases zs <;> simp_all; omega)]
        simp [List.getElem?_eq_getElem hl]
      go_wp2
      go_round
      case rel => exact ⟨k + 1, by omega, by omega, by go_num, by rw [hts.out]; simp⟩
      case measure => simp [intOf]; omega
    · go_wp2
      go_ret
      refine ⟨?_, rfl⟩
      have := HN.out
      exact ret_int (by rw [List.take_of_length_le (by omega)])


theorem WaterAt.drewN {w : World} {b n : Nat} {l : List Int} (h : WaterAt w b n l) (m : Nat) : WaterAt (w.drewN m) b n l := h

theorem arr48 (b n : Nat) (hn : n ≤ 12) (W : World) : (Instr.sliceAt 48 (.pointer (some ⟨b, 1, none⟩)) none (some (.int .i64 n)) none).run Try.prog W = .ok (.slice (some ⟨b, 1, none⟩) n 12) W := by
  have hl : Try.prog.arrayLen 48 = 12 := by kernel_rfl
  have he : Try.prog.elem 48 = 2 := by kernel_rfl
  rw [run_sliceAt_array_h W 48 _ (by rw [hl, he]; exact Try.underlying48) .i64 n (by omega) (by rw [hl]; omega)]
  rw [hl, he]
  have hs : (sizeOf 2).run Try.prog W = .ok 1 W := by kernel_rfl
  rw [hs]
  simp [Result.andThen, slicedAt, Addr.add]

set_option maxHeartbeats 1000000 in
theorem merged_any (b n : Nat) (l : List Int) (w : World) (h : WaterAt w b n l) (hn : 1 ≤ n) :
    Calls Try.prog 14 #[.pointer (some ⟨b, 0, none⟩)] w fun e w' => e = .returned (.int .i64 (minOf (l.take n))) ∧ ∃ m, w' = w.drewN m := by
  have h0 := h.head
  have hn12 := h.1
  have hz : ((n : Int) == 0) = false := by simp; omega
  have hlen : (l.take n).length = n := by have := h.2.1; simp; omega
  have hmin : ∀ W : World, (∀ i, i < 12 → W.cell? ⟨b, 1 + i, none⟩ = some (.int .i64 (l.getD i 0))) → Calls Try.prog 29 #[.slice (some ⟨b, 1, none⟩) n 12] W fun e w' => e = .returned (.int .i64 (minOf (l.take n))) ∧ W = w' := by
    intro W hW
    have := min_any b 1 12 (l.take n) W (by omega) (by omega) (fun i hi => by
      rw [hW i (by omega)]
      have : i < n := by omega
      simp [List.getElem?_take, this])
    rwa [hlen] at this
  have hc := h.at
  have HC : Hid (∀ i, i < 12 → w.cell? ⟨b, 1 + i, none⟩ = some (.int .i64 (l.getD i 0))) := hc
  clear hc hlen
  have ha := arr48 b n hn12
  go_enter Try.func14, Try.ntmps14
  go_wp2_with (go_at_call 25; refine (none_no b n l _ h hn).mono ?_; rintro e w' ⟨rfl, rfl⟩)
  go_quiet ((go_at_call 29; exact quiet_same (hmin _ HC.out)))
  go_wp2
  go_ret
  exact ⟨rfl, _, rfl⟩


/-- What marking does to the marks, and what it answers. -/
def markOk (n : Nat) (l : List Int) (i t : Int) : Bool := decide (0 ≤ i) && decide (i < n) && mayB t && decide (l.getD i.toNat 0 ≤ t)
def markL (n : Nat) (l : List Int) (i t : Int) : List Int := if markOk n l i t = true then l.set i.toNat t else l
def markErr (n : Nat) (l : List Int) (i t : Int) : Int := if (decide (0 ≤ i) && decide (i < n) && mayB t) = true then (if l.getD i.toNat 0 ≤ t then 0 else 120) else 1
def markRose (n : Nat) (l : List Int) (i t : Int) : Bool := decide (minOf (l.take n) < minOf ((markL n l i t).take n))

theorem markL_length (n : Nat) (l : List Int) (i t : Int) : (markL n l i t).length = l.length := by unfold markL; split <;> simp

theorem WaterAt.set {w : World} {b n : Nat} {l : List Int} (h : WaterAt w b n l) (i : Nat) (_hi : i < 12) (t : Int) : WaterAt (w.setCell ⟨b, 1 + i, none⟩ (.int .i64 t)) b n (l.set i t) := by
  refine ⟨h.1, by rw [List.length_set]; exact h.2.1, ?_⟩
  have := h.2.2.set (1 + i) (.int .i64 t)
  have e : (wcells n l).setIfInBounds (1 + i) (.int .i64 t) = wcells n (l.set i t) := by
    unfold wcells
    rw [List.setIfInBounds_toArray, Nat.add_comm 1 i, List.set_cons_succ, List.map_set]
  rwa [e] at this

set_option maxHeartbeats 1000000 in
theorem mark_bad (b n : Nat) (l : List Int) (i t : Int) (w : World) (h : WaterAt w b n l) (hn : 1 ≤ n) (hb : (decide (0 ≤ i) && decide (i < n) && mayB t) = false) :
    Calls Try.prog 9 #[.pointer (some ⟨b, 0, none⟩), .int .i64 i, .int .i64 t] w fun e w' => e = .returned (.tuple #[.bool false, .int .i64 1]) ∧ w = w' := by
  have HB := Lib.hid hb
  clear hb
  cases h1 : (decide (0 ≤ i) && decide (i < n)) with
  | false =>
    have H1 := Lib.hid h1
    clear h1
    go_enter Try.func9, Try.ntmps9
    go_wp2_with (first | (go_at_call 25; refine (none_no b n l _ h hn).mono ?_; rintro e w' ⟨rfl, rfl⟩) | (go_at_call 26; refine (is_any b n l i _ h hn).mono ?_; rintro e w' ⟨rfl, rfl⟩; rw [H1.out]))
    go_ret2
    exact ⟨rfl, rfl⟩
  | true =>
    have hm : mayB t = false := by have := HB.out; rw [h1] at this; simpa using this
    have H1 := Lib.hid h1
    clear h1
    have HM := Lib.hid hm
    clear hm
    go_enter Try.func9, Try.ntmps9
    go_wp2_with (first | (go_at_call 25; refine (none_no b n l _ h hn).mono ?_; rintro e w' ⟨rfl, rfl⟩) | (go_at_call 26; refine (is_any b n l i _ h hn).mono ?_; rintro e w' ⟨rfl, rfl⟩; rw [H1.out]) | (go_at_call 27; refine (may_any t _).mono ?_; rintro e w' ⟨rfl, rfl⟩; rw [HM.out]))
    go_ret2
    exact ⟨rfl, rfl⟩

end Go.Proofs.Ytadmhofipapmcaa
