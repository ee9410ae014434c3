/- The tree's own functions, each walked once: is, Len, climb, New. -/
import Derived.Test.YtiiiflckphgdiaaReader
import Derived.Test.YtiiiflckphgdiaaRd
import Derived.Test.YtiiiflckphgdiaaT0
set_option linter.unusedVariables false
set_option linter.unusedSimpArgs false
namespace Go.Proofs.Ytiiiflckphgdiaa
open Go.RowKit Tr

/-- The cells of a tree of n brokers. -/
def tcells (n : Int) (l : List Int) : Array Value := (Value.int .i64 n :: l.map (Value.int .i64)).toArray
def RawAt (w : World) (b : Nat) (n : Nat) (l : List Int) : Prop := n ≤ 16 ∧ l.length = 16 ∧ Blk w b (tcells n l) 83
theorem RawAt.kept {S : List Nat} {w w' : World} {b n : Nat} {l : List Int} (h : RawAt w b n l) (k : Kept S w w') (hs : b ∉ S) : RawAt w' b n l := ⟨h.1, h.2.1, h.2.2.kept k hs⟩
theorem RawAt.keep {w w' : World} {b n : Nat} {l : List Int} (h : RawAt w b n l) (k : Kept [] w w') : RawAt w' b n l := h.kept k (by simp)
theorem RawAt.drewN {w : World} {b n : Nat} {l : List Int} (h : RawAt w b n l) (m : Nat) : RawAt (w.drewN m) b n l := h
theorem RawAt.head {w : World} {b n : Nat} {l : List Int} (h : RawAt w b n l) : w.cell? ⟨b, 0, none⟩ = some (.int .i64 n) := by
  rw [h.2.2.cell]; simp [tcells]
theorem RawAt.at {w : World} {b n : Nat} {l : List Int} (h : RawAt w b n l) (i : Nat) (hi : i < 16) : w.cell? ⟨b, 1 + i, none⟩ = some (.int .i64 (l[i]?.getD 0)) := by
  rw [h.2.2.cell]
  have : i < l.length := by rw [h.2.1]; exact hi
  simp [tcells, Nat.add_comm 1 i, List.getElem?_eq_getElem this]
theorem RawAt.free {w : World} {b n : Nat} {l : List Int} (h : RawAt w b n l) (i : Nat) : w.frozen? ⟨b, i, none⟩ = false := h.2.2.free i
theorem RawAt.set {w : World} {b n : Nat} {l : List Int} (h : RawAt w b n l) (i : Nat) (t : Int) : RawAt (w.setCell ⟨b, 1 + i, none⟩ (.int .i64 t)) b n (l.set i t) := by
  refine ⟨h.1, by rw [List.length_set]; exact h.2.1, ?_⟩
  have := h.2.2.set (1 + i) (.int .i64 t)
  have e : (tcells n l).setIfInBounds (1 + i) (.int .i64 t) = tcells n (l.set i t) := by
    unfold tcells
    rw [List.setIfInBounds_toArray, Nat.add_comm 1 i, List.set_cons_succ, List.map_set]
  rwa [e] at this
def fill16 (P : List Int) (k : Nat) : List Int := P.take k ++ List.replicate (16 - k) 0
theorem fill16_length (P : List Int) (k : Nat) (hk : k ≤ P.length) (hk2 : k ≤ 16) : (fill16 P k).length = 16 := by unfold fill16; simp; omega
theorem fill16_set (P : List Int) (k : Nat) (hk : k < P.length) (hk2 : k < 16) : (fill16 P k).set k P[k] = fill16 P (k + 1) := by
  unfold fill16
  obtain ⟨m, hm⟩ : ∃ m, 16 - k = m + 1 := ⟨15 - k, by omega⟩
  have hm2 : 16 - (k + 1) = m := by omega
  rw [hm, hm2, List.replicate_succ, List.take_succ_eq_append_getElem hk, List.set_append_right _ _ (by simp; omega)]
  have : k - (P.take k).length = 0 := by simp; omega
  rw [this, List.set_cons_zero, List.append_assoc]
  rfl
/-- Block b holds the tree of the parents P. -/
def TreeAt (w : World) (b : Nat) (P : List Int) : Prop := RawAt w b P.length (fill16 P P.length)
theorem fill16_get (P : List Int) (i : Nat) (hi : i < P.length) : (fill16 P P.length)[i]?.getD 0 = P.getD i (-1) := by
  unfold fill16
  rw [List.take_length, List.getElem?_append_left hi, List.getD_eq_getElem?_getD, List.getElem?_eq_getElem hi]
  rfl
theorem TreeAt.par {w : World} {b : Nat} {P : List Int} (h : TreeAt w b P) (i : Nat) (hi : i < P.length) : w.cell? ⟨b, 1 + i, none⟩ = some (.int .i64 (Tr.par P i)) := by
  have h16 := h.1
  rw [RawAt.at h i (by omega), fill16_get P i hi]
  rfl

theorem is_some (b n : Nat) (l : List Int) (i : Int) (w : World) (h : RawAt w b n l) :
    Calls Try.prog 107 #[.pointer (some ⟨b, 0, none⟩), .int .i64 i] w fun e w' => e = .returned (.bool (decide (0 ≤ i) && decide (i < n))) ∧ w = w' := by
  have h0 := h.head
  clear h
  by_cases hi : 0 ≤ i
  · go_enter Try.func107, Try.ntmps107
    go_wp2
    go_ret
    exact ⟨by simp [hi], rfl⟩
  · go_enter Try.func107, Try.ntmps107
    go_wp2
    go_ret
    exact ⟨by simp; omega, rfl⟩
theorem is_nil (i : Int) (w : World) :
    Calls Try.prog 107 #[.pointer none, .int .i64 i] w fun e w' => e = .returned (.bool false) ∧ w = w' := by
  go_enter Try.func107, Try.ntmps107
  go_wp2
  go_ret
  exact ⟨rfl, rfl⟩
theorem len_some (b n : Nat) (l : List Int) (w : World) (h : RawAt w b n l) :
    Calls Try.prog 71 #[.pointer (some ⟨b, 0, none⟩)] w fun e w' => e = .returned (.int .i64 n) ∧ w = w' := by
  have h0 := h.head
  clear h
  go_enter Try.func71, Try.ntmps71
  go_wp2
  go_ret
  exact ⟨rfl, rfl⟩
theorem len_nil (w : World) :
    Calls Try.prog 71 #[.pointer none] w fun e w' => e = .returned (.int .i64 0) ∧ w = w' := by
  go_enter Try.func71, Try.ntmps71
  go_wp2
  go_ret
  exact ⟨rfl, rfl⟩

/-- What climb answers. -/
def climbV (P : List Int) (i : Int) : Int := match climbs P P.length i with | some k => k | none => -1

set_option maxHeartbeats 1000000 in
theorem climb_any (b : Nat) (P : List Int) (i : Int) (w : World) (h : TreeAt w b P) (hr : ∀ i, inB P.length i → par P i = -1 ∨ inB P.length (par P i)) (hi : inB P.length i) :
    Calls Try.prog 46 #[.pointer (some ⟨b, 0, none⟩), .int .i64 i] w fun e w' => e = .returned (.int .i64 (climbV P i)) ∧ w = w' := by
  have h0 := RawAt.head h
  have hn16 := h.1
  have HP : Hid (∀ i : Nat, i < P.length → w.cell? ⟨b, 1 + i, none⟩ = some (.int .i64 (par P i))) := h.par
  have HR : Hid (∀ i, inB P.length i → par P i = -1 ∨ inB P.length (par P i)) := hr
  have HI : Hid (inB P.length i) := hi
  obtain ⟨n, hn⟩ : ∃ n, P.length = n := ⟨_, rfl⟩
  rw [hn] at h0 hn16
  have HN := Lib.hid hn
  clear hn hr hi h
  go_enter Try.func46, Try.ntmps46
  go_wp2
  go_loop [1, 10] (fun p c => ∃ (k j : Nat), k ≤ n ∧ c = .int .i64 k ∧ p = .int .i64 j ∧ j < n ∧ climbs P n i = (climbs P (n - k) j).map (· + k)) (fun _ c => n - (intOf c).toNat)
  case atStart =>
    have hi := HI.out
    unfold inB at hi
    rw [HN.out] at hi
    refine ⟨0, i.toNat, Nat.zero_le _, rfl, ?_, by omega, ?_⟩
    · rw [Int.toNat_of_nonneg hi.1]
    · rw [Int.toNat_of_nonneg hi.1]; simp
  case round =>
    obtain ⟨k, j, hk, rfl, rfl, hj, hc⟩ := hrel
    have HC := Lib.hid hc
    clear hc
    by_cases hlt : k < n
    · have hp := HP.out j (by rw [HN.out]; exact hj)
      obtain ⟨q, hq⟩ : ∃ q, par P j = q := ⟨_, rfl⟩
      rw [hq] at hp
      have HQ := Lib.hid hq
      clear hq
      obtain ⟨m, hm⟩ : ∃ m, n - k = m + 1 := ⟨n - k - 1, by omega⟩
      have HM := Lib.hid hm
      clear hm
      by_cases hneg : q < 0
      · go_wp2
        go_ret
        refine ⟨ret_int ?_, rfl⟩
        unfold climbV
        rw [HN.out, HC.out, HM.out, climbs, if_pos (by rw [HQ.out]; exact hneg)]
        simp
      · have hq2 : 0 ≤ q ∧ q < n := by
          have := HR.out j (by unfold inB; rw [HN.out]; omega)
          rw [HQ.out, HN.out] at this
          unfold inB at this
          omega
        go_wp2
        go_round
        case rel =>
          refine ⟨k + 1, q.toNat, by omega, by go_num, by rw [Int.toNat_of_nonneg hq2.1], by omega, ?_⟩
          have e1 : n - (k + 1) = m := by have := HM.out; omega
          rw [HC.out, HM.out, e1, climbs, if_neg (by rw [HQ.out]; exact hneg), HQ.out, Int.toNat_of_nonneg hq2.1, Option.map_map]
          congr 1
          funext x
          simp
          omega
        case measure => simp [intOf]; omega
    · go_wp2
      go_ret
      refine ⟨ret_int ?_, rfl⟩
      unfold climbV
      have e1 : n - k = 0 := by omega
      rw [HN.out, HC.out, e1]
      rfl

end Go.Proofs.Ytiiiflckphgdiaa
