/- Near, Kids, Below. -/
import Derived.Test.YtikpnlmimhnmmaaT13
import Derived.Deep.RegionWith
import Derived.Deep.DeepMust
set_option linter.unusedVariables false
set_option linter.unusedSimpArgs false
namespace Go.Proofs.Ytikpnlmimhnmmaa
open Go.RowKit Go.Shelf Tr

def IdxPost (w : World) (xs : List Int) (x : Int) (e : Ending) (w' : World) : Prop := ∃ r : Int, e = .returned (.int .i64 r) ∧ decide (0 ≤ r) = xs.contains x ∧ ∃ m, w' = w.drewN m
set_option maxHeartbeats 1000000 in
theorem index_any (v : Value) (xs : List Int) (x : Int) (w : World) (hx : RdI w .i64 v xs) : Calls Try.prog 47 #[v, .int .i64 x] w (IdxPost w xs x) := by
  obtain ⟨A, c, rfl, hmx, hx⟩ := hx
  unfold maxLen at hmx
  have HX := Lib.hid hx
  obtain ⟨n, hn⟩ : ∃ n, xs.length = n := ⟨_, rfl⟩
  rw [hn] at hmx ⊢
  have HN := Lib.hid hn
  clear hn hx
  go_enter Try.func47, Try.ntmps47
  go_wp2_with fail
  go_loopw [8] (fun i wr => ∃ (k : Nat), k ≤ n ∧ i = .int .i64 k ∧ x ∉ xs.take k ∧ ∃ m, wr = w.drewN m) (fun i _ => n - (intOf i).toNat)
  case atStart => exact ⟨0, by omega, rfl, by simp, 0, rfl⟩
  case round =>
    obtain ⟨k, hk, rfl, hni, m, rfl⟩ := hrel
    have HNI := Lib.hid hni
    clear hni
    by_cases hlt : k < n
    · obtain ⟨y, hy⟩ : ∃ y, xs[k]? = some y := ⟨_, List.getElem?_eq_getElem (by rw [HN.out]; exact hlt)⟩
      obtain ⟨b, off, rfl, hc⟩ := HX.out (by rintro rfl; simp at hy)
      have hck := hc k y hy
      have HC := Lib.hid hc
      have HY := Lib.hid hy
      clear hc hy
      cases hxy : (x == y) with
      | true =>
        have HXY := Lib.hid hxy
        go_wp2_with fail
        go_ret
        refine ⟨k, rfl, ?_, m, rfl⟩
        have hm : x ∈ xs := by
          have : x = y := by simpa using HXY.out
          rw [this]
          exact List.mem_of_getElem? HY.out
        simp [hm]
      | false =>
        have HXY := Lib.hid hxy
        go_wp2_with fail
        go_roundw
        case rel =>
          refine ⟨k + 1, by omega, by go_num, ?_, m, rfl⟩
          obtain ⟨h1, h2⟩ := List.getElem?_eq_some_iff.1 HY.out
          rw [List.take_succ_eq_append_getElem h1, h2, List.mem_append]
          rintro (h | h)
          · exact HNI.out h
          · have e : x = y := by simpa using h
            have := HXY.out
            rw [e] at this
            simp at this
        case measure => simp [intOf]; omega
    · go_wp2_with fail
      go_ret
      refine ⟨-1, rfl, ?_, m, rfl⟩
      have := HNI.out
      rw [List.take_of_length_le (by rw [HN.out]; omega)] at this
      simp [this]

set_option maxHeartbeats 1000000 in
theorem contains_any (v : Value) (xs : List Int) (x : Int) (w : World) (hx : RdI w .i64 v xs) : Calls Try.prog 17 #[v, .int .i64 x] w fun e w' => e = .returned (.bool (xs.contains x)) ∧ ∃ m, w' = w.drewN m := by
  have hx' := hx
  obtain ⟨A, c, rfl, hmx, hxx⟩ := hx
  have HX := Lib.hid hx'
  clear hxx hx'
  obtain ⟨B, hB⟩ : ∃ B, xs.contains x = B := ⟨_, rfl⟩
  rw [hB]
  have HB := Lib.hid hB
  clear hB
  go_enter Try.func17, Try.ntmps17
  go_wp2_with fail
  refine (index_any _ xs x _ HX.out).mono ?_
  rintro e w' ⟨r, rfl, hr, m, rfl⟩
  rw [HB.out] at hr
  have HR := Lib.hid hr
  clear hr
  go_wp2_with fail
  go_ret
  refine ⟨ret_bool ?_, m, rfl⟩
  exact HR.out

def belowB (P : List Int) (i : Int) (k : Nat) : Bool := inBb P.length i && (rise P k).contains i

set_option maxRecDepth 100000 in
set_option maxHeartbeats 8000000 in
theorem below1_any (b bt bi : Nat) (P : List Int) (i : Int) (k : Nat) (w : World) (h : TreeAt w b P) (hT : Tree P) (hk : k < P.length) (ht : w.cell? ⟨bt, 0, none⟩ = some (.pointer (some ⟨b, 0, none⟩))) (hi : w.cell? ⟨bi, 0, none⟩ = some (.int .i64 i)) :
    Calls Try.prog 55 #[.int .i64 k, .pointer (some ⟨bt, 0, none⟩), .pointer (some ⟨bi, 0, none⟩)] w fun e w' => e = .returned (.bool (belowB P i k)) ∧ Kept [] w w' := by
  have hik : inB P.length k := by unfold inB; omega
  have RX := fun w h => rise_any b P k w h hT
  have erx : riseG P k = rise P k := by unfold riseG; rw [if_pos hik]
  rw [erx] at RX
  obtain ⟨R, hR⟩ : ∃ R, belowB P i k = R := ⟨_, rfl⟩
  rw [hR]
  unfold belowB at hR
  have HR := Lib.hid hR
  have HRX := Lib.hid RX
  have HT := Lib.hid hT
  clear hR erx RX hik hT hk
  have hK := Kept.refl [] w
  cases hin : inBb P.length i with
  | false =>
    have HIN := Lib.hid hin
    go_enter Try.func55, Try.ntmps55
    go_wp2_with fail
    have HIS' := fun m => is_q h hin m
    have HIS := Lib.hid HIS'
    clear HIS' hin
    go_quiet ((go_at_call 46; exact HIS.out _))
    go_wp2_with fail
    go_ret
    refine ⟨ret_bool ?_, (Kept.refl [] w).drewN _⟩
    rw [← HR.out, HIN.out]; rfl
  | true =>
    have HIN := Lib.hid hin
    have hR2 : (rise P k).contains i = R := by rw [← HR.out, HIN.out]; rfl
    have HR2 := Lib.hid hR2
    have HIS' : ∀ w', TreeAt w' b P → Calls Try.prog 46 #[.pointer (some ⟨b, 0, none⟩), .int .i64 i] w' fun e w'' => e = .returned (.bool true) ∧ w' = w'' := fun w' h' => by
      have := is_some b P.length _ i w' h'
      rw [show (decide (0 ≤ i) && decide (i < (P.length : Int))) = true from HIN.out] at this
      exact this
    have HIS := Lib.hid HIS'
    clear HIS' hin hR2
    go_enter Try.func55, Try.ntmps55
    go_wp2_with fail
    go_region_with (first
      | (go_at_call 46; refine (HIS.out _ (by first | exact h | exact RawAt.keep h hk2 | exact h.drewN _)).mono ?_; rintro e w' ⟨rfl, rfl⟩)
      | (go_at_call 45; refine (HRX.out _ (by first | exact h | exact h.drewN _)).mono ?_; rintro e w1 ⟨v1, rfl, hown1, hk1⟩; have hk2 : Kept [] w w1 := Kept.trans (by first | exact hK | exact hK.drewN _) hk1; have hi2 : w1.cell? ⟨bi, 0, none⟩ = some (.int .i64 i) := hk2.cell (by simp) hi)
      | (go_at_call 17; refine (contains_any _ (rise P k) i _ (RdI.of_own hown1).1).mono ?_; rintro e w2 ⟨rfl, m2, rfl⟩; rw [HR2.out]))
    all_goals
      go_wp2
      go_ret
      exact ⟨rfl, by first | exact hk2 | exact hk2.drewN _ | exact (hk2.drewN _).drewN _⟩

end Go.Proofs.Ytikpnlmimhnmmaa
