/- Contracts of Mark, Marks, At, Late, Horizon, Done, New, From, Clone, Same. -/
import Derived.Test.YtadmhofipapmcaaA
set_option linter.unusedVariables false
set_option linter.unusedSimpArgs false
namespace Go.Proofs.Ytadmhofipapmcaa
open Go.RowKit

theorem WaterAt.free {w : World} {b n : Nat} {l : List Int} (h : WaterAt w b n l) (i : Nat) : w.frozen? ⟨b, i, none⟩ = false := h.2.2.free i
theorem WaterAt.idx {w : World} {b n : Nat} {l : List Int} (h : WaterAt w b n l) (i : Nat) (hi : i < n) : w.cell? ⟨b, 1 + i, none⟩ = some (.int .i64 (l.getD i 0)) := h.at i (by have := h.1; omega)

set_option maxHeartbeats 1000000 in
theorem mark_fall (b n : Nat) (l : List Int) (i : Nat) (t : Int) (w : World) (h : WaterAt w b n l) (hi : i < n) (hm : mayB t = true) (ht : t < l.getD i 0) :
    Calls Try.prog 9 #[.pointer (some ⟨b, 0, none⟩), .int .i64 i, .int .i64 t] w fun e w' => e = .returned (.tuple #[.bool false, .int .i64 120]) ∧ w = w' := by
  have h1 : (decide ((0:Int) ≤ (i:Int)) && decide ((i:Int) < (n:Int))) = true := by simp; omega
  have hc := h.idx i hi
  have hn12 := h.1
  have H1 := Lib.hid h1
  have HM := Lib.hid hm
  clear h1 hm
  have ht' : t < l[i]?.getD 0 := by simpa using ht
  rw [List.getD_eq_getElem?_getD] at hc
  go_enter Try.func9, Try.ntmps9
  go_wp2_with (first | (go_at_call 25; refine (none_no b n l _ h (by omega)).mono ?_; rintro e w' ⟨rfl, rfl⟩) | (go_at_call 26; refine (is_any b n l i _ h (by omega)).mono ?_; rintro e w' ⟨rfl, rfl⟩; rw [H1.out]) | (go_at_call 27; refine (may_any t _).mono ?_; rintro e w' ⟨rfl, rfl⟩; rw [HM.out]))
  go_ret2
  exact ⟨rfl, rfl⟩

set_option maxHeartbeats 1000000 in
theorem mark_ok (b n : Nat) (l : List Int) (i : Nat) (t : Int) (w : World) (h : WaterAt w b n l) (hi : i < n) (hm : mayB t = true) (ht : l.getD i 0 ≤ t) :
    Calls Try.prog 9 #[.pointer (some ⟨b, 0, none⟩), .int .i64 i, .int .i64 t] w fun e w' =>
      e = .returned (.tuple #[.bool (decide (minOf (l.take n) < minOf ((l.set i t).take n))), .int .i64 0]) ∧ ∃ m k, w' = ((w.drewN m).setCell ⟨b, 1 + i, none⟩ (.int .i64 t)).drewN k := by
  have h1 : (decide ((0:Int) ≤ (i:Int)) && decide ((i:Int) < (n:Int))) = true := by simp; omega
  have hc := h.idx i hi
  have hn12 := h.1
  have H1 := Lib.hid h1
  have HM := Lib.hid hm
  clear h1 hm
  have ht' : ¬ t < l[i]?.getD 0 := by simpa using ht
  have hf := h.free (1 + i)
  rw [List.getD_eq_getElem?_getD] at hc
  go_enter Try.func9, Try.ntmps9
  go_wp2_with (first | (go_at_call 25; refine (none_no b n l _ h (by omega)).mono ?_; rintro e w' ⟨rfl, rfl⟩) | (go_at_call 26; refine (is_any b n l i _ h (by omega)).mono ?_; rintro e w' ⟨rfl, rfl⟩; rw [H1.out]) | (go_at_call 27; refine (may_any t _).mono ?_; rintro e w' ⟨rfl, rfl⟩; rw [HM.out]))
  refine (merged_any b n l _ h (by omega)).mono ?_
  rintro e w' ⟨rfl, m, rfl⟩
  go_wp2_with fail
  refine (merged_any b n (l.set i t) _ (WaterAt.set (h.drewN m) i (by omega) t) (by omega)).mono ?_
  rintro e w' ⟨rfl, k, rfl⟩
  go_wp2_with fail
  go_ret2
  exact ⟨rfl, m, k, rfl⟩

/-- All marks may be. -/
def InRange (l : List Int) : Prop := ∀ x ∈ l, 0 ≤ x ∧ x ≤ 1099511627777
theorem InRange.set {l : List Int} (h : InRange l) (i : Nat) {t : Int} (ht : mayB t = true) : InRange (l.set i t) := by
  intro x hx
  rcases List.mem_or_eq_of_mem_set hx with h1 | h1
  · exact h x h1
  · subst h1; simp [mayB] at ht; exact ht
theorem InRange.markL {l : List Int} (h : InRange l) (n : Nat) (i t : Int) : InRange (markL n l i t) := by
  unfold Proofs.Ytadmhofipapmcaa.markL
  split
  · rename_i hk
    simp only [markOk, Bool.and_eq_true] at hk
    exact h.set _ hk.1.2
  · exact h
theorem foldl_min_mem : ∀ (l : List Int) (a : Int), l.foldl min a = a ∨ l.foldl min a ∈ l := by
  intro l
  induction l with
  | nil => intro a; exact .inl rfl
  | cons y l ih =>
    intro a
    rw [List.foldl_cons]
    rcases ih (min a y) with h | h
    · rw [h]
      rcases Int.le_total a y with hh | hh
      · rw [Int.min_eq_left hh]; exact .inl rfl
      · rw [Int.min_eq_right hh]; simp
    · exact .inr (List.mem_cons_of_mem _ h)
theorem foldl_min_le : ∀ (l : List Int) (a : Int), l.foldl min a ≤ a ∧ ∀ x ∈ l, l.foldl min a ≤ x := by
  intro l
  induction l with
  | nil => intro a; simp
  | cons y l ih =>
    intro a
    rw [List.foldl_cons]
    obtain ⟨h1, h2⟩ := ih (min a y)
    refine ⟨by omega, fun x hx => ?_⟩
    rcases List.mem_cons.1 hx with rfl | hx
    · omega
    · exact h2 x hx
theorem minOf_mem (l : List Int) (h : l ≠ []) : minOf l ∈ l := by
  cases l with
  | nil => exact absurd rfl h
  | cons x l =>
    show l.foldl min x ∈ x :: l
    rcases foldl_min_mem l x with h | h
    · rw [h]; simp
    · exact List.mem_cons_of_mem _ h
theorem minOf_le (l : List Int) (x : Int) (hx : x ∈ l) : minOf l ≤ x := by
  cases l with
  | nil => simp at hx
  | cons y l =>
    show l.foldl min y ≤ x
    obtain ⟨h1, h2⟩ := foldl_min_le l y
    rcases List.mem_cons.1 hx with rfl | hx
    · exact h1
    · exact h2 x hx
theorem InRange.min {l : List Int} (h : InRange l) (n : Nat) (hn : 1 ≤ n) (hl : l.length = 12) : 0 ≤ minOf (l.take n) ∧ minOf (l.take n) ≤ 1099511627777 :=
  h _ (List.mem_of_mem_take (minOf_mem _ (by intro e; have := congrArg List.length e; rw [List.length_take, hl] at this; simp at this; omega)))

/-- What Mark does, at whatever arguments. -/
theorem mark_any (b n : Nat) (l : List Int) (i t : Int) (w : World) (h : WaterAt w b n l) (hn : 1 ≤ n) :
    Calls Try.prog 9 #[.pointer (some ⟨b, 0, none⟩), .int .i64 i, .int .i64 t] w fun e w' =>
      e = .returned (.tuple #[.bool (markRose n l i t), .int .i64 (markErr n l i t)]) ∧ WaterAt w' b n (markL n l i t) ∧ Kept [b] w w' := by
  cases hb : (decide (0 ≤ i) && decide (i < n) && mayB t) with
  | false =>
    refine (mark_bad b n l i t w h hn hb).mono ?_
    rintro e w' ⟨rfl, rfl⟩
    have e1 : markL n l i t = l := by unfold markL markOk; rw [hb]; simp
    have e2 : markErr n l i t = 1 := by unfold markErr; rw [hb]; simp
    have e3 : markRose n l i t = false := by unfold markRose; rw [e1]; simp
    rw [e1, e2, e3]
    exact ⟨rfl, h, Kept.refl _ _⟩
  | true =>
    have hb' := hb
    simp only [Bool.and_eq_true, decide_eq_true_eq] at hb
    obtain ⟨⟨h0, h1⟩, hm⟩ := hb
    obtain ⟨j, rfl⟩ := Int.eq_ofNat_of_zero_le h0
    have hj : j < n := by omega
    by_cases ht : l.getD j 0 ≤ t
    · refine (mark_ok b n l j t w h hj hm ht).mono ?_
      rintro e w' ⟨rfl, m, k, rfl⟩
      have e1 : markL n l j t = l.set j t := by unfold markL markOk; rw [hb']; simp at ht; simp [ht]
      have e2 : markErr n l j t = 0 := by unfold markErr; rw [hb']; simp at ht; simp [ht]
      have e3 : markRose n l j t = decide (minOf (l.take n) < minOf ((l.set j t).take n)) := by unfold markRose; rw [e1]
      rw [e1, e2, e3]
      exact ⟨rfl, (WaterAt.set (h.drewN m) j (by have := h.1; omega) t).drewN k, ((((Kept.refl [b] w).drewN m).setCell (.inl (by simp)) _).drewN k)⟩
    · refine (mark_fall b n l j t w h hj hm (by omega)).mono ?_
      rintro e w' ⟨rfl, rfl⟩
      have e1 : markL n l j t = l := by unfold markL markOk; rw [hb']; simp at ht; simp; omega
      have e2 : markErr n l j t = 120 := by unfold markErr; rw [hb']; simp at ht; simp; omega
      have e3 : markRose n l j t = false := by unfold markRose; rw [e1]; simp
      rw [e1, e2, e3]
      exact ⟨rfl, h, Kept.refl _ _⟩

theorem new_ok (k : Int) (w : World) (h1 : 1 ≤ k) (h2 : k ≤ 12) :
    Calls Try.prog 7 #[.int .i64 k] w fun e w' => e = .returned (.tuple #[.pointer (some ⟨w.heap.size, 0, none⟩), .int .i64 0]) ∧ w' = w.alloc (.cells (wcells k (List.replicate 12 0)) 50) := by
  have h3 : ¬ (k < 1) := by omega
  have h4 : ¬ (12 < k) := by omega
  go_enter Try.func7, Try.ntmps7
  go_wp2
  go_ret2
  exact ⟨rfl, rfl⟩
theorem WaterAt.new (w : World) (n : Nat) (l : List Int) (hn : n ≤ 12) (hl : l.length = 12) : WaterAt (w.alloc (.cells (wcells n l) 50)) w.heap.size n l := ⟨hn, hl, Blk.new w _ _⟩
theorem WaterAt.alloc {w : World} {b n : Nat} {l : List Int} (h : WaterAt w b n l) (o : Obj) : WaterAt (w.alloc o) b n l := h.kept ((Kept.refl [] w).alloc o) (by simp)

theorem new_no (k : Int) (w : World) (h1 : k < 1 ∨ 12 < k) :
    Calls Try.prog 7 #[.int .i64 k] w fun e w' => e = .returned (.tuple #[.pointer none, .int .i64 1]) ∧ w = w' := by
  rcases h1 with h1 | h1
  · go_enter Try.func7, Try.ntmps7
    go_wp2
    go_ret2
    exact ⟨rfl, rfl⟩
  · have h2 : ¬ k < 1 := by omega
    go_enter Try.func7, Try.ntmps7
    go_wp2
    go_ret2
    exact ⟨rfl, rfl⟩

def atF (n : Nat) (l : List Int) (i : Int) : Int := if (decide (0 ≤ i) && decide (i < n)) = true then l.getD i.toNat 0 else 0

theorem at_any (b n : Nat) (l : List Int) (i : Int) (w : World) (h : WaterAt w b n l) (hn : 1 ≤ n) :
    Calls Try.prog 22 #[.pointer (some ⟨b, 0, none⟩), .int .i64 i] w fun e w' => e = .returned (.int .i64 (atF n l i)) ∧ w = w' := by
  cases hb : (decide (0 ≤ i) && decide (i < n)) with
  | false =>
    have e : atF n l i = 0 := by unfold atF; rw [hb]; simp
    rw [e]
    have HB := Lib.hid hb
    clear hb e
    go_enter Try.func22, Try.ntmps22
    go_wp2_with (go_at_call 26; refine (is_any b n l i _ h hn).mono ?_; rintro e w' ⟨rfl, rfl⟩; rw [HB.out])
    go_ret
    exact ⟨rfl, rfl⟩
  | true =>
    have e : atF n l i = l.getD i.toNat 0 := by unfold atF; rw [hb]; simp
    rw [e]
    have hb' := hb
    simp only [Bool.and_eq_true, decide_eq_true_eq] at hb'
    obtain ⟨h0, h1⟩ := hb'
    obtain ⟨j, rfl⟩ := Int.eq_ofNat_of_zero_le h0
    have hc := h.idx j (by omega)
    have hn12 := h.1
    have HB := Lib.hid hb
    clear hb e
    rw [List.getD_eq_getElem?_getD] at hc ⊢
    go_enter Try.func22, Try.ntmps22
    go_wp2_with (go_at_call 26; refine (is_any b n l j _ h hn).mono ?_; rintro e w' ⟨rfl, rfl⟩; rw [HB.out])
    go_ret
    exact ⟨rfl, rfl⟩

theorem late_any (b n : Nat) (l : List Int) (i t : Int) (w : World) (h : WaterAt w b n l) (hn : 1 ≤ n) :
    Calls Try.prog 11 #[.pointer (some ⟨b, 0, none⟩), .int .i64 i, .int .i64 t] w fun e w' => e = .returned (.bool (decide (t < atF n l i))) ∧ w = w' := by
  go_enter Try.func11, Try.ntmps11
  go_wp2_with (first | (go_at_call 25; refine (none_no b n l _ h hn).mono ?_; rintro e w' ⟨rfl, rfl⟩) | (go_at_call 22; refine (at_any b n l i _ h hn).mono ?_; rintro e w' ⟨rfl, rfl⟩))
  go_ret
  exact ⟨rfl, rfl⟩

def horF (m win : Int) : Int := if m = 1099511627777 then m else if win < 0 ∨ m < win then 0 else m - win

set_option maxHeartbeats 1000000 in
theorem horizon_any (b n : Nat) (l : List Int) (win : Int) (w : World) (h : WaterAt w b n l) (hn : 1 ≤ n) (hr : InRange l) :
    Calls Try.prog 10 #[.pointer (some ⟨b, 0, none⟩), .int .i64 win] w fun e w' => e = .returned (.int .i64 (horF (minOf (l.take n)) win)) ∧ ∃ m, w' = w.drewN m := by
  obtain ⟨hm0, hm1⟩ := hr.min n hn h.2.1
  have M := fun W => merged_any b n l W
  generalize minOf (l.take n) = m at *
  unfold horF
  by_cases c1 : m = 1099511627777
  · subst c1
    rw [if_pos rfl]
    go_enter Try.func10, Try.ntmps10
    go_wp2_with (go_at_call 14; refine (M _ h hn).mono ?_; rintro e w' ⟨rfl, k, rfl⟩)
    go_ret
    exact ⟨rfl, _, rfl⟩
  · rw [if_neg c1]
    have c1' : (m == 1099511627777) = false := by simp [c1]
    by_cases c2 : win < 0
    · rw [if_pos (.inl c2)]
      go_enter Try.func10, Try.ntmps10
      go_wp2_with (go_at_call 14; refine (M _ h hn).mono ?_; rintro e w' ⟨rfl, k, rfl⟩)
      go_ret
      exact ⟨rfl, _, rfl⟩
    · by_cases c3 : m < win
      · rw [if_pos (.inr c3)]
        go_enter Try.func10, Try.ntmps10
        go_wp2_with (go_at_call 14; refine (M _ h hn).mono ?_; rintro e w' ⟨rfl, k, rfl⟩)
        go_ret
        exact ⟨rfl, _, rfl⟩
      · rw [if_neg (by omega)]
        go_enter Try.func10, Try.ntmps10
        go_wp2_with (go_at_call 14; refine (M _ h hn).mono ?_; rintro e w' ⟨rfl, k, rfl⟩)
        go_ret
        exact ⟨rfl, _, rfl⟩

theorem done_any (b n : Nat) (l : List Int) (w : World) (h : WaterAt w b n l) (hn : 1 ≤ n) :
    Calls Try.prog 12 #[.pointer (some ⟨b, 0, none⟩)] w fun e w' => e = .returned (.bool (minOf (l.take n) == 1099511627777)) ∧ ∃ m, w' = w.drewN m := by
  go_enter Try.func12, Try.ntmps12
  go_wp2_with (go_at_call 14; refine (merged_any b n l _ h hn).mono ?_; rintro e w' ⟨rfl, k, rfl⟩)
  go_ret
  exact ⟨rfl, _, rfl⟩

end Go.Proofs.Ytadmhofipapmcaa
