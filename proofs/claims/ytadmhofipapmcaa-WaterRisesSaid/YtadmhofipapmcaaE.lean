/- WaterRises: marks, merged or not, and the horizon never fall; the merged one rises just where it is said. -/
import Derived.Test.YtadmhofipapmcaaC
import Derived.Test.YtadmhofipapmcaaD
set_option linter.unusedVariables false
set_option linter.unusedSimpArgs false
namespace Go.Proofs.Ytadmhofipapmcaa
open Go.RowKit

theorem markL_ge (n : Nat) (l : List Int) (i t : Int) (j : Nat) (x y : Int) (hx : l[j]? = some x) (hy : (markL n l i t)[j]? = some y) : x ≤ y := by
  unfold markL at hy
  split at hy
  · rename_i h
    simp only [markOk, Bool.and_eq_true, decide_eq_true_eq] at h
    rw [List.getElem?_set] at hy
    split at hy
    · rename_i e
      subst e
      have := h.2
      rw [List.getD_eq_getElem?_getD, hx] at this
      split at hy
      · simp at hy; subst hy; simpa using this
      · cases hy
    · rw [hx] at hy; simp at hy; omega
  · rw [hx] at hy; simp at hy; omega

theorem minOf_mono (l l' : List Int) (hl : l.length = l'.length) (h : ∀ (j : Nat) (x y : Int), l[j]? = some x → l'[j]? = some y → x ≤ y) : minOf l ≤ minOf l' := by
  by_cases hn : l' = []
  · subst hn
    have : l = [] := List.eq_nil_of_length_eq_zero (by simpa using hl)
    subst this; exact Int.le_refl _
  · have hm := minOf_mem l' hn
    obtain ⟨j, hj, e⟩ := List.getElem_of_mem hm
    have h1 := minOf_le l (l[j]'(by omega)) (List.getElem_mem _)
    have h2 := h j _ _ (List.getElem?_eq_getElem (by omega)) (List.getElem?_eq_getElem hj)
    rw [e] at h2
    omega

theorem horF_mono (m m' win : Int) (h : m ≤ m') (hm : m' ≤ 1099511627777) : horF m win ≤ horF m' win := by
  unfold horF
  split <;> split <;> (try split) <;> (try split) <;> omega

set_option maxRecDepth 100000 in
set_option maxHeartbeats 2000000 in
theorem rises_walk (w : World) (A : Option Addr) (n cap : Nat) (xs : List (Int × Int × Bool)) (hx : (Rk.slice opK).K w xs [.slice A n cap]) (win : Int) (_ : (Lit.int .i64 win).wf = true) :
    Calls Try.prog 4 #[.slice A n cap, .int .i64 win] w fun e w' => e = .returned (.bool true) ∧ Below w.heap.size w w' := by
  obtain ⟨hnl, hnc, hcm⟩ := slice_len hx
  unfold maxLen at hcm
  have HN := Lib.hid hnl
  clear hnl
  go_enter Try.func4, Try.ntmps4
  go_wp2_with fail
  refine (new_ok 3 _ (by omega) (by omega)).mono ?_
  rintro e w1 ⟨rfl, hw1⟩
  have hA : WaterAt w1 w.heap.size 3 l00 := by rw [hw1]; exact WaterAt.new w 3 l00 (by omega) rfl
  have hk1 : Kept [] w w1 := by rw [hw1]; exact (Kept.refl [] w).alloc _
  clear hw1
  go_wp2_with fail
  refine (begun_ok _).mono ?_
  rintro e w2 ⟨rfl, hk2⟩
  have hA2 := hA.kept hk2 (by simp)
  have hk := hk1.trans hk2
  go_wp2_with fail
  go_loopw [32] (fun i wr => ∃ (k : Nat) (l : List Int), k ≤ n ∧ i = .int .i64 k ∧ WaterAt wr w.heap.size 3 l ∧ InRange l ∧ Kept [] w wr) (fun i _ => n - (intOf i).toNat)
  case atStart => exact ⟨0, l00, Nat.zero_le _, rfl, hA2, by unfold InRange; decide, hk⟩
  case round =>
    obtain ⟨k, l, hkn, rfl, hAr, hR, hKr⟩ := hrel
    by_cases hlt : k < n
    · obtain ⟨b, off, i, t, c, rfl, _, wi1, wt1, c0, c1, c2⟩ := op_cells hx k hlt hKr
      have hl12 := hAr.2.1
      have hl12' : (markL 3 l i t).length = 12 := by rw [markL_length]; exact hl12
      have hR' := hR.markL 3 i t
      have hmm : minOf (l.take 3) ≤ minOf ((markL 3 l i t).take 3) := minOf_mono _ _ (by simp [hl12, hl12']) (fun j x y h1 h2 => by
        rw [List.getElem?_take] at h1 h2
        split at h1
        · rename_i h3; rw [if_pos h3] at h2; exact markL_ge 3 l i t j x y h1 h2
        · cases h1)
      have hm' := hR'.min 3 (by omega) hl12'
      have hh := horF_mono _ _ win hmm hm'.2
      have HGE : Hid (∀ (j : Nat) (x y : Int), l[j]? = some x → (markL 3 l i t)[j]? = some y → x ≤ y) := fun j x y => markL_ge 3 l i t j x y
      have hrose : markRose 3 l i t = decide (minOf (l.take 3) < minOf ((markL 3 l i t).take 3)) := rfl
      have HRose := Lib.hid hrose
      clear hrose hm'
      have hlen1 := len_le_of_take l 3 hl12 (by omega)
      have hlen2 := len_le_of_take (markL 3 l i t) 3 hl12' (by omega)
      have HL1 := Lib.hid hlen1
      have HL2 := Lib.hid hlen2
      clear hlen1 hlen2 hl12 hl12'
      obtain ⟨l', hl'⟩ : ∃ l', markL 3 l i t = l' := ⟨_, rfl⟩
      rw [hl'] at hmm hh HGE HRose HL2 hR'
      have HL' := Lib.hid hl'
      clear hl'
      have hk0 := (hKr.alloc (.cells #[.int .i64 i, .int .i64 t, .bool c] 29))
      go_wp2_with fail
      refine (marks_any w.heap.size 3 l _ (hAr.alloc _) (by omega)).mono ?_
      rintro e w3 ⟨v1, rfl, ho1, hk3⟩
      have hA3 := (hAr.alloc (.cells #[.int .i64 i, .int .i64 t, .bool c] 29)).kept hk3 (by simp)
      obtain ⟨⟨A1, cc1, hv1, -, hr1⟩, -⟩ := RdI.of_own ho1
      rw [HL1.out] at hv1
      obtain ⟨b1, o1, rfl, -⟩ := hr1 (by intro e; have := HL1.out; rw [e] at this; simp at this)
      subst hv1
      have hk03 := hk0.trans hk3
      have B3 := (Blk.new wr #[.int .i64 i, .int .i64 t, .bool c] 29).kept hk3 (by simp)
      have bx0 : w3.cell? ⟨wr.heap.size, 0, none⟩ = some (.int .i64 i) := B3.cell 0
      have bx1 : w3.cell? ⟨wr.heap.size, 1, none⟩ = some (.int .i64 t) := B3.cell 1
      go_wp2_with fail
      refine (merged_any w.heap.size 3 l _ hA3 (by omega)).mono ?_
      rintro e w' ⟨rfl, q1, rfl⟩
      go_wp2_with fail
      refine (horizon_any w.heap.size 3 l win _ (hA3.drewN _) (by omega) hR).mono ?_
      rintro e w' ⟨rfl, q2, rfl⟩
      go_wp2_with fail
      refine (mark_any w.heap.size 3 l i t _ (hA3.drewN _) (by omega)).mono ?_
      rintro e w4 ⟨rfl, hA4, hk4⟩
      rw [HL'.out] at hA4
      rw [HRose.out]
      go_wp2_with fail
      refine (marks_any w.heap.size 3 l' _ hA4 (by omega)).mono ?_
      rintro e w5 ⟨v2, rfl, ho2, hk5⟩
      have hA5 := hA4.kept hk5 (by simp)
      obtain ⟨⟨A2, cc2, hv2, -, hr2⟩, -⟩ := RdI.of_own ho2
      rw [HL2.out] at hv2
      obtain ⟨b2, o2, rfl, -⟩ := hr2 (by intro e; have := HL2.out; rw [e] at this; simp at this)
      subst hv2
      have hk05 : Kept [] w w5 := Kept.after (hk03.drewN _) (hk4.trans hk5.nil) (by simp)
      have hr1' : RdI w5 .i64 (.slice (some ⟨b1, o1, none⟩) 3 cc1) (l.take 3) := by
        have h1 := (RdI.of_own ho1).1
        refine ((h1.drewN (q1 + q2)).kept hk4 (fun b' hb' => ?_)).keep hk5
        have h2 := ho1.lt b' hb'
        have h3 := hKr.size
        have h4 := hAr.2.2.lt
        simp at h2 ⊢
        omega
      have hr2' := (RdI.of_own ho2).1
      have HR1 := Lib.hid hr1'
      have HR2 := Lib.hid hr2'
      clear hr1' hr2' ho1 ho2
      have HHH := Lib.hid hh
      have hm1 : ¬ minOf (l'.take 3) < minOf (l.take 3) := by omega
      have hm2 : ¬ horF (minOf (l'.take 3)) win < horF (minOf (l.take 3)) win := by omega
      clear hmm hh
      go_wp2_with (first | (go_at_call 14; refine (merged_any w.heap.size 3 l' _ (hA5.drewN _) (by omega)).mono ?_; rintro e w' ⟨rfl, q3, rfl⟩) | (go_at_call 14; refine (merged_any w.heap.size 3 l' _ hA5 (by omega)).mono ?_; rintro e w' ⟨rfl, q3, rfl⟩) | (go_at_call 10; refine (horizon_any w.heap.size 3 l' win _ (hA5.drewN _) (by omega) hR').mono ?_; rintro e w' ⟨rfl, q4, rfl⟩))
      go_loopw [85] (fun i wr => ∃ (j m : Nat), j ≤ 3 ∧ i = .int .i64 j ∧ wr = w5.drewN m) (fun i _ => 3 - (intOf i).toNat)
      case atStart => exact ⟨0, _, by omega, rfl, rfl⟩
      case round =>
        obtain ⟨j, m, hj, rfl, rfl⟩ := hrel
        by_cases hjt : j < 3
        · obtain ⟨x, hx1⟩ : ∃ x, (l.take 3)[j]? = some x := ⟨_, List.getElem?_eq_getElem (by have := HL1.out; omega)⟩
          obtain ⟨y, hy1⟩ : ∃ y, (l'.take 3)[j]? = some y := ⟨_, List.getElem?_eq_getElem (by have := HL2.out; omega)⟩
          have e1 : w5.cell? ⟨b1, o1 + j, none⟩ = some (.int .i64 x) := HR1.out.cell j x hx1
          have e2 : w5.cell? ⟨b2, o2 + j, none⟩ = some (.int .i64 y) := HR2.out.cell j y hy1
          have hxy : ¬ y < x := by
            rw [List.getElem?_take, if_pos hjt] at hx1 hy1
            have := HGE.out j x y hx1 hy1
            omega
          clear hx1 hy1
          go_wp2_with fail
          go_quiet (fail)
          go_wp2
          go_roundw
          case rel => exact ⟨j + 1, m + nq, by omega, by go_num, rfl⟩
          case measure => simp [intOf]; omega
        · go_wp2
          go_roundw
          case rel => exact ⟨k + 1, l', by omega, by go_num, hA5.drewN _, hR', hk05.drewN _⟩
          case measure => simp [intOf]; omega
    · go_wp2
      go_ret
      exact ⟨rfl, hKr.below⟩

end Go.Proofs.Ytadmhofipapmcaa
