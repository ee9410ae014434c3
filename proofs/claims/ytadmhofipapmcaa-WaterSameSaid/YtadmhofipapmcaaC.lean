/- The marks' laws that need no document: WaterLets and WaterRises. -/
import Derived.Test.YtadmhofipapmcaaB
import Derived.Test.YtadmhofipapmcaaReader
import Derived.OpenShut
set_option linter.unusedVariables false
set_option linter.unusedSimpArgs false
namespace Go.Proofs.Ytadmhofipapmcaa
open Go.RowKit

abbrev l00 : List Int := [0, 0, 0, 0, 0, 0, 0, 0, 0, 0, 0, 0]
abbrev l90 : List Int := [9, 0, 0, 0, 0, 0, 0, 0, 0, 0, 0, 0]
abbrev l94 : List Int := [9, 4, 0, 0, 0, 0, 0, 0, 0, 0, 0, 0]

set_option maxHeartbeats 1000000 in
theorem begun_ok (w : World) : Calls Try.prog 8 #[] w fun e w' => e = .returned (.bool true) ∧ Kept [] w w' := by
  have r1 : markRose 2 l00 0 9 = false := by decide
  have r2 : markErr 2 l00 0 9 = 0 := by decide
  have r3 : markL 2 l00 0 9 = l90 := by decide
  have r4 : markRose 2 l90 1 4 = true := by decide
  have r5 : markErr 2 l90 1 4 = 0 := by decide
  have r6 : markL 2 l90 1 4 = l94 := by decide
  have r7 : minOf (l94.take 2) = 4 := by decide
  have r8 : horF 4 3 = 1 := by decide
  have r9 : atF 2 l94 1 = 4 := by decide
  have rr : InRange l94 := by unfold InRange; decide
  have h1 := Lib.hid r1
  have h2 := Lib.hid r2
  have h3 := Lib.hid r3
  have h4 := Lib.hid r4
  have h5 := Lib.hid r5
  have h6 := Lib.hid r6
  have h7 := Lib.hid r7
  have h8 := Lib.hid r8
  have h9 := Lib.hid r9
  clear r1 r2 r3 r4 r5 r6 r7 r8 r9
  go_enter Try.func8, Try.ntmps8
  go_wp2_with fail
  refine (new_ok 2 _ (by omega) (by omega)).mono ?_
  rintro e w1 ⟨rfl, hw1⟩
  have hA : WaterAt w1 w.heap.size 2 l00 := by rw [hw1]; exact WaterAt.new w 2 l00 (by omega) rfl
  have hk1 : Kept [] w w1 := by rw [hw1]; exact (Kept.refl [] w).alloc _
  clear hw1
  go_wp2_with fail
  refine (mark_any w.heap.size 2 l00 0 9 _ hA (by omega)).mono ?_
  rintro e w2 ⟨rfl, hA2, hk2⟩
  rw [h1.out, h2.out]
  rw [h3.out] at hA2
  go_wp2_with fail
  refine (mark_any w.heap.size 2 l90 1 4 _ hA2 (by omega)).mono ?_
  rintro e w3 ⟨rfl, hA3, hk3⟩
  rw [h4.out, h5.out]
  rw [h6.out] at hA3
  go_wp2_with (first | (go_at_call 14; refine (merged_any w.heap.size 2 l94 _ hA3 (by omega)).mono ?_; rintro e w' ⟨rfl, k, rfl⟩; rw [h7.out]) | (go_at_call 10; refine (horizon_any w.heap.size 2 l94 3 _ (hA3.drewN _) (by omega) rr).mono ?_; rintro e w' ⟨rfl, k, rfl⟩; rw [h7.out, h8.out]) | (go_at_call 11; refine (late_any w.heap.size 2 l94 1 _ _ (hA3.drewN _) (by omega)).mono ?_; rintro e w' ⟨rfl, rfl⟩; rw [h9.out]))
  go_ret
  refine ⟨rfl, ?_⟩
  exact (Kept.after (hk1.after hk2 (by simp)) hk3 (by simp)).drewN _

/-- An operation of the script: the input, the time, whether it goes on in a clone. -/
def opK : Rk (Int × Int × Bool) := (Rk.int .i64).pair ((Rk.int .i64).pair Rk.bool)
theorem opK_of : opK.Of Try.prog 29 :=
  Rk.of_struct Try.underlying29 (Rk.fields_cons (Rk.of_int Try.underlying3) rfl (by kernel_rfl) (Rk.fields_cons (Rk.of_int Try.underlying2) rfl (by kernel_rfl) (Rk.fields_one (Rk.of_bool Try.underlying4) rfl (by kernel_rfl)))) (by kernel_rfl)

/-- The cells of the operation at an index, in a later world. -/
theorem op_cells {w W : World} {A : Option Addr} {n cap : Nat} {xs : List (Int × Int × Bool)} (h : (Rk.slice opK).K w xs [.slice A n cap]) (k : Nat) (hk : k < n) (hW : Kept [] w W) :
    ∃ b off i t c, A = some ⟨b, off, none⟩ ∧ xs[k]? = some (i, t, c) ∧ (Lit.int .i64 i).wf = true ∧ (Lit.int .i64 t).wf = true ∧
      W.cell? ⟨b, off + k * 3, none⟩ = some (.int .i64 i) ∧ W.cell? ⟨b, off + k * 3 + 1, none⟩ = some (.int .i64 t) ∧ W.cell? ⟨b, off + k * 3 + 2, none⟩ = some (.bool c) := by
  obtain ⟨A', c', he, _, _, _, hE⟩ := h
  simp only [List.cons.injEq, Value.slice.injEq, and_true] at he
  obtain ⟨rfl, rfl, rfl⟩ := he
  obtain ⟨b, off, rfl, hx⟩ := hE (by intro e; subst e; simp at hk)
  obtain ⟨⟨i, t, c⟩, ho⟩ : ∃ o, xs[k]? = some o := ⟨_, List.getElem?_eq_getElem hk⟩
  obtain ⟨cs, hK, hc⟩ := hx k _ ho
  obtain ⟨c1, c2, rfl, ⟨rfl, w1⟩, c3, c4, rfl, ⟨rfl, w2⟩, rfl⟩ := hK
  have h0 := hc 0 (by decide)
  have h1 := hc 1 (by decide)
  have h2 := hc 2 (by decide)
  exact ⟨b, off, i, t, c, rfl, ho, w1, w2, hW.cell (by simp) h0, hW.cell (by simp) h1, hW.cell (by simp) h2⟩

theorem slice_len {α : Type} {d : Rk α} {w : World} {A : Option Addr} {n cap : Nat} {xs : List α} (h : (Rk.slice d).K w xs [.slice A n cap]) : n = xs.length ∧ n ≤ cap ∧ cap ≤ maxLen := by
  obtain ⟨A', c', he, h1, h2, _, _⟩ := h
  simp only [List.cons.injEq, Value.slice.injEq, and_true] at he
  obtain ⟨rfl, rfl, rfl⟩ := he
  exact ⟨rfl, h1, h2⟩

set_option maxRecDepth 100000 in
set_option maxHeartbeats 1000000 in
theorem lets_walk (w : World) (A : Option Addr) (n cap : Nat) (xs : List (Int × Int × Bool)) (hx : (Rk.slice opK).K w xs [.slice A n cap]) (win : Int) (_ : (Lit.int .i64 win).wf = true)
    (beg : Int) (_ : (Lit.int .i64 beg).wf = true) (fin : Int) (_ : (Lit.int .i64 fin).wf = true) (inp : Int) (wi : (Lit.int .u8 inp).wf = true) :
    Calls Try.prog 3 #[.slice A n cap, .int .i64 win, .int .i64 beg, .int .i64 fin, .int .u8 inp] w fun e w' => e = .returned (.bool true) ∧ Below w.heap.size w w' := by
  obtain ⟨hnl, hnc, hcm⟩ := slice_len hx
  unfold maxLen at hcm
  have HN := Lib.hid hnl
  clear hnl
  by_cases bad : win < 0 ∨ beg < 0 ∨ fin < 0 ∨ 1099511627776 < fin
  · by_cases c1 : win < 0
    · go_enter Try.func3, Try.ntmps3
      go_wp2_with fail
      refine (new_ok 3 _ (by omega) (by omega)).mono ?_
      rintro e w1 ⟨rfl, rfl⟩
      go_wp2_with fail
      refine (begun_ok _).mono ?_
      rintro e w2 ⟨rfl, hk2⟩
      go_wp2_with fail
      refine (begun_ok _).mono ?_
      rintro e w3 ⟨rfl, hk3⟩
      go_wp2_with fail
      go_ret
      exact ⟨rfl, ((((Kept.refl [] w).alloc _).trans hk2).trans hk3).below⟩
    · by_cases c2 : beg < 0
      · go_enter Try.func3, Try.ntmps3
        go_wp2_with fail
        refine (new_ok 3 _ (by omega) (by omega)).mono ?_
        rintro e w1 ⟨rfl, rfl⟩
        go_wp2_with fail
        refine (begun_ok _).mono ?_
        rintro e w2 ⟨rfl, hk2⟩
        go_wp2_with fail
        refine (begun_ok _).mono ?_
        rintro e w3 ⟨rfl, hk3⟩
        go_wp2_with fail
        go_ret
        exact ⟨rfl, ((((Kept.refl [] w).alloc _).trans hk2).trans hk3).below⟩
      · by_cases c3 : fin < 0
        · go_enter Try.func3, Try.ntmps3
          go_wp2_with fail
          refine (new_ok 3 _ (by omega) (by omega)).mono ?_
          rintro e w1 ⟨rfl, rfl⟩
          go_wp2_with fail
          refine (begun_ok _).mono ?_
          rintro e w2 ⟨rfl, hk2⟩
          go_wp2_with fail
          refine (begun_ok _).mono ?_
          rintro e w3 ⟨rfl, hk3⟩
          go_wp2_with fail
          go_ret
          exact ⟨rfl, ((((Kept.refl [] w).alloc _).trans hk2).trans hk3).below⟩
        · have c4 : 1099511627776 < fin := by omega
          go_enter Try.func3, Try.ntmps3
          go_wp2_with fail
          refine (new_ok 3 _ (by omega) (by omega)).mono ?_
          rintro e w1 ⟨rfl, rfl⟩
          go_wp2_with fail
          refine (begun_ok _).mono ?_
          rintro e w2 ⟨rfl, hk2⟩
          go_wp2_with fail
          refine (begun_ok _).mono ?_
          rintro e w3 ⟨rfl, hk3⟩
          go_wp2_with fail
          go_ret
          exact ⟨rfl, ((((Kept.refl [] w).alloc _).trans hk2).trans hk3).below⟩
  · have g1 : ¬ win < 0 := by omega
    have g2 : ¬ beg < 0 := by omega
    have g3 : ¬ fin < 0 := by omega
    have g4 : ¬ 1099511627776 < fin := by omega
    have b1 : decide (win < 0) = false := by simp; omega
    have b2 : decide (beg < 0) = false := by simp; omega
    have b3 : decide (fin < 0) = false := by simp; omega
    have b4 : decide (1099511627776 < fin) = false := by simp; omega
    have gi : 0 ≤ inp ∧ inp ≤ 255 := bounds_u8 wi
    clear bad
    go_enter Try.func3, Try.ntmps3
    go_wp2_with fail
    refine (new_ok 3 _ (by omega) (by omega)).mono ?_
    rintro e w1 ⟨rfl, hw1⟩
    have hA : WaterAt w1 w.heap.size 3 l00 := by rw [hw1]; exact WaterAt.new w 3 l00 (by omega) rfl
    have hk1 : Kept [] w w1 := by rw [hw1]; exact (Kept.refl [] w).alloc _
    clear hw1
    go_wp2_with fail
    refine (begun_ok _).mono ?_
    rintro e w2 ⟨rfl, hk2⟩
    have hA2 := hA.kept hk2 (by simp)
    have hk := hk1.trans hk2
    go_wp2_with fail
    go_loopw [48] (fun i wr => ∃ (k : Nat) (l : List Int), k ≤ n ∧ i = .int .i64 k ∧ WaterAt wr w.heap.size 3 l ∧ InRange l ∧ Kept [] w wr) (fun i _ => n - (intOf i).toNat)
    case atStart => exact ⟨0, l00, Nat.zero_le _, rfl, hA2, by unfold InRange; decide, hk⟩
    case round =>
      obtain ⟨k, l, hkn, rfl, hAr, hR, hKr⟩ := hrel
      by_cases hlt : k < n
      · obtain ⟨b, off, i, t, c, rfl, _, wi1, wt1, c0, c1, c2⟩ := op_cells hx k hlt hKr
        go_wp2_with fail
        refine (mark_any w.heap.size 3 l i t _ (hAr.alloc _) (by omega)).mono ?_
        rintro e w4 ⟨rfl, hA4, hK4⟩
        go_wp2_with fail
        go_roundw
        case rel => exact ⟨k + 1, _, by omega, by go_num, hA4, hR.markL _ _ _, Kept.after (hKr.alloc _) hK4 (by simp)⟩
        case measure => simp [intOf]; omega
      · have hl12 := hAr.2.1
        have hm := hR.min 3 (by omega) hl12
        have hat : minOf (l.take 3) ≤ atF 3 l (inp % 3) := by
          unfold atF
          rw [if_pos (by simp; omega)]
          refine minOf_le _ _ ?_
          rw [List.getD_eq_getElem?_getD, List.getElem?_eq_getElem (by omega)]
          rw [List.mem_take_iff_getElem]
          exact ⟨(inp % 3).toNat, by omega, rfl⟩
        have HA := Lib.hid hat
        have HM := Lib.hid hm
        clear hat hm
        by_cases q1 : horF (minOf (l.take 3)) win ≤ beg
        · go_wp2_with (first | (go_at_call 10; refine (horizon_any w.heap.size 3 l win _ hAr (by omega) hR).mono ?_; rintro e w' ⟨rfl, k, rfl⟩))
          go_ret
          exact ⟨rfl, (hKr.drewN _).below⟩
        · have q1' : ¬ horF (minOf (l.take 3)) win ≤ beg := q1
          by_cases q2 : fin < atF 3 l (inp % 3)
          · go_wp2_with (first | (go_at_call 10; refine (horizon_any w.heap.size 3 l win _ hAr (by omega) hR).mono ?_; rintro e w' ⟨rfl, k, rfl⟩) | (go_at_call 11; refine (late_any w.heap.size 3 l (inp % 3) fin _ (hAr.drewN _) (by omega)).mono ?_; rintro e w' ⟨rfl, rfl⟩))
            go_ret
            exact ⟨rfl, (hKr.drewN _).below⟩
          · by_cases q3 : minOf (l.take 3) = 1099511627777
            · have q3' : (minOf (l.take 3) == 1099511627777) = true := by rw [q3]; rfl
              have Q3 := Lib.hid q3'
              clear q3 q3'
              go_wp2_with (first | (go_at_call 10; refine (horizon_any w.heap.size 3 l win _ hAr (by omega) hR).mono ?_; rintro e w' ⟨rfl, k, rfl⟩) | (go_at_call 11; refine (late_any w.heap.size 3 l (inp % 3) fin _ (hAr.drewN _) (by omega)).mono ?_; rintro e w' ⟨rfl, rfl⟩) | (go_at_call 12; refine (done_any w.heap.size 3 l _ (hAr.drewN _) (by omega)).mono ?_; rintro e w' ⟨rfl, k2, rfl⟩; rw [Q3.out]))
              go_ret
              exact ⟨rfl, (hKr.drewN _).below⟩
            · have q3' : (minOf (l.take 3) == 1099511627777) = false := by simpa using q3
              have Q3 := Lib.hid q3'
              have hfin : win < fin - beg := by
                have h1 := HA.out
                have h2 := HM.out
                unfold horF at q1'
                rw [if_neg q3] at q1'
                split at q1' <;> omega
              clear q3 q3' q1'
              have hb : beg ≤ fin := by omega
              go_wp2_with (first | (go_at_call 10; refine (horizon_any w.heap.size 3 l win _ hAr (by omega) hR).mono ?_; rintro e w' ⟨rfl, k, rfl⟩) | (go_at_call 11; refine (late_any w.heap.size 3 l (inp % 3) fin _ (hAr.drewN _) (by omega)).mono ?_; rintro e w' ⟨rfl, rfl⟩) | (go_at_call 12; refine (done_any w.heap.size 3 l _ (hAr.drewN _) (by omega)).mono ?_; rintro e w' ⟨rfl, k2, rfl⟩; rw [Q3.out]))
              go_ret
              exact ⟨rfl, (hKr.drewN _).below⟩

end Go.Proofs.Ytadmhofipapmcaa
