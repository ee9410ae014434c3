/- The least, Oldest. -/
import Derived.Test.YtdboipjbpkhacaaS15
set_option linter.unusedVariables false
set_option linter.unusedSimpArgs false
set_option linter.unnecessarySimpa false
namespace Go.Proofs.Ytdboipjbpkhacaa
open Go.RowKit Go.Shelf

def MinPost (w : World) (x0 : Th) (xs : List Th) (e : Ending) (w' : World) : Prop :=
  ∃ x : Th, e = .returned (.agg #[.int .i64 x.1, .int .i64 x.2.1, .string x.2.2]) ∧ x.1 = oldGo x0.1 xs ∧ Kept [] w w'

set_option maxRecDepth 100000 in
set_option maxHeartbeats 1000000 in
theorem minfunc_any (v : Value) (x0 : Th) (xs : List Th) (w : World) (hx : RdT w v (x0 :: xs)) :
    Calls Try.prog 40 #[v, .func (.func 41) #[] #[]] w (MinPost w x0 xs) := by
  obtain ⟨A, c, rfl, hmx, hx⟩ := hx
  obtain ⟨a, off, rfl, hcell⟩ := hx (by simp)
  have HC := Lib.hid hcell
  obtain ⟨a1, a2, a3⟩ := hcell 0 x0 rfl
  simp only [Nat.zero_mul, Nat.add_zero] at a1 a2 a3
  obtain ⟨n, hn⟩ : ∃ n, (x0 :: xs).length = n := ⟨_, rfl⟩
  rw [hn] at hmx ⊢
  have hn1 : 1 ≤ n := by rw [← hn]; simp
  have HN := Lib.hid hn
  obtain ⟨y1, y2, ys⟩ := x0
  dsimp only at a1 a2 a3
  have hal := World.block_lt_of_cell? w _ a1
  dsimp only at hal
  have kz := (Kept.refl [] w).alloc (.cells #[.int .i64 0, .int .i64 0, .string { data := #[] }] 75)
  have z1 := kz.cell (by simp) a1
  have z2 := kz.cell (by simp) a2
  have z3 := kz.cell (by simp) a3
  have HKZ := Lib.hid kz
  clear hn hcell hx kz
  go_enter Try.func40, Try.ntmps40
  go_wp2_with fail
  have hK0 := HKZ.out.alloc (.cells #[.int .i64 y1, .int .i64 y2, .string ys] 75)
  have bR := (Blk.new w #[.int .i64 0, .int .i64 0, .string { data := #[] }] 75).alloc (.cells #[.int .i64 y1, .int .i64 y2, .string ys] 75)
  have bM := Blk.new (w.alloc (.cells #[.int .i64 0, .int .i64 0, .string { data := #[] }] 75)) #[.int .i64 y1, .int .i64 y2, .string ys] 75
  rw [World.size_alloc] at bM
  obtain ⟨W, hW⟩ : ∃ W, (w.alloc (.cells #[.int .i64 0, .int .i64 0, .string { data := #[] }] 75)).alloc (.cells #[.int .i64 y1, .int .i64 y2, .string ys] 75) = W := ⟨_, rfl⟩
  rw [hW] at hK0 bR bM ⊢
  have HBR := Lib.hid bR
  have HBM := Lib.hid bM
  clear hW bR bM z1 z2 z3
  go_loopw [6] (fun i wr => ∃ (k : Nat) (x : Th), 1 ≤ k ∧ k ≤ n ∧ i = .int .i64 k ∧ Blk wr (w.heap.size + 1) #[.int .i64 x.1, .int .i64 x.2.1, .string x.2.2] 75 ∧ Kept [w.heap.size + 1] W wr ∧ oldGo x.1 (((y1, y2, ys) :: xs).drop k) = oldGo y1 xs) (fun i _ => n - (intOf i).toNat)
  case atStart => exact ⟨1, (y1, y2, ys), by omega, by omega, rfl, HBM.out, Kept.refl _ _, rfl⟩
  case round =>
    obtain ⟨k, ⟨m1, m2, ms⟩, hk1, hkn, rfl, hM, hK, hg⟩ := hrel
    have HG := Lib.hid hg
    have HM := Lib.hid hM
    dsimp only at hM
    have d1 := hM.cell 0
    have d2 := hM.cell 1
    have d3 := hM.cell 2
    simp at d1 d2 d3
    have fM := hM.free
    clear hg
    by_cases hlt : k < n
    · obtain ⟨⟨x1, x2, xt⟩, hx⟩ : ∃ x, ((y1, y2, ys) :: xs)[k]? = some x := ⟨_, List.getElem?_eq_getElem (by rw [HN.out]; exact hlt)⟩
      obtain ⟨q1, q2, q3⟩ := HC.out k _ hx
      have hne : a ≠ w.heap.size + 1 := by omega
      have e1 := hK.cell (by simpa using hne) (hK0.cell (by simp) q1)
      have e2 := hK.cell (by simpa using hne) (hK0.cell (by simp) q2)
      have e3 := hK.cell (by simpa using hne) (hK0.cell (by simp) q3)
      dsimp only at e1 e2 e3
      have HX := Lib.hid hx
      clear hx q1 q2 q3
      by_cases hc : x1 < m1
      · have CM := Lib.hid (cmp_any x1 x2 m1 m2 xt ms wr.drew)
        rw [if_pos hc] at CM
        go_wp2_with fail
        go_still_tail 6, (by kernel_rfl)
        change wpList _ _ _ _ _ wr.drew
        go_wp2_with (go_at_call 41; refine CM.out.mono ?_; rintro e w2 ⟨rfl, hk2⟩; have g1 := hk2.cell (by simp) (show wr.drew.cell? _ = _ from e1); have g2 := hk2.cell (by simp) (show wr.drew.cell? _ = _ from e2); have g3 := hk2.cell (by simp) (show wr.drew.cell? _ = _ from e3); have bm2 := (HM.out.drew).kept hk2 (by simp); have m0 := bm2.cell 0; have m1' := bm2.cell 1; have m2' := bm2.cell 2; have f0 := bm2.free 0; have f1 := bm2.free 1; have f2 := bm2.free 2; simp at m0 m1' m2'; have HBM2 := Lib.hid bm2; clear bm2)
        go_roundw
        case rel =>
          refine ⟨k + 1, (x1, x2, xt), by omega, by omega, by go_num, ((HBM2.out.set 0 _).set 1 _).set 2 _, ((((hK.drew).trans hk2.nil).setCell (.inl (by simp)) _).setCell (.inl (by simp)) _).setCell (.inl (by simp)) _, ?_⟩
          obtain ⟨h1, h2⟩ := List.getElem?_eq_some_iff.1 HX.out
          rw [← HG.out, List.drop_eq_getElem_cons h1, h2, oldGo, if_pos hc]
        case measure => simp [intOf]; omega
      · have CM := Lib.hid (cmp_any x1 x2 m1 m2 xt ms wr.drew)
        rw [if_neg hc] at CM
        go_wp2_with fail
        go_still_tail 6, (by kernel_rfl)
        change wpList _ _ _ _ _ wr.drew
        go_wp2_with (go_at_call 41; refine CM.out.mono ?_; rintro e w2 ⟨rfl, hk2⟩)
        go_roundw
        case rel =>
          refine ⟨k + 1, (m1, m2, ms), by omega, by omega, by go_num, (HM.out.drew).kept hk2 (by simp), (hK.drew).trans hk2.nil, ?_⟩
          obtain ⟨h1, h2⟩ := List.getElem?_eq_some_iff.1 HX.out
          rw [← HG.out, List.drop_eq_getElem_cons h1, h2, oldGo, if_neg (show ¬ x1 < m1 by omega)]
        case measure => simp [intOf]; omega
    · have bR := (HBR.out).kept hK (by simp)
      have r0 := bR.cell 0
      have r1 := bR.cell 1
      have r2 := bR.cell 2
      have s0 := bR.free 0
      have s1 := bR.free 1
      have s2 := bR.free 2
      simp at r0 r1 r2
      have HR := Lib.hid bR
      clear bR
      go_wp2_with fail
      have bF := ((HR.out.set 0 (.int .i64 m1)).set 1 (.int .i64 m2)).set 2 (.string ms)
      have c0 := bF.cell 0
      have c1 := bF.cell 1
      have c2 := bF.cell 2
      simp at c0 c1 c2
      refine bodyPost_ret (v := .agg #[.int .i64 m1, .int .i64 m2, .string ms]) ?_ rfl ⟨(m1, m2, ms), rfl, ?_, ?_⟩
      · simp [results, Try.f40, go_sem, c0, c1, c2]
      · have := HG.out
        rwa [List.drop_eq_nil_of_le (by rw [HN.out]; omega), oldGo] at this
      · exact (((hK0.after hK (by simp)).setCell (.inr (Nat.le_refl _)) _).setCell (.inr (Nat.le_refl _)) _).setCell (.inr (Nat.le_refl _)) _

end Go.Proofs.Ytdboipjbpkhacaa
