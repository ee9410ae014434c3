/- Scripts: the script that the document fixes: the walk. -/
import Derived.Test.YthgenobbpaclhaaDoorZ14
import Derived.Test.YthgenobbpaclhaaDoorZ15
set_option linter.unusedVariables false
set_option linter.unusedSimpArgs false
set_option linter.unnecessarySimpa false
namespace Go.Proofs.YthgenobbpaclhaaDoor
open Go.RowKit Go.Shelf
attribute [local go_sem] Oper.semAt_some

theorem liveC_sm : ConfSm liveC := ⟨by decide, fun n hn => by simp [liveC] at hn; rcases hn with rfl | rfl <;> exact ⟨by decide, by decide⟩, by decide, fun n hn => by simp [liveC] at hn; subst hn; exact ⟨by decide, by decide⟩, ⟨by decide, by decide⟩⟩
theorem zS_sm (k : Int) (h : I64 k) : StepSm (zS k) := by
  have z : I64 0 := ⟨by decide, by decide⟩
  constructor <;> first | exact h | exact z | (show (0 : Nat) ≤ 1048576; decide) | (intro n hn; cases hn) | exact ⟨Int.le_refl 0, by show (0 : Int) ≤ 255; decide⟩
theorem liveX_sm : StepSm liveX := by
  have z : I64 0 := ⟨by decide, by decide⟩
  constructor <;> first | exact z | exact ⟨by decide, by decide⟩ | (show (0 : Nat) ≤ 1048576; decide) | (show (1 : Nat) ≤ 1048576; decide) | (intro n hn; cases hn; done) | skip
  · intro a ha
    simp [liveX] at ha
    subst ha
    exact ⟨by decide, by decide, by decide, by decide⟩
theorem liveA_K (w : World) : attrR.K w liveA (attrC liveA) := ⟨_, _, rfl, ⟨rfl, by decide⟩, _, _, rfl, ⟨rfl, by decide⟩, _, _, rfl, ⟨rfl, by decide⟩, ⟨rfl, by decide⟩⟩
theorem rdI_blk {w : World} {b : Nat} {xs : List Int} {t : TypeId} (h : Blk w b (xs.map (Value.int .i64)).toArray t) (hm : xs.length ≤ maxLen) : RdI w .i64 (.slice (some ⟨b, 0, none⟩) xs.length xs.length) xs := by
  refine ⟨_, _, rfl, hm, fun hn => ⟨b, 0, rfl, fun i x hx => ?_⟩⟩
  rw [Nat.zero_add, h.cell i]
  simp [hx]
theorem rdSt_two {w : World} {b : Nat} {x y : StepD} {pv av qv bv : Value} {t : TypeId} (h : Blk w b (stepC x pv av ++ stepC y qv bv) t) (hx : StepV w x pv av) (hy : StepV w y qv bv) : RdSt w (.slice (some ⟨b, 0, none⟩) 2 2) [x, y] := by
  have sx : (stepC x pv av).size = 14 := rfl
  have sy : (stepC y qv bv).size = 14 := rfl
  refine ⟨_, _, rfl, by show 2 ≤ maxLen; decide, fun _ => ⟨b, 0, rfl, fun i z hz => ?_⟩⟩
  match i, hz with
  | 0, hz =>
    simp at hz
    subst hz
    refine ⟨pv, av, hx, fun j u hu => ?_⟩
    have hj := (Array.getElem?_eq_some_iff.1 hu).1
    rw [show 0 + 0 * 14 + j = j by omega, h.cell j, Array.getElem?_append_left hj]
    exact hu
  | 1, hz =>
    simp at hz
    subst hz
    refine ⟨qv, bv, hy, fun j u hu => ?_⟩
    have hj := (Array.getElem?_eq_some_iff.1 hu).1
    rw [show 0 + 1 * 14 + j = 14 + j by omega, h.cell (14 + j), Array.getElem?_append_right (by omega), sx, show 14 + j - 14 = j by omega]
    exact hu
  | (n + 2), hz => simp at hz

set_option maxRecDepth 100000 in
set_option maxHeartbeats 4000000 in
theorem live_any (w : World) (ht : TabVar w) : Calls Tryd.prog 10 #[] w fun e w' => e = .returned (.bool true) ∧ Kept [] w w' := by
  have HT := Lib.hid ht
  clear ht
  obtain ⟨W0, hW0⟩ : ∃ x, w.alloc (.cells #[.int .i64 (-1), .int .i64 0] 3) = x := ⟨_, rfl⟩
  obtain ⟨W1, hW1⟩ : ∃ x, W0.alloc (.cells #[.int .i64 1] 3) = x := ⟨_, rfl⟩
  obtain ⟨W2, hW2⟩ : ∃ x, W1.alloc (.cells #[.string { data := #[120] }, .int .i64 1, .int .i64 3, .string { data := #[] }] 61) = x := ⟨_, rfl⟩
  have s0 : W0.heap.size = w.heap.size + 1 := by rw [← hW0]; simp
  have s1 : W1.heap.size = w.heap.size + 1 + 1 := by rw [← hW1]; simp [s0]
  have s2 : W2.heap.size = w.heap.size + 1 + 1 + 1 := by rw [← hW2]; simp [s1]
  have b0 : Blk W0 w.heap.size #[.int .i64 (-1), .int .i64 0] 3 := by rw [← hW0]; exact Blk.new _ _ _
  have b1 : Blk W1 (w.heap.size + 1) #[.int .i64 1] 3 := by rw [← hW1, ← s0]; exact Blk.new _ _ _
  have o2 : W2.ownsRow W1.heap.size 61 4 (.slice (some ⟨W1.heap.size, 0, none⟩) 1 1) 1 (cellsA [liveA]) := by
    rw [← hW2]
    have := World.ownsRow_lit (base := W1.heap.size) (e := 61) (size := 4) W1 #[.string { data := #[120] }, .int .i64 1, .int .i64 3, .string { data := #[] }] 1 (Nat.le_refl _) (by decide) (by decide)
    exact this
  have HAT : Hid (Rds attrR W2 (.slice (some ⟨w.heap.size + 1 + 1, 0, none⟩) 1 1) [liveA]) := by
    have := rds_of_own (l := [liveA]) o2 (by decide) (fun x hx => by simp at hx; subst hx; exact liveA_K _)
    rw [s1] at this
    exact this
  obtain ⟨W3, hW3⟩ : ∃ x, W2.alloc (.cells (stepC liveX (.slice none 0 0) (.slice (some ⟨w.heap.size + 1 + 1, 0, none⟩) 1 1) ++ stepC liveY (.slice none 0 0) (.slice none 0 0)) 40) = x := ⟨_, rfl⟩
  have b3 : Blk W3 (w.heap.size + 1 + 1 + 1) (stepC liveX (.slice none 0 0) (.slice (some ⟨w.heap.size + 1 + 1, 0, none⟩) 1 1) ++ stepC liveY (.slice none 0 0) (.slice none 0 0)) 40 := by rw [← hW3, ← s2]; exact Blk.new _ _ _
  have k1 : Kept [] W0 W1 := by rw [← hW1]; exact (Kept.refl [] _).alloc _
  have k2 : Kept [] W1 W2 := by rw [← hW2]; exact (Kept.refl [] _).alloc _
  have k3 : Kept [] W2 W3 := by rw [← hW3]; exact (Kept.refl [] _).alloc _
  have HK3 : Hid (Kept [] w W3) := by
    have k0 : Kept [] w W0 := by rw [← hW0]; exact (Kept.refl [] _).alloc _
    exact ((k0.trans k1).trans k2).trans k3
  have HP := Lib.hid (print_any liveC (.slice (some ⟨w.heap.size, 0, none⟩) 2 2) (.slice (some ⟨w.heap.size + 1, 0, none⟩) 1 1) (.slice (some ⟨w.heap.size + 1 + 1 + 1, 0, none⟩) 2 2) [liveX, liveY] W3
    ⟨rdI_blk (xs := [-1, 0]) (b0.kept ((k1.trans k2).trans k3) (by simp)) (by decide), rdI_blk (xs := [1]) (b1.kept (k2.trans k3) (by simp)) (by decide)⟩ liveC_sm
    (rdSt_two b3 ⟨rdI_nil _, HAT.out.keep k3⟩ ⟨rdI_nil _, rdsA_nil _⟩) (fun x hx => by
      simp at hx
      rcases hx with rfl | rfl
      · exact liveX_sm
      · exact zS_sm 12 ⟨by decide, by decide⟩) (HT.out.keep HK3.out))
  have HWE : Hid ((((w.alloc (.cells #[.int .i64 (-1), .int .i64 0] 3)).alloc (.cells #[.int .i64 1] 3)).alloc (.cells #[.string { data := #[120] }, .int .i64 1, .int .i64 3, .string { data := #[] }] 61)).alloc (.cells #[.int .i64 2, .string { data := #[] }, .slice none 0 0, .int .i64 0, .int .i64 5, .string { data := #[65] }, .slice (some ⟨w.heap.size + 1 + 1, 0, none⟩) 1 1, .int .i64 0, .int .i64 0, .int .i64 0, .int .i64 0, .int .i64 0, .int .i64 0, .int .u8 0, .int .i64 12, .string { data := #[] }, .slice none 0 0, .int .i64 0, .int .i64 0, .string { data := #[] }, .slice none 0 0, .int .i64 0, .int .i64 0, .int .i64 0, .int .i64 0, .int .i64 0, .int .i64 0, .int .u8 0] 40) = W3) := by
    show _ = _
    rw [hW0, hW1, hW2, ← hW3]
    rfl
  rw [livePrint] at HP
  clear hW0 hW1 hW2 hW3 s0 s1 s2 b0 b1 o2 b3 k1 k2 k3
  go_enter Tryd.func10, Tryd.ntmps10
  go_wp2_with fail
  rw [HWE.out]
  refine HP.out.mono ?_
  rintro e w2 ⟨rfl, hk⟩
  have HK2 := Lib.hid (HK3.out.trans hk)
  clear hk
  simp only [liveS]
  go_wp2_with fail
  go_ret
  exact ⟨rfl, HK2.out⟩

end Go.Proofs.YthgenobbpaclhaaDoor
