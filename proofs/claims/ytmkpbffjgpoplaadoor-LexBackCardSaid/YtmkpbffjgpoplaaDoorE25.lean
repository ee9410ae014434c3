/- Two texts that the document fixes, scanned; live. -/
import Derived.Test.YtmkpbffjgpoplaaDoorE24
set_option linter.unusedVariables false
set_option linter.unusedSimpArgs false
set_option linter.unnecessarySimpa false
namespace Go.Proofs.YtmkpbffjgpoplaaDoor
open Go.RowKit Go.Shelf
attribute [local go_sem] Oper.semAt_some

def LT1 : ByteArray := { data := #[97, 60, 61, 45, 53, 32, 35, 32, 99] }
def LT2 : ByteArray := { data := #[97, 33] }
def T1a : TokD := ⟨1, { data := #[97] }, noV, 0⟩
def T1b : TokD := ⟨4, { data := #[60, 61] }, noV, 1⟩
def T1c : TokD := ⟨2, { data := #[45, 53] }, (1, -5, { data := #[] }), 3⟩
theorem parse_m5 : parseV { data := #[45, 53] } = ((1, -5, { data := #[] }), true) := by
  refine ParseRel.eq (.inl ⟨rfl, by decide, by decide, by decide, ?_⟩)
  unfold textV
  rw [if_pos rfl]
  simp [Lib.itoa, Lib.decDigits]
theorem word_a1 : wordO LT1 0 = some T1a := by
  unfold wordO
  rw [if_pos (by decide), if_pos (by decide)]
  rfl
theorem word_a2 : wordO LT1 1 = some T1b := by
  unfold wordO
  rw [if_neg (by decide), if_neg (by decide), if_neg (by decide), if_pos (by decide)]
  rfl
theorem word_a3 : wordO LT1 3 = some T1c := by
  have e : LT1.extract 3 (runV LT1 false (3 + 1)) = { data := #[45, 53] } := by decide
  unfold wordO
  rw [if_neg (by decide), if_pos (by decide), e, parse_m5]
  rfl
theorem word_b1 : wordO LT2 0 = some T1a := by
  unfold wordO
  rw [if_pos (by decide), if_pos (by decide)]
  rfl
theorem word_b2 : wordO LT2 1 = none := by
  unfold wordO
  rw [if_neg (by decide), if_neg (by decide), if_neg (by decide), if_neg (by decide), if_neg (by decide)]
theorem scan_l1 : scanV LT1 = ([T1a, T1b, T1c], 0, 0) := by
  have h0 := wordsV_step (s := LT1) (k := 0) (by decide) (by decide) (show wordO LT1 (blankV LT1 0) = some T1a from word_a1)
  have h1 := wordsV_step (s := LT1) (k := 1) (by decide) (by decide) (show wordO LT1 (blankV LT1 1) = some T1b from word_a2)
  have h2 := wordsV_step (s := LT1) (k := 3) (by decide) (by decide) (show wordO LT1 (blankV LT1 3) = some T1c from word_a3)
  have h3 := wordsV_none (s := LT1) (k := 5) (by decide) (fun h => absurd h (by decide))
  have e : wordsV LT1 0 = ([T1a, T1b, T1c], 9) := by
    rw [h0]
    show (T1a :: (wordsV LT1 1).1, (wordsV LT1 1).2) = _
    rw [h1]
    show (T1a :: T1b :: (wordsV LT1 3).1, (wordsV LT1 3).2) = _
    rw [h2]
    show (T1a :: T1b :: T1c :: (wordsV LT1 5).1, (wordsV LT1 5).2) = _
    rw [h3]
    rfl
  exact scanV_ok (n := 9) rfl (by decide) e (by decide)
theorem scan_l2 : scanV LT2 = ([], 1, 50) := by
  have h0 := wordsV_step (s := LT2) (k := 0) (by decide) (by decide) (show wordO LT2 (blankV LT2 0) = some T1a from word_b1)
  have h1 := wordsV_none (s := LT2) (k := 1) (by decide) (fun _ => word_b2)
  have e : wordsV LT2 0 = ([T1a], 1) := by
    rw [h0]
    show (T1a :: (wordsV LT2 1).1, (wordsV LT2 1).2) = _
    rw [h1]
    rfl
  exact scanV_bad (n := 2) rfl (by decide) e (by decide)

set_option maxRecDepth 100000 in
set_option maxHeartbeats 4000000 in
theorem live_any (w : World) (hv : Vars w) : Calls Tryd.prog 10 #[] w fun e w' => e = .returned (.bool true) ∧ Kept [] w w' := by
  go_enter Tryd.func10, Tryd.ntmps10
  go_wp2_with fail
  refine (lScan_any LT1 _ hv).mono ?_
  rintro e w1 ⟨v, rfl, hown, hk⟩
  rw [scan_l1] at hown ⊢
  have HK1 := Lib.hid hk
  have hv1 := hv.keep hk
  have hr := RdT.of_own hown (by decide)
  obtain ⟨A, c, rfl, _, hA⟩ := hr
  obtain ⟨b, rfl, hc⟩ := hA (by simp)
  have x1 := hc 1 T1b rfl 1 _ rfl
  have x2 := hc 2 T1c rfl 3 _ rfl
  have x3 := hc 2 T1c rfl 5 _ rfl
  simp only [T1b, T1c, Nat.reduceMul, Nat.reduceAdd, List.length_cons, List.length_nil] at x1 x2 x3
  have X1 := Lib.hid x1
  have X2 := Lib.hid x2
  have X3 := Lib.hid x3
  clear x1 x2 x3 hown hA hc hk
  simp only [List.length_cons, List.length_nil, Nat.reduceAdd]
  go_wp2_with fail
  refine (lScan_any LT2 _ hv1).mono ?_
  rintro e w2 ⟨v2, rfl, hown2, hk2⟩
  rw [scan_l2]
  have x1 := hk2.cell (by simp) X1.out
  have x2 := hk2.cell (by simp) X2.out
  have x3 := hk2.cell (by simp) X3.out
  have HK2 := Lib.hid (HK1.out.trans hk2)
  clear hown2 hk2
  have hsy : symV { data := #[62, 61] } = true := by decide
  go_wp2_with fail
  refine (lSymbol_any _ _).mono ?_
  rintro e w3 ⟨rfl, hk3⟩
  rw [hsy]
  go_wp2_with fail
  go_ret
  exact ⟨rfl, HK2.out.trans hk3⟩

end Go.Proofs.YtmkpbffjgpoplaaDoor
