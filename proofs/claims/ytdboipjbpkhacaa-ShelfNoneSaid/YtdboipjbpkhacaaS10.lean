/- live. -/
import Derived.Test.YtdboipjbpkhacaaS8
set_option linter.unusedVariables false
set_option linter.unusedSimpArgs false
set_option linter.unnecessarySimpa false
namespace Go.Proofs.Ytdboipjbpkhacaa
open Go.RowKit Go.Shelf

theorem step_sh {w0 w w' : World} {F F' : List Nat} (hK : Kept [] w0 w) (hF : ∀ z ∈ F, w0.heap.size ≤ z) (hk : Kept F w w') (hF' : ∀ z ∈ F', z ∈ F ∨ w.heap.size ≤ z) : Kept [] w0 w' ∧ ∀ z ∈ F', w0.heap.size ≤ z :=
  ⟨hK.after hk hF, fun z hz => (hF' z hz).elim (hF z) (fun h => Nat.le_trans hK.size h)⟩
theorem step_take {w0 w w' : World} {F' : List Nat} {b : Nat} (hK : Kept [] w0 w) (hb : w0.heap.size ≤ b) (hk : Kept [b] w w') (hF' : ∀ z ∈ F', z = b ∨ w.heap.size ≤ z) : Kept [] w0 w' ∧ ∀ z ∈ F', w0.heap.size ≤ z :=
  ⟨hK.after hk (by simpa using hb), fun z hz => (hF' z hz).elim (fun h => h ▸ hb) (fun h => Nat.le_trans hK.size h)⟩

def sA : ByteArray := ⟨#[97]⟩
def sB : ByteArray := ⟨#[98]⟩
def sC : ByteArray := ⟨#[99]⟩
theorem live1 : putE 2 [] (1, 4, sA) = 0 ∧ putL 2 [] (1, 4, sA) = [(1, 4, sA)] := by
  have h : putE 2 [] (1, 4, sA) = 0 := by simp [putE, badSpan]
  exact ⟨h, by unfold putL; rw [h]; rfl⟩
theorem live2 : putE 2 [(1, 4, sA)] (3, 3, sB) = 0 ∧ putL 2 [(1, 4, sA)] (3, 3, sB) = [(1, 4, sA), (3, 3, sB)] := by
  have h : putE 2 [(1, 4, sA)] (3, 3, sB) = 0 := by simp [putE, badSpan]
  exact ⟨h, by unfold putL; rw [h]; rfl⟩
theorem live3 : putE 2 [(1, 4, sA), (3, 3, sB)] (0, 0, sC) = 6 ∧ putL 2 [(1, 4, sA), (3, 3, sB)] (0, 0, sC) = [(1, 4, sA), (3, 3, sB)] := by
  have h : putE 2 [(1, 4, sA), (3, 3, sB)] (0, 0, sC) = 6 := by simp [putE, badSpan]
  exact ⟨h, by unfold putL; rw [h]; rfl⟩
theorem live4 : textsOf (endsBelow 4) [(1, 4, sA), (3, 3, sB)] = [sB] := by simp [textsOf, endsBelow]
theorem live5 : leftOf (below 2) [(1, 4, sA), (3, 3, sB)] = [(3, 3, sB)] := by simp [leftOf, below]

set_option maxRecDepth 100000 in
set_option maxHeartbeats 4000000 in
theorem live_any (w : World) : Calls Try.prog 7 #[] w fun e w' => e = .returned (.bool true) ∧ Kept [] w w' := by
  go_enter Try.func7, Try.ntmps7
  go_wp2_with fail
  refine (new_any 2 _ (by omega)).mono ?_
  rintro e w1 ⟨rfl, hs1, hK1⟩
  obtain ⟨b, hb⟩ : ∃ b, w.heap.size = b := ⟨_, rfl⟩
  rw [hb] at hs1 ⊢
  have hF1 : ∀ z ∈ [b], w.heap.size ≤ z := by simp; omega
  have hbb : w.heap.size ≤ b := by omega
  clear hb
  go_wp2_with fail
  refine (put_any _ b 2 [] (1, 4, sA) _ hs1).mono ?_
  rintro e w2 ⟨rfl, hk2, F2, hs2, hF2⟩
  rw [live1.1]
  rw [live1.2] at hs2
  obtain ⟨hK2, hF2'⟩ := step_sh hK1 hF1 hk2 hF2
  clear hs1 hK1 hF1 hk2 hF2
  go_wp2_with fail
  refine (put_any _ b 2 _ (3, 3, sB) _ hs2).mono ?_
  rintro e w3 ⟨rfl, hk3, F3, hs3, hF3⟩
  rw [live2.1]
  rw [live2.2] at hs3
  obtain ⟨hK3, hF3'⟩ := step_sh hK2 hF2' hk3 hF3
  clear hs2 hK2 hF2' hk3 hF3
  go_wp2_with fail
  refine (put_any _ b 2 _ (0, 0, sC) _ hs3).mono ?_
  rintro e w4 ⟨rfl, hk4, F4, hs4, hF4⟩
  rw [live3.1]
  rw [live3.2] at hs4
  obtain ⟨hK4, hF4'⟩ := step_sh hK3 hF3' hk4 hF4
  clear hs3 hK3 hF3' hk4 hF4
  go_wp2_with fail
  refine (ending_any _ _ 4 _ hs4.src).mono ?_
  rintro e w5 ⟨v5, rfl, hit5, hk5⟩
  rw [live4] at hit5
  have hs5 := hs4.keep hk5
  have hK5 := hK4.trans hk5
  have hrd : RdS (w5.alloc (.cells #[.string sB] 9)) (.slice (some ⟨w5.heap.size, 0, none⟩) 1 1) [sB] :=
    ⟨_, _, rfl, by simp, fun _ => ⟨w5.heap.size, 0, rfl, fun i x hx => by
      rw [(Blk.new w5 _ _).cell]
      rcases i with _ | i
      · simp at hx; subst hx; rfl
      · simp at hx⟩⟩
  have hk6 := (Kept.refl [] w5).alloc (.cells #[.string sB] 9)
  have TO := Lib.hid (told_any v5 _ [sB] 0 _ (hit5.keep hk6) hrd)
  have hs6 := hs5.keep hk6
  have hK6 := hK5.trans hk6
  clear hs4 hK4 hk5 hk6 hrd hit5 hs5 hK5
  go_wp2_with fail
  refine TO.out.mono ?_
  rintro e w7 ⟨rfl, hk7⟩
  have hs7 := hs6.keep hk7
  have hK7 := hK6.trans hk7
  clear hs6 hK6 hk7
  go_wp2_with fail
  refine (clear_any _ b 2 _ 2 _ hs7).mono ?_
  rintro e w8 ⟨rfl, hk8, F8, hs8, hF8⟩
  rw [live5] at hs8 ⊢
  obtain ⟨hK8, hF8'⟩ := step_take hK7 hbb hk8 hF8
  clear hs7 hK7 hk8 hF8
  go_wp2_with fail
  refine (len_any _ b 2 _ _ hs8).mono ?_
  rintro e w' ⟨rfl, rfl⟩
  go_wp2_with fail
  go_ret
  exact ⟨rfl, hK8⟩

end Go.Proofs.Ytdboipjbpkhacaa
