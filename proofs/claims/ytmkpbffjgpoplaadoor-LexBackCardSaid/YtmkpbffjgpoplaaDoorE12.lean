/- A text's words, seen from a place on: the plain laws. -/
import Derived.Test.YtmkpbffjgpoplaaDoorRows
import Derived.WalkKit
import Derived.WalkSpells
import Derived.WalkLawsBesides
import Derived.Deep.QuietTactic
import Derived.BigQuiet
import Derived.Lib.Hide
import Derived.Lib.ConvBytes
import Derived.Deep.Slices
import Derived.ProofKit
import Derived.SizedLaws
import Derived.Test.YtmkpbffjgpoplaaDoorShelf
import Derived.Laws.BytesArg
import Derived.Laws.BitsLemmas
import Derived.Deep.RegionHeld3
import Derived.Deep.AppendLies
import Derived.Maps.AppendAt
import Derived.Lib.ItoaLen
import Derived.Laws.Runes
import Derived.Laws.Concat
import Derived.Laws.Cover4
import Derived.Lib.SmallJoins
import Derived.Laws.AppendOwnNone
import Derived.Deep.DeepCutAuto
import Derived.Test.YtmkpbffjgpoplaaDoorD3
import Derived.Test.YtmkpbffjgpoplaaDoorE3
set_option linter.unusedVariables false
set_option linter.unusedSimpArgs false
set_option linter.unnecessarySimpa false
namespace Go.Proofs.YtmkpbffjgpoplaaDoor
open Go.RowKit Go.Shelf

/-- The text from a place on. -/
theorem byt_from (s : ByteArray) {k i : Nat} (h : k + i < s.size) : byt (s.extract k s.size) i = byt s (k + i) := byt_extract s k s.size i h (Nat.le_refl _)
theorem size_from (s : ByteArray) {k : Nat} (h : k ≤ s.size) : (s.extract k s.size).size = s.size - k := size_extract s k s.size h (Nat.le_refl _)
theorem runGo_from (s : ByteArray) (l : Bool) (k : Nat) : ∀ (r i : Nat), k + i + r = s.size → k + runGo (s.extract k s.size) l r i = runGo s l r (k + i)
  | 0, i, h => by rw [runGo, runGo]
  | r + 1, i, h => by
    have hb := byt_from s (k := k) (i := i) (by omega)
    rw [runGo, runGo, hb]
    split
    · have := runGo_from s l k r (i + 1) (by omega)
      rw [show k + (i + 1) = k + i + 1 by omega] at this
      exact this
    · rfl
theorem runV_from (s : ByteArray) (l : Bool) {k i : Nat} (h : k + i ≤ s.size) : k + runV (s.extract k s.size) l i = runV s l (k + i) := by
  unfold runV
  rw [size_from s (by omega), show s.size - k - i = s.size - (k + i) by omega]
  exact runGo_from s l k _ i (by omega)
theorem closGo_from (s : ByteArray) (k : Nat) : ∀ (r i : Nat), k + i + r = s.size → (closGo (s.extract k s.size) r i).map (k + ·) = closGo s r (k + i)
  | 0, i, h => by rw [closGo, closGo]; rfl
  | 1, i, h => by
    have hb := byt_from s (k := k) (i := i) (by omega)
    rw [closGo, closGo, hb]
    split
    · rfl
    · rfl
  | r + 2, i, h => by
    have hb := byt_from s (k := k) (i := i) (by omega)
    rw [closGo, closGo, hb]
    split
    · have := closGo_from s k r (i + 2) (by omega)
      rw [show k + (i + 2) = k + i + 2 by omega] at this
      exact this
    · split
      · rfl
      · have := closGo_from s k (r + 1) (i + 1) (by omega)
        rw [show k + (i + 1) = k + i + 1 by omega] at this
        exact this
theorem extract_from (s : ByteArray) {k a b : Nat} (h : k + b ≤ s.size) (hab : a ≤ b) : (s.extract k s.size).extract a b = s.extract (k + a) (k + b) := by
  apply ByteArray.ext
  rw [ByteArray.data_extract, ByteArray.data_extract, ByteArray.data_extract, Array.extract_extract]
  have : min (k + b) s.size = k + b := by omega
  rw [this]
/-- A word's place turned. -/
def TokD.at0 (t : TokD) (p : Int) : TokD := { t with place := p }
/-- The word at a place is the first of the text from there on. -/
theorem wordO_from (s : ByteArray) {k : Nat} (hk : k < s.size) : wordO s k = (wordO (s.extract k s.size) 0).map fun t => t.at0 k := by
  have h0 := byt_from s (k := k) (i := 0) (by omega)
  rw [Nat.add_zero] at h0
  have hz := size_from s (k := k) (by omega)
  have e1 : (s.extract k s.size).extract 0 (runV (s.extract k s.size) true 0) = s.extract k (runV s true k) := by
    have hr := runV_from s true (k := k) (i := 0) (by omega)
    have hb := runV_bd (s.extract k s.size) true (k := 0) (by omega)
    rw [extract_from s (by omega) hb.1, Nat.add_zero, hr, Nat.add_zero]
  have e2 : (s.extract k s.size).extract 0 (runV (s.extract k s.size) false (0 + 1)) = s.extract k (runV s false (k + 1)) := by
    have hr := runV_from s false (k := k) (i := 0 + 1) (by omega)
    have hb := runV_bd (s.extract k s.size) false (k := 0 + 1) (by omega)
    rw [extract_from s (by omega) (by omega), Nat.add_zero, hr]
  have e3 : 0 + 1 < (s.extract k s.size).size ↔ k + 1 < s.size := by omega
  have e4 : k + 1 < s.size → byt (s.extract k s.size) (0 + 1) = byt s (k + 1) := fun h => byt_from s h
  have e5 : k + 1 < s.size → (s.extract k s.size).extract 0 (0 + 2) = s.extract k (k + 2) := fun h => by rw [extract_from s (by omega) (by omega), Nat.add_zero]
  have e6 : (s.extract k s.size).extract 0 (0 + 1) = s.extract k (k + 1) := by rw [extract_from s (by omega) (by omega), Nat.add_zero]
  have e7 := closGo_from s k (s.size - (k + 1)) (0 + 1) (by omega)
  unfold wordO
  rw [h0, e1, e2, e6]
  by_cases c1 : letterV (byt s k) = true
  · rw [if_pos c1, if_pos c1]
    split <;> rfl
  · rw [if_neg c1, if_neg c1]
    have hd : (digitV (byt s k) = true ∨ byt s k = 45 ∧ 0 + 1 < (s.extract k s.size).size ∧ digitV (byt (s.extract k s.size) (0 + 1)) = true) ↔ (digitV (byt s k) = true ∨ byt s k = 45 ∧ k + 1 < s.size ∧ digitV (byt s (k + 1)) = true) := by
      constructor
      · rintro (h | ⟨a, b, c⟩)
        · exact .inl h
        · exact .inr ⟨a, e3.1 b, by rw [← e4 (e3.1 b)]; exact c⟩
      · rintro (h | ⟨a, b, c⟩)
        · exact .inl h
        · exact .inr ⟨a, e3.2 b, by rw [e4 b]; exact c⟩
    by_cases c2 : digitV (byt s k) = true ∨ byt s k = 45 ∧ k + 1 < s.size ∧ digitV (byt s (k + 1)) = true
    · rw [if_pos c2, if_pos (hd.2 c2)]
      split <;> rfl
    · rw [if_neg c2, if_neg (fun h => c2 (hd.1 h))]
      by_cases c3 : byt s k = 34
      · rw [if_pos c3, if_pos c3]
        have e8 : (s.extract k s.size).size - (0 + 1) = s.size - (k + 1) := by omega
        rw [e8]
        rw [show k + (0 + 1) = k + 1 by omega] at e7
        rw [← e7]
        cases hcl : closGo (s.extract k s.size) (s.size - (k + 1)) (0 + 1) with
        | none => rfl
        | some e =>
          have hb := closGo_bd _ _ _ _ hcl
          have hx : (s.extract k s.size).extract 0 e = s.extract k (k + e) := by rw [extract_from s (by omega) (by omega), Nat.add_zero]
          simp only [Option.map_some]
          rw [hx]
          split <;> rfl
      · rw [if_neg c3, if_neg c3]
        have hs : (0 + 1 < (s.extract k s.size).size ∧ sym2 (byt s k) (byt (s.extract k s.size) (0 + 1)) = true) ↔ (k + 1 < s.size ∧ sym2 (byt s k) (byt s (k + 1)) = true) := by
          constructor
          · rintro ⟨a, b⟩
            exact ⟨e3.1 a, by rw [← e4 (e3.1 a)]; exact b⟩
          · rintro ⟨a, b⟩
            exact ⟨e3.2 a, by rw [e4 a]; exact b⟩
        by_cases c4 : k + 1 < s.size ∧ sym2 (byt s k) (byt s (k + 1)) = true
        · rw [if_pos c4, if_pos (hs.2 c4), e5 c4.1]
          rfl
        · rw [if_neg c4, if_neg (mt hs.1 c4)]
          split <;> rfl

end Go.Proofs.YtmkpbffjgpoplaaDoor
