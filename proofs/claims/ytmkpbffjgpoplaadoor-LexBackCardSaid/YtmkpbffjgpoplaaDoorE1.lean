/- Words of a text: the plain model. -/
import Derived.Test.YtmkpbffjgpoplaaDoorRows
import Derived.WalkKit
import Derived.WalkSpells
import Derived.WalkLawsBesides
import Derived.Deep.QuietTactic
import Derived.BigQuiet
import Derived.Lib.Hide
import Derived.Lib.ConvBytes
import Derived.Deep.Slices
import Derived.ProofKit
import Derived.SizedLaws
import Derived.Test.YtmkpbffjgpoplaaDoorShelf
import Derived.Laws.BytesArg
import Derived.Laws.BitsLemmas
import Derived.Deep.RegionHeld3
import Derived.Deep.AppendLies
import Derived.Maps.AppendAt
import Derived.Lib.ItoaLen
import Derived.Lib.SmallJoins
import Derived.Test.YtmkpbffjgpoplaaDoorX7
set_option linter.unusedVariables false
set_option linter.unusedSimpArgs false
set_option linter.unnecessarySimpa false
namespace Go.Proofs.YtmkpbffjgpoplaaDoor
open Go.RowKit Go.Shelf

/-- A blank. -/
def blkB (c : Int) : Bool := decide (c = 32) || decide (c = 9) || decide (c = 10) || decide (c = 13)
/-- The place behind blanks: r letters are left from k on; m: within a comment. -/
def blankGo (s : ByteArray) : Nat → Nat → Bool → Nat
  | 0, k, _ => k
  | r + 1, k, true => if byt s k = 10 then blankGo s r (k + 1) false else blankGo s r (k + 1) true
  | r + 1, k, false => if blkB (byt s k) = true then blankGo s r (k + 1) false else if byt s k = 35 then blankGo s r (k + 1) true else k
def blankV (s : ByteArray) (k : Nat) : Nat := blankGo s (s.size - k) k false
theorem blankGo_bd (s : ByteArray) : ∀ (r k : Nat) (m : Bool), k ≤ blankGo s r k m ∧ blankGo s r k m ≤ k + r
  | 0, k, _ => by simp [blankGo]
  | r + 1, k, true => by
    rw [blankGo]
    have h1 := blankGo_bd s r (k + 1) false
    have h2 := blankGo_bd s r (k + 1) true
    split <;> omega
  | r + 1, k, false => by
    rw [blankGo]
    have h1 := blankGo_bd s r (k + 1) false
    have h2 := blankGo_bd s r (k + 1) true
    split
    · omega
    · split <;> omega
theorem blankV_bd (s : ByteArray) {k : Nat} (h : k ≤ s.size) : k ≤ blankV s k ∧ blankV s k ≤ s.size := by
  have := blankGo_bd s (s.size - k) k false
  unfold blankV
  omega
theorem blankGo_stop (s : ByteArray) : ∀ (r k : Nat) (m : Bool), k + r = s.size → blankGo s r k m < s.size → blkB (byt s (blankGo s r k m)) = false ∧ byt s (blankGo s r k m) ≠ 35
  | 0, k, _, h, h2 => by rw [blankGo] at h2; omega
  | r + 1, k, true, h, h2 => by
    rw [blankGo] at h2 ⊢
    split
    · rename_i e; rw [if_pos e] at h2; exact blankGo_stop s r (k + 1) false (by omega) h2
    · rename_i e; rw [if_neg e] at h2; exact blankGo_stop s r (k + 1) true (by omega) h2
  | r + 1, k, false, h, h2 => by
    rw [blankGo] at h2 ⊢
    split
    · rename_i e; rw [if_pos e] at h2; exact blankGo_stop s r (k + 1) false (by omega) h2
    · rename_i e
      rw [if_neg e] at h2
      split
      · rename_i e2; rw [if_pos e2] at h2; exact blankGo_stop s r (k + 1) true (by omega) h2
      · rename_i e2; exact ⟨by simpa using e, e2⟩

/-- The place behind letters and digits. -/
def runGo (s : ByteArray) (l : Bool) : Nat → Nat → Nat
  | 0, k => k
  | r + 1, k => if (digitV (byt s k) || (l && letterV (byt s k))) = true then runGo s l r (k + 1) else k
def runV (s : ByteArray) (l : Bool) (k : Nat) : Nat := runGo s l (s.size - k) k
theorem runGo_bd (s : ByteArray) (l : Bool) : ∀ (r k : Nat), k ≤ runGo s l r k ∧ runGo s l r k ≤ k + r
  | 0, k => by simp [runGo]
  | r + 1, k => by
    rw [runGo]
    have h1 := runGo_bd s l r (k + 1)
    split <;> omega
theorem runV_bd (s : ByteArray) (l : Bool) {k : Nat} (h : k ≤ s.size) : k ≤ runV s l k ∧ runV s l k ≤ s.size := by
  have := runGo_bd s l (s.size - k) k
  unfold runV
  omega
/-- The place behind a string that is open; r letters are left from k on. -/
def closGo (s : ByteArray) : Nat → Nat → Option Nat
  | 0, _ => none
  | 1, k => if byt s k = 34 then some (k + 1) else none
  | r + 2, k => if byt s k = 92 then closGo s r (k + 2) else if byt s k = 34 then some (k + 1) else closGo s (r + 1) (k + 1)
theorem closGo_bd (s : ByteArray) : ∀ (r k e : Nat), closGo s r k = some e → k + 1 ≤ e ∧ e ≤ k + r
  | 0, k, e, h => by simp [closGo] at h
  | 1, k, e, h => by
    rw [closGo] at h
    split at h
    · injection h with h; omega
    · cases h
  | r + 2, k, e, h => by
    rw [closGo] at h
    split at h
    · have := closGo_bd s r (k + 2) e h; omega
    · split at h
      · injection h with h; omega
      · have := closGo_bd s (r + 1) (k + 1) e h; omega
def sym1 (c : Int) : Bool := [40, 41, 91, 93, 44, 46, 59, 38, 124, 58, 61, 60, 62].contains c
def sym2 (c d : Int) : Bool := (decide (c = 33) || decide (c = 60) || decide (c = 62)) && decide (d = 61)

open Classical in
/-- What a text says. -/
noncomputable def parseV (s : ByteArray) : ValD × Bool := if h : ∃ v, Says s v then (h.choose, true) else ((0, 0, { data := #[] }), false)
theorem ParseRel.eq {s : ByteArray} {v : ValD} {b : Bool} (h : ParseRel s v b) : parseV s = (v, b) := by
  unfold parseV
  split
  · rename_i hx
    obtain ⟨e1, e2⟩ := h.one (.inl ⟨rfl, hx.choose_spec⟩)
    rw [e1, e2]
  · rename_i hx
    rcases h with ⟨rfl, h⟩ | ⟨rfl, rfl, h⟩
    · exact absurd ⟨v, h⟩ hx
    · rfl

/-- A word: what it is, its text, its value, its place. -/
structure TokD where
  kind : Int
  text : ByteArray
  val : ValD
  place : Int
def noV : ValD := (0, 0, { data := #[] })
/-- The word at a place where no blank is. -/
noncomputable def wordO (s : ByteArray) (k : Nat) : Option TokD :=
  if letterV (byt s k) = true then
    (if nameV (s.extract k (runV s true k)) = true then some ⟨1, s.extract k (runV s true k), noV, k⟩ else none)
  else if digitV (byt s k) = true ∨ (byt s k = 45 ∧ k + 1 < s.size ∧ digitV (byt s (k + 1)) = true) then
    (if (parseV (s.extract k (runV s false (k + 1)))).2 = true then some ⟨2, s.extract k (runV s false (k + 1)), (parseV (s.extract k (runV s false (k + 1)))).1, k⟩ else none)
  else if byt s k = 34 then
    (match closGo s (s.size - (k + 1)) (k + 1) with
    | none => none
    | some e => if (parseV (s.extract k e)).2 = true then some ⟨3, s.extract k e, (parseV (s.extract k e)).1, k⟩ else none)
  else if k + 1 < s.size ∧ sym2 (byt s k) (byt s (k + 1)) = true then some ⟨4, s.extract k (k + 2), noV, k⟩
  else if sym1 (byt s k) = true then some ⟨4, s.extract k (k + 1), noV, k⟩
  else none
theorem wordO_text {s : ByteArray} {k : Nat} {t : TokD} (hk : k < s.size) (h : wordO s k = some t) : t.place = k ∧ 1 ≤ t.text.size ∧ k + t.text.size ≤ s.size ∧ t.text = s.extract k (k + t.text.size) := by
  have key : ∀ e, k + 1 ≤ e → e ≤ s.size → 1 ≤ (s.extract k e).size ∧ k + (s.extract k e).size ≤ s.size ∧ s.extract k e = s.extract k (k + (s.extract k e).size) := by
    intro e h1 h2
    have hz := size_extract s k e (by omega) h2
    rw [hz]
    refine ⟨by omega, by omega, ?_⟩
    congr 1
    omega
  unfold wordO at h
  split at h
  · have hb : k + 1 ≤ runV s true k := by
      rename_i hl
      unfold runV
      rw [show s.size - k = (s.size - (k + 1)) + 1 by omega, runGo, if_pos (by rw [hl]; simp)]
      exact (runGo_bd s true _ (k + 1)).1
    split at h
    · injection h with h
      subst h
      exact ⟨rfl, key _ hb (runV_bd s true (by omega)).2⟩
    · cases h
  · split at h
    · have hb := runV_bd s false (k := k + 1) (by omega)
      split at h
      · injection h with h
        subst h
        exact ⟨rfl, key _ hb.1 hb.2⟩
      · cases h
    · split at h
      · split at h
        · cases h
        · rename_i e he
          have hb := closGo_bd s _ _ _ he
          split at h
          · injection h with h
            subst h
            exact ⟨rfl, key _ (by omega) (by omega)⟩
          · cases h
      · split at h
        · rename_i hs
          injection h with h
          subst h
          exact ⟨rfl, key _ (by omega) (by omega)⟩
        · split at h
          · injection h with h
            subst h
            exact ⟨rfl, key _ (by omega) (by omega)⟩
          · cases h

/-- The words from a place on, and the place at which no more stands; f: no more words than that. -/
noncomputable def wordsGo (s : ByteArray) : Nat → Nat → List TokD × Nat
  | 0, k => ([], blankV s k)
  | f + 1, k => if blankV s k < s.size then
      (match wordO s (blankV s k) with
      | none => ([], blankV s k)
      | some t => (t :: (wordsGo s f (blankV s k + t.text.size)).1, (wordsGo s f (blankV s k + t.text.size)).2))
    else ([], blankV s k)
noncomputable def wordsV (s : ByteArray) (k : Nat) : List TokD × Nat := wordsGo s (s.size + 1 - k) k
theorem wordsGo_fuel (s : ByteArray) : ∀ (f g k : Nat), k ≤ s.size → s.size + 1 - k ≤ f → s.size + 1 - k ≤ g → wordsGo s f k = wordsGo s g k
  | 0, g, k, hk, hf, hg => by omega
  | f + 1, 0, k, hk, hf, hg => by omega
  | f + 1, g + 1, k, hk, hf, hg => by
    rw [wordsGo, wordsGo]
    split
    · rename_i hb
      cases ho : wordO s (blankV s k) with
      | none => rfl
      | some t =>
        have ht := wordO_text hb ho
        have hbb := blankV_bd s hk
        simp only
        rw [wordsGo_fuel s f g (blankV s k + t.text.size) ht.2.2.1 (by omega) (by omega)]
    · rfl
theorem wordsV_step {s : ByteArray} {k : Nat} {t : TokD} (hk : k ≤ s.size) (hb : blankV s k < s.size) (ho : wordO s (blankV s k) = some t) : wordsV s k = (t :: (wordsV s (blankV s k + t.text.size)).1, (wordsV s (blankV s k + t.text.size)).2) := by
  have ht := wordO_text hb ho
  have hbb := blankV_bd s hk
  have e : wordsGo s (s.size + 1 - k) k = wordsGo s ((s.size - k) + 1) k := by congr 1; omega
  have e2 := wordsGo_fuel s (s.size - k) (s.size + 1 - (blankV s k + t.text.size)) (blankV s k + t.text.size) ht.2.2.1 (by omega) (by omega)
  unfold wordsV
  rw [e, wordsGo, if_pos hb, ho]
  simp only
  rw [e2]
theorem wordsV_none {s : ByteArray} {k : Nat} (hk : k ≤ s.size) (ho : blankV s k < s.size → wordO s (blankV s k) = none) : wordsV s k = ([], blankV s k) := by
  have e : wordsGo s (s.size + 1 - k) k = wordsGo s ((s.size - k) + 1) k := by congr 1; omega
  unfold wordsV
  rw [e, wordsGo]
  split
  · rename_i hb
    rw [ho hb]
  · rfl

end Go.Proofs.YtmkpbffjgpoplaaDoor
