/- What a text says: the plain laws. -/
import Derived.Test.YthgenobbpaclhaaDoorRows
import Derived.WalkKit
import Derived.WalkSpells
import Derived.WalkLawsBesides
import Derived.Deep.QuietTactic
import Derived.BigQuiet
import Derived.Lib.Hide
import Derived.Lib.ConvBytes
import Derived.Deep.Slices
import Derived.ProofKit
import Derived.SizedLaws
import Derived.Test.YthgenobbpaclhaaDoorShelf
import Derived.Laws.BytesArg
import Derived.Laws.BitsLemmas
import Derived.Deep.RegionHeld3
import Derived.Deep.AppendLies
import Derived.Maps.AppendAt
import Derived.Lib.ItoaLen
import Derived.Lib.SmallJoins
import Derived.Test.YthgenobbpaclhaaDoorX5
set_option linter.unusedVariables false
set_option linter.unusedSimpArgs false
set_option linter.unnecessarySimpa false
namespace Go.Proofs.YthgenobbpaclhaaDoor
open Go.RowKit Go.Shelf
attribute [local go_sem] Oper.semAt_some

/-- v may be, and s is its text. -/
def Says (s : ByteArray) (v : ValD) : Prop := okV v = true ∧ -9223372036854775808 ≤ v.2.1 ∧ v.2.1 ≤ 9223372036854775807 ∧ textV v = s
def ParseRel (s : ByteArray) (v : ValD) (b : Bool) : Prop := (b = true ∧ Says s v) ∨ (b = false ∧ v = (0, 0, { data := #[] }) ∧ ∀ v', ¬ Says s v')
theorem esc_inj : ∀ (X Y : List Int), X.flatMap escI ++ [34] = Y.flatMap escI ++ [34] → (∀ c ∈ X, 0 ≤ c ∧ c < 256) → (∀ c ∈ Y, 0 ≤ c ∧ c < 256) → X = Y
  | [], [], _, _, _ => rfl
  | [], y :: ys, h, _, _ => by
    have := congrArg List.length h
    rw [List.flatMap_cons] at this
    have hp : 0 < (escI y).length := by
      unfold escI
      split
      · simp
      · split <;> simp
    simp at this
    omega
  | x :: xs, [], h, _, _ => by
    have := congrArg List.length h
    rw [List.flatMap_cons] at this
    have hp : 0 < (escI x).length := by
      unfold escI
      split
      · simp
      · split <;> simp
    simp at this
    omega
  | x :: xs, y :: ys, h, hX, hY => by
    have ih := esc_inj xs ys
    have bx := hX x (by simp)
    have by_ := hY y (by simp)
    have iX : ∀ c ∈ xs, 0 ≤ c ∧ c < 256 := fun c hc => hX c (by simp [hc])
    have iY : ∀ c ∈ ys, 0 ≤ c ∧ c < 256 := fun c hc => hY c (by simp [hc])
    rw [List.flatMap_cons, List.flatMap_cons, List.append_assoc, List.append_assoc] at h
    obtain ⟨R, hR⟩ : ∃ R, xs.flatMap escI ++ [34] = R := ⟨_, rfl⟩
    obtain ⟨T, hT⟩ : ∃ T, ys.flatMap escI ++ [34] = T := ⟨_, rfl⟩
    rw [hR, hT] at h
    have key : x = y ∧ R = T := by
      unfold escI at h
      by_cases a1 : x = 34 ∨ x = 92
      · rw [if_pos a1] at h
        by_cases b1 : y = 34 ∨ y = 92
        · rw [if_pos b1] at h
          simp only [List.cons_append, List.nil_append, List.cons.injEq, true_and] at h
          exact h
        · rw [if_neg b1] at h
          by_cases b2 : y < 32 ∨ 126 < y
          · rw [if_pos b2] at h
            simp only [List.cons_append, List.nil_append, List.cons.injEq, true_and] at h
            omega
          · rw [if_neg b2] at h
            simp only [List.cons_append, List.nil_append, List.cons.injEq, true_and] at h
            omega
      · rw [if_neg a1] at h
        by_cases a2 : x < 32 ∨ 126 < x
        · rw [if_pos a2] at h
          by_cases b1 : y = 34 ∨ y = 92
          · rw [if_pos b1] at h
            simp only [List.cons_append, List.nil_append, List.cons.injEq, true_and] at h
            omega
          · rw [if_neg b1] at h
            by_cases b2 : y < 32 ∨ 126 < y
            · rw [if_pos b2] at h
              simp only [List.cons_append, List.nil_append, List.cons.injEq, true_and] at h
              have e1 := hexI_un _ _ (by omega) (by omega) (by omega) (by omega) h.1
              have e2 := hexI_un _ _ (by omega) (by omega) (by omega) (by omega) h.2.1
              exact ⟨by omega, h.2.2⟩
            · rw [if_neg b2] at h
              simp only [List.cons_append, List.nil_append, List.cons.injEq, true_and] at h
              omega
        · rw [if_neg a2] at h
          by_cases b1 : y = 34 ∨ y = 92
          · rw [if_pos b1] at h
            simp only [List.cons_append, List.nil_append, List.cons.injEq, true_and] at h
            omega
          · rw [if_neg b1] at h
            by_cases b2 : y < 32 ∨ 126 < y
            · rw [if_pos b2] at h
              simp only [List.cons_append, List.nil_append, List.cons.injEq, true_and] at h
              omega
            · rw [if_neg b2] at h
              simp only [List.cons_append, List.nil_append, List.cons.injEq, true_and] at h
              exact h
    obtain ⟨rfl, hRT⟩ := key
    rw [ih (by rw [hR, hT, hRT]) iX iY]
theorem quote_inj {a b : ByteArray} (h : strOfNums (quoteI a) = strOfNums (quoteI b)) : a = b := by
  have h2 := congrArg bI h
  rw [bI_nums _ (quoteI_byte a), bI_nums _ (quoteI_byte b), quoteI_eq, quoteI_eq] at h2
  simp only [List.cons.injEq, true_and] at h2
  exact bI_inj (esc_inj _ _ h2 (bI_byte a) (bI_byte b))
theorem okV_ways {v : ValD} (h : okV v = true) : (v.1 = 1 ∧ v.2.2 = { data := #[] }) ∨ (v.1 = 2 ∧ v.2.1 = 0 ∧ v.2.2.size ≤ 64) := by
  unfold okV at h
  simp at h
  rcases h with ⟨h1, h2⟩ | h
  · exact .inl ⟨h1, h2⟩
  · exact .inr h
theorem textV_int {v : ValD} (h : v.1 = 1) : textV v = ⟨(Lib.itoa v.2.1).toArray⟩ := by unfold textV; rw [if_pos h]
theorem textV_str {v : ValD} (h : v.1 = 2) : textV v = strOfNums (quoteI v.2.2) := by unfold textV; rw [if_neg (by omega), if_pos h]
theorem quote_head (s : ByteArray) : ∃ r, (strOfNums (quoteI s)).data.toList = 34 :: r := by
  rw [strOfNums_data, quoteI_eq]
  exact ⟨_, rfl⟩
theorem says_int {s : ByteArray} {v : ValD} (h : Says s v) (hv : v.1 = 1) : Lib.parseIntB 64 s.data.toList = .ok v.2.1 := by
  obtain ⟨_, h0, h1, rfl⟩ := h
  rw [textV_int hv]
  have e : (⟨(Lib.itoa v.2.1).toArray⟩ : ByteArray).data.toList = Lib.itoa v.2.1 := by simp
  rw [e]
  exact parse_itoa _ h0 h1
theorem says_str {s : ByteArray} {v : ValD} (h : Says s v) (hv : v.1 = 2) : Lib.parseIntB 64 s.data.toList = .syntax ∧ bI s = 34 :: ((bI v.2.2).flatMap escI ++ [34]) := by
  obtain ⟨_, h0, h1, rfl⟩ := h
  rw [textV_str hv]
  obtain ⟨r, hr⟩ := quote_head v.2.2
  rw [hr]
  refine ⟨parse_quote r, ?_⟩
  rw [bI_nums _ (quoteI_byte _), quoteI_eq]
theorem says_one {s : ByteArray} {v v' : ValD} (h : Says s v) (h' : Says s v') : v = v' := by
  obtain ⟨k, n, t⟩ := v
  obtain ⟨k', n', t'⟩ := v'
  rcases okV_ways h.1 with ⟨e1, e2⟩ | ⟨e1, e2, _⟩
  · rcases okV_ways h'.1 with ⟨f1, f2⟩ | ⟨f1, f2, _⟩
    · have a := says_int h e1
      have b := says_int h' f1
      rw [a] at b
      injection b with b
      simp only at e1 e2 f1 f2 b
      rw [e1, e2, f1, f2, b]
    · have a := says_int h e1
      have b := (says_str h' f1).1
      rw [a] at b
      cases b
  · rcases okV_ways h'.1 with ⟨f1, f2⟩ | ⟨f1, f2, _⟩
    · have a := (says_str h e1).1
      have b := says_int h' f1
      rw [a] at b
      cases b
    · have a := h.2.2.2
      have b := h'.2.2.2
      rw [textV_str e1] at a
      rw [textV_str f1] at b
      have c := quote_inj (a.trans b.symm)
      simp only at e1 e2 f1 f2 c
      rw [e1, e2, f1, f2, c]
theorem ParseRel.one {s : ByteArray} {v v' : ValD} {b b' : Bool} (h : ParseRel s v b) (h' : ParseRel s v' b') : v = v' ∧ b = b' := by
  rcases h with ⟨rfl, h⟩ | ⟨rfl, rfl, h⟩
  · rcases h' with ⟨rfl, h'⟩ | ⟨rfl, rfl, h'⟩
    · exact ⟨says_one h h', rfl⟩
    · exact absurd h (h' v)
  · rcases h' with ⟨rfl, h'⟩ | ⟨rfl, rfl, h'⟩
    · exact absurd h' (h v')
    · exact ⟨rfl, rfl⟩
/-- The only one that may be said is v: what is found by asking v alone. -/
theorem ParseRel.asks {s : ByteArray} {v : ValD} (h0 : -9223372036854775808 ≤ v.2.1) (h1 : v.2.1 ≤ 9223372036854775807) (h : ∀ v', Says s v' → v' = v) :
    (okV v = true → textV v = s → ParseRel s v true) ∧ ((okV v = false ∨ textV v ≠ s) → ParseRel s (0, 0, { data := #[] }) false) :=
  ⟨fun a b => .inl ⟨rfl, a, h0, h1, b⟩, fun a => .inr ⟨rfl, rfl, fun v' hv' => by
    have e := h v' hv'
    subst e
    rcases a with a | a
    · rw [hv'.1] at a; cases a
    · exact a hv'.2.2.2⟩⟩

end Go.Proofs.YthgenobbpaclhaaDoor
