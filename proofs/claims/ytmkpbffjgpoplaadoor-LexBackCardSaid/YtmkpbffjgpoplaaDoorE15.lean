/- Which symbol a text begins with: the plain law. -/
import Derived.Test.YtmkpbffjgpoplaaDoorRows
import Derived.WalkKit
import Derived.WalkSpells
import Derived.WalkLawsBesides
import Derived.Deep.QuietTactic
import Derived.BigQuiet
import Derived.Lib.Hide
import Derived.Lib.ConvBytes
import Derived.Deep.Slices
import Derived.ProofKit
import Derived.SizedLaws
import Derived.Test.YtmkpbffjgpoplaaDoorShelf
import Derived.Laws.BytesArg
import Derived.Laws.BitsLemmas
import Derived.Deep.RegionHeld3
import Derived.Deep.AppendLies
import Derived.Maps.AppendAt
import Derived.Lib.ItoaLen
import Derived.Laws.Runes
import Derived.Laws.Concat
import Derived.Laws.Cover4
import Derived.Lib.SmallJoins
import Derived.Laws.AppendOwnNone
import Derived.Deep.DeepCutAuto
import Derived.Test.YtmkpbffjgpoplaaDoorE14
import Derived.Test.YtmkpbffjgpoplaaDoorE4
set_option linter.unusedVariables false
set_option linter.unusedSimpArgs false
set_option linter.unnecessarySimpa false
namespace Go.Proofs.YtmkpbffjgpoplaaDoor
open Go.RowKit Go.Shelf

/-- The symbol with which a text begins. -/
def symO (s : ByteArray) : Option ByteArray := if 1 < s.size ∧ sym2 (byt s 0) (byt s 1) = true then some (s.extract 0 2) else if sym1 (byt s 0) = true then some (s.extract 0 1) else none
theorem list_get (s : ByteArray) {k : Nat} (h : k < s.size) : ∃ b, s.data.toList[k]? = some b ∧ byt s k = (b.toNat : Int) := by
  obtain ⟨b, h1, h2⟩ := drop_byt s h
  refine ⟨b, ?_, h2⟩
  have h3 := congrArg (fun l => l[0]?) h1
  simpa using h3
theorem extract_list (s : ByteArray) (k : Nat) : (s.extract 0 k).data.toList = s.data.toList.take k := by
  rw [ByteArray.data_extract]
  simp
theorem preB_iff (s x : ByteArray) : preB s x = true ↔ x.size ≤ s.size ∧ s.extract 0 x.size = x := by
  unfold preB Lib.hasPrefix
  rw [List.isPrefixOf_iff_prefix, List.prefix_iff_eq_take]
  have hx : x.data.toList.length = x.size := by rw [Array.length_toList]; rfl
  rw [hx, ← extract_list]
  constructor
  · intro h
    have h2 : s.extract 0 x.size = x := by apply ByteArray.ext; rw [← Array.toList_inj]; exact h.symm
    refine ⟨?_, h2⟩
    have h3 := congrArg ByteArray.size h2
    rw [ByteArray.size_extract] at h3
    omega
  · rintro ⟨_, h⟩
    rw [h]
theorem preB_one {s : ByteArray} (h0 : 0 < s.size) (a : UInt8) : preB s ⟨#[a]⟩ = true ↔ byt s 0 = (a.toNat : Int) := by
  rw [preB_iff]
  have e : (⟨#[a]⟩ : ByteArray).size = 1 := rfl
  have hb := byt_extract s 0 1 0 (by omega) (by omega)
  rw [e]
  constructor
  · rintro ⟨_, h⟩
    rw [h] at hb
    rw [← show 0 + 0 = 0 by omega, ← hb]
    rfl
  · intro h
    refine ⟨by omega, ?_⟩
    obtain ⟨b, hb2⟩ := one_of (s := s.extract 0 1) (by rw [size_extract s 0 1 (by omega) (by omega)])
    rw [hb2] at hb ⊢
    rw [byt_one, Nat.add_zero, h] at hb
    have : b = a := by apply UInt8.toNat_inj.1; omega
    rw [this]
theorem preB_two {s : ByteArray} (a b : UInt8) : preB s ⟨#[a, b]⟩ = true ↔ 1 < s.size ∧ byt s 0 = (a.toNat : Int) ∧ byt s 1 = (b.toNat : Int) := by
  rw [preB_iff]
  have e : (⟨#[a, b]⟩ : ByteArray).size = 2 := rfl
  rw [e]
  constructor
  · rintro ⟨h1, h⟩
    have hb := byt_extract s 0 2 0 (by omega) (by omega)
    have hc := byt_extract s 0 2 1 (by omega) (by omega)
    rw [h] at hb hc
    rw [(byt_two a b).1] at hb
    rw [(byt_two a b).2] at hc
    exact ⟨by omega, by rw [Nat.add_zero] at hb; exact hb.symm, by rw [Nat.zero_add] at hc; exact hc.symm⟩
  · rintro ⟨h1, h2, h3⟩
    refine ⟨by omega, ?_⟩
    have hb := byt_extract s 0 2 0 (by omega) (by omega)
    have hc := byt_extract s 0 2 1 (by omega) (by omega)
    obtain ⟨x, y, hxy⟩ := two_of (s := s.extract 0 2) (by rw [size_extract s 0 2 (by omega) (by omega)])
    rw [hxy] at hb hc ⊢
    rw [(byt_two x y).1, Nat.add_zero, h2] at hb
    rw [(byt_two x y).2, Nat.zero_add, h3] at hc
    have e1 : x = a := by apply UInt8.toNat_inj.1; omega
    have e2 : y = b := by apply UInt8.toNat_inj.1; omega
    rw [e1, e2]
theorem sym2_pre {s : ByteArray} (h : 1 < s.size ∧ sym2 (byt s 0) (byt s 1) = true) : preB s ⟨#[33, 61]⟩ = true ∨ preB s ⟨#[60, 61]⟩ = true ∨ preB s ⟨#[62, 61]⟩ = true := by
  obtain ⟨h1, h2⟩ := h
  unfold sym2 at h2
  simp only [Bool.and_eq_true, Bool.or_eq_true, decide_eq_true_eq] at h2
  obtain ⟨(h3 | h3) | h3, h4⟩ := h2
  · exact .inl ((preB_two _ _).2 ⟨h1, h3, h4⟩)
  · exact .inr (.inl ((preB_two _ _).2 ⟨h1, h3, h4⟩))
  · exact .inr (.inr ((preB_two _ _).2 ⟨h1, h3, h4⟩))
theorem symO_found {s : ByteArray} {i : Nat} (h0 : 0 < s.size) (hi : i < 16) (hp : preB s (symP.getD i ByteArray.empty) = true) (hno : ∀ j, j < i → preB s (symP.getD j ByteArray.empty) = false) : symO s = some (symP.getD i ByteArray.empty) := by
  have two : ∀ a : UInt8, sym2 (a.toNat : Int) 61 = true → preB s ⟨#[a, 61]⟩ = true → symO s = some ⟨#[a, 61]⟩ := by
    intro a ha hp
    have h := (preB_two _ _).1 hp
    have h2 := (preB_iff _ _).1 hp
    unfold symO
    rw [if_pos ⟨h.1, by rw [h.2.1, h.2.2]; exact ha⟩]
    exact congrArg some h2.2
  have one : ∀ a : UInt8, 3 ≤ i → sym1 (a.toNat : Int) = true → preB s ⟨#[a]⟩ = true → symO s = some ⟨#[a]⟩ := by
    intro a h3 ha hp
    have h := (preB_one h0 _).1 hp
    have h2 := (preB_iff _ _).1 hp
    unfold symO
    rw [if_neg, h, if_pos ha]
    · exact congrArg some h2.2
    · intro hx
      rcases sym2_pre hx with e | e | e
      · have := hno 0 (by omega); rw [show symP.getD 0 ByteArray.empty = ⟨#[33, 61]⟩ from rfl, e] at this; cases this
      · have := hno 1 (by omega); rw [show symP.getD 1 ByteArray.empty = ⟨#[60, 61]⟩ from rfl, e] at this; cases this
      · have := hno 2 (by omega); rw [show symP.getD 2 ByteArray.empty = ⟨#[62, 61]⟩ from rfl, e] at this; cases this
  match i, hi with
  | 0, _ => exact two 33 (by decide) hp
  | 1, _ => exact two 60 (by decide) hp
  | 2, _ => exact two 62 (by decide) hp
  | 3, _ => exact one 40 (by omega) (by decide) hp
  | 4, _ => exact one 41 (by omega) (by decide) hp
  | 5, _ => exact one 91 (by omega) (by decide) hp
  | 6, _ => exact one 93 (by omega) (by decide) hp
  | 7, _ => exact one 44 (by omega) (by decide) hp
  | 8, _ => exact one 46 (by omega) (by decide) hp
  | 9, _ => exact one 59 (by omega) (by decide) hp
  | 10, _ => exact one 38 (by omega) (by decide) hp
  | 11, _ => exact one 124 (by omega) (by decide) hp
  | 12, _ => exact one 58 (by omega) (by decide) hp
  | 13, _ => exact one 61 (by omega) (by decide) hp
  | 14, _ => exact one 60 (by omega) (by decide) hp
  | 15, _ => exact one 62 (by omega) (by decide) hp
  | m + 16, hm => exact absurd hm (by omega)
theorem symO_none {s : ByteArray} (h0 : 0 < s.size) (hno : ∀ j, j < 16 → preB s (symP.getD j ByteArray.empty) = false) : symO s = none := by
  unfold symO
  rw [if_neg, if_neg]
  · intro h
    unfold sym1 at h
    simp only [List.contains_eq_mem, List.mem_cons, List.not_mem_nil, or_false, decide_eq_true_eq] at h
    have key : ∀ (j : Nat) (a : UInt8), j < 16 → symP.getD j ByteArray.empty = ⟨#[a]⟩ → byt s 0 ≠ (a.toNat : Int) := by
      intro j a hj he hb
      have := hno j hj
      rw [he, (preB_one h0 a).2 hb] at this
      cases this
    rcases h with h | h | h | h | h | h | h | h | h | h | h | h | h
    · exact key 3 40 (by omega) rfl h
    · exact key 4 41 (by omega) rfl h
    · exact key 5 91 (by omega) rfl h
    · exact key 6 93 (by omega) rfl h
    · exact key 7 44 (by omega) rfl h
    · exact key 8 46 (by omega) rfl h
    · exact key 9 59 (by omega) rfl h
    · exact key 10 38 (by omega) rfl h
    · exact key 11 124 (by omega) rfl h
    · exact key 12 58 (by omega) rfl h
    · exact key 13 61 (by omega) rfl h
    · exact key 14 60 (by omega) rfl h
    · exact key 15 62 (by omega) rfl h
  · intro hx
    rcases sym2_pre hx with e | e | e
    · have := hno 0 (by omega); rw [show symP.getD 0 ByteArray.empty = ⟨#[33, 61]⟩ from rfl, e] at this; cases this
    · have := hno 1 (by omega); rw [show symP.getD 1 ByteArray.empty = ⟨#[60, 61]⟩ from rfl, e] at this; cases this
    · have := hno 2 (by omega); rw [show symP.getD 2 ByteArray.empty = ⟨#[62, 61]⟩ from rfl, e] at this; cases this

end Go.Proofs.YtmkpbffjgpoplaaDoor
