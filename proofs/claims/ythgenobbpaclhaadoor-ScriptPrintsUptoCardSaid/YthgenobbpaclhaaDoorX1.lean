/- A text in quotes, taken apart: the plain laws. -/
import Derived.Test.YthgenobbpaclhaaDoorRows
import Derived.WalkKit
import Derived.WalkSpells
import Derived.WalkLawsBesides
import Derived.Deep.QuietTactic
import Derived.BigQuiet
import Derived.Lib.Hide
import Derived.Lib.ConvBytes
import Derived.Deep.Slices
import Derived.ProofKit
import Derived.SizedLaws
import Derived.Test.YthgenobbpaclhaaDoorShelf
import Derived.Laws.BytesArg
import Derived.Laws.BitsLemmas
import Derived.Deep.RegionHeld3
import Derived.Deep.AppendLies
import Derived.Maps.AppendAt
import Derived.Test.YthgenobbpaclhaaDoorV5
set_option linter.unusedVariables false
set_option linter.unusedSimpArgs false
namespace Go.Proofs.YthgenobbpaclhaaDoor
open Go.RowKit

/-- A string's bytes. -/
def bI (s : ByteArray) : List Int := s.data.toList.map fun b => (b.toNat : Int)
theorem bI_len (s : ByteArray) : (bI s).length = s.size := by unfold bI; rw [List.length_map, Array.length_toList]; rfl
theorem byt_bI (s : ByteArray) (k : Nat) : byt s k = (bI s).getD k 0 := by
  unfold byt bI
  by_cases h : k < s.data.toList.length
  · simp [List.getD, List.getElem?_eq_getElem h]
  · simp [List.getD, List.getElem?_eq_none (Nat.le_of_not_lt h)]
theorem bI_get (s : ByteArray) (k : Nat) (h : k < s.size) : (bI s)[k]? = some (byt s k) := by
  rw [byt_bI, List.getD, List.getElem?_eq_getElem (by rw [bI_len]; exact h)]
  rfl
theorem bI_byte (s : ByteArray) : ∀ c ∈ bI s, 0 ≤ c ∧ c < 256 := by
  intro c hc
  unfold bI at hc
  rw [List.mem_map] at hc
  obtain ⟨b, _, rfl⟩ := hc
  have := b.toNat_lt
  omega
theorem bI_nums (L : List Int) (h : ∀ c ∈ L, 0 ≤ c ∧ c < 256) : bI (strOfNums L) = L := by
  unfold bI
  rw [strOfNums_data, List.map_map]
  conv => rhs; rw [← List.map_id L]
  refine List.map_congr_left fun c hc => ?_
  have := h c hc
  simp only [Function.comp, id]
  rw [UInt8.toNat_ofNat']
  omega
theorem bI_inj {a b : ByteArray} (h : bI a = bI b) : a = b := by
  unfold bI at h
  have h2 : a.data.toList = b.data.toList := by
    have := List.map_inj_right (f := fun b : UInt8 => (b.toNat : Int)) (fun x y e => UInt8.toNat_inj.1 (by have h3 : (x.toNat : Int) = y.toNat := e; omega)) (l := a.data.toList) (l' := b.data.toList)
    exact this.1 h
  exact ByteArray.ext (Array.toList_inj.1 h2)
theorem nums_bI (s : ByteArray) : strOfNums (bI s) = s := bI_inj (bI_nums _ (bI_byte s))
theorem escGo_flat (s : ByteArray) : ∀ (r k : Nat), k + r = s.size → escGo s r k = ((bI s).drop k).flatMap escI
  | 0, k, h => by
    rw [List.drop_eq_nil_of_le (by rw [bI_len]; omega)]
    rfl
  | r + 1, k, h => by
    have hk : k < s.size := by omega
    have hd : (bI s).drop k = byt s k :: (bI s).drop (k + 1) := by
      have h1 := bI_get s k hk
      obtain ⟨h2, h3⟩ := List.getElem?_eq_some_iff.1 h1
      rw [List.drop_eq_getElem_cons h2, h3]
    rw [escGo, hd, List.flatMap_cons, escGo_flat s r (k + 1) (by omega)]
theorem quoteI_eq (s : ByteArray) : quoteI s = 34 :: ((bI s).flatMap escI ++ [34]) := by
  rw [quoteI, escGo_flat s s.size 0 (by omega), List.drop_zero]
theorem hexI_byte (d : Int) (h : 0 ≤ d) (h' : d < 16) : 0 ≤ hexI d ∧ hexI d < 256 := by unfold hexI; split <;> omega
theorem escI_byte (c : Int) (h : 0 ≤ c) (h' : c < 256) : ∀ x ∈ escI c, 0 ≤ x ∧ x < 256 := by
  intro x hx
  have a := hexI_byte (c / 16) (by omega) (by omega)
  have b := hexI_byte (c % 16) (by omega) (by omega)
  unfold escI at hx
  split at hx
  · simp at hx; omega
  · split at hx
    · simp at hx
      rcases hx with rfl | rfl | rfl | rfl <;> omega
    · simp at hx; omega
theorem quoteI_byte (s : ByteArray) : ∀ c ∈ quoteI s, 0 ≤ c ∧ c < 256 := by
  intro c hc
  rw [quoteI_eq] at hc
  simp only [List.mem_cons, List.mem_append, List.mem_flatMap, List.not_mem_nil, or_false] at hc
  rcases hc with rfl | ⟨y, hy, hc⟩ | rfl
  · omega
  · exact escI_byte y (bI_byte s y hy).1 (bI_byte s y hy).2 c hc
  · omega

/-- What is left of a text in quotes, k letters of it passed, j of what it says known. -/
def Left (S X : List Int) (k j : Nat) : Prop := S.drop k = (X.drop j).flatMap escI ++ [34]
theorem Left.start {s : ByteArray} {X : List Int} (h : bI s = 34 :: (X.flatMap escI ++ [34])) : Left (bI s) X 1 0 := by
  unfold Left
  rw [h, List.drop_zero]
  rfl
theorem drop_get {S : List Int} {k : Nat} {T : List Int} (h : S.drop k = T) (i : Nat) : S[k + i]? = T[i]? := by rw [← h, List.getElem?_drop]
/-- What comes next: a letter. -/
theorem Left.next {S X : List Int} {k j n : Nat} (h : Left S X k j) (hn : S.length = n) (hk : k + 1 < n) : ∃ c, X[j]? = some c ∧ S.drop k = escI c ++ ((X.drop (j + 1)).flatMap escI ++ [34]) := by
  unfold Left at h
  by_cases hj : j < X.length
  · refine ⟨X[j], List.getElem?_eq_getElem hj, ?_⟩
    rw [h, List.drop_eq_getElem_cons hj, List.flatMap_cons, List.append_assoc]
  · rw [List.drop_eq_nil_of_le (Nat.le_of_not_lt hj)] at h
    have := congrArg List.length h
    simp at this
    omega
theorem Left.plain {S X : List Int} {k j n : Nat} {c : Int} (h : Left S X k j) (hn : S.length = n) (hk : k + 1 < n) (hc : S[k]? = some c) (h92 : c ≠ 92) : X[j]? = some c ∧ Left S X (k + 1) (j + 1) := by
  obtain ⟨d, hd, he⟩ := h.next hn hk
  have h0 := drop_get he 0
  rw [Nat.add_zero, hc] at h0
  unfold escI at he h0
  split at he
  · rename_i h1
    rw [if_pos h1] at h0
    simp at h0
    omega
  · rename_i h1
    rw [if_neg h1] at h0
    split at he
    · rename_i h2
      rw [if_pos h2] at h0
      simp at h0
      omega
    · rename_i h2
      rw [if_neg h2] at h0
      simp at h0
      subst h0
      refine ⟨hd, ?_⟩
      unfold Left
      have h7 := congrArg (List.drop 1) he
      rw [List.drop_drop] at h7
      exact h7
theorem Left.back {S X : List Int} {k j n : Nat} {c : Int} (h : Left S X k j) (hX : ∀ c ∈ X, 0 ≤ c ∧ c < 256) (hn : S.length = n) (hk : k + 1 < n) (hc : S[k]? = some 92) (hc1 : S[k + 1]? = some c) (hx : c ≠ 120 ∨ n ≤ k + 3) : X[j]? = some c ∧ Left S X (k + 2) (j + 1) := by
  obtain ⟨d, hd, he⟩ := h.next hn hk
  have h0 := drop_get he 0
  have h1 := drop_get he 1
  rw [Nat.add_zero, hc] at h0
  rw [hc1] at h1
  have hlen := congrArg List.length he
  rw [List.length_drop, hn] at hlen
  unfold escI at he h0 h1 hlen
  split at he
  · rename_i e1
    rw [if_pos e1] at h0 h1
    simp at h0 h1
    subst h1
    refine ⟨hd, ?_⟩
    unfold Left
    have h7 := congrArg (List.drop 2) he
    rw [List.drop_drop] at h7
    exact h7
  · rename_i e1
    rw [if_neg e1] at h0 h1 hlen
    split at he
    · rename_i e2
      rw [if_pos e2] at h0 h1 hlen
      simp at h0 h1 hlen
      omega
    · rename_i e2
      rw [if_neg e2] at h0 h1
      simp at h0
      omega
theorem hexI_un (a b : Int) (ha : 0 ≤ a) (ha' : a < 16) (hb : 0 ≤ b) (hb' : b < 16) (h : hexI a = hexI b) : a = b := by
  unfold hexI at h
  split at h <;> split at h <;> omega
theorem Left.hex {S X : List Int} {k j n : Nat} {c1 c2 : Int} (h : Left S X k j) (hX : ∀ c ∈ X, 0 ≤ c ∧ c < 256) (hn : S.length = n) (hk : k + 1 < n) (hc : S[k]? = some 92) (hx : S[k + 1]? = some 120) (hk3 : k + 3 < n)
    (h2 : S[k + 2]? = some c1) (h3 : S[k + 3]? = some c2) : ∃ a b, 0 ≤ a ∧ a < 16 ∧ 0 ≤ b ∧ b < 16 ∧ c1 = hexI a ∧ c2 = hexI b ∧ X[j]? = some (16 * a + b) ∧ Left S X (k + 4) (j + 1) := by
  obtain ⟨d, hd, he⟩ := h.next hn hk
  have hdb := hX d (List.mem_of_getElem? hd)
  have e0 := drop_get he 0
  have e1 := drop_get he 1
  have e2 := drop_get he 2
  have e3 := drop_get he 3
  rw [Nat.add_zero, hc] at e0
  rw [hx] at e1
  rw [h2] at e2
  rw [h3] at e3
  unfold escI at he e0 e1 e2 e3
  split at he
  · rename_i f1
    rw [if_pos f1] at e1
    simp at e1
    omega
  · rename_i f1
    rw [if_neg f1] at e0 e1 e2 e3
    split at he
    · rename_i f2
      rw [if_pos f2] at e0 e1 e2 e3
      simp at e2 e3
      refine ⟨d / 16, d % 16, by omega, by omega, by omega, by omega, e2, e3, ?_, ?_⟩
      · rw [hd, show 16 * (d / 16) + d % 16 = d by omega]
      · unfold Left
        have h7 := congrArg (List.drop 4) he
        rw [List.drop_drop] at h7
        exact h7
    · rename_i f2
      rw [if_neg f2] at e0
      simp at e0
      omega
theorem Left.done {S X : List Int} {k j n : Nat} (h : Left S X k j) (hX : ∀ c ∈ X, 0 ≤ c ∧ c < 256) (hn : S.length = n) (hk : n ≤ k + 1) : X.length ≤ j := by
  unfold Left at h
  rcases Nat.lt_or_ge j X.length with hj | hj
  · rw [List.drop_eq_getElem_cons hj, List.flatMap_cons] at h
    have := congrArg List.length h
    have hp : 0 < (escI X[j]).length := by
      unfold escI
      split
      · simp
      · split <;> simp
    simp only [List.length_drop, hn, List.length_append, List.length_cons, List.length_nil] at this
    omega
  · exact hj

end Go.Proofs.YthgenobbpaclhaaDoor
