/- Attributes that are read; the first one of a name. -/
import Derived.Test.YthgenobbpaclhaaDoorRows
import Derived.WalkKit
import Derived.WalkSpells
import Derived.WalkLawsBesides
import Derived.Deep.QuietTactic
import Derived.BigQuiet
import Derived.Lib.Hide
import Derived.Lib.ConvBytes
import Derived.Deep.Slices
import Derived.ProofKit
import Derived.SizedLaws
import Derived.Test.YthgenobbpaclhaaDoorShelf
import Derived.Laws.BytesArg
import Derived.Laws.BitsLemmas
import Derived.Deep.RegionHeld3
import Derived.Deep.AppendLies
import Derived.Maps.AppendAt
import Derived.Test.YthgenobbpaclhaaDoorV5
import Derived.Test.YthgenobbpaclhaaDoorVR
set_option linter.unusedVariables false
set_option linter.unusedSimpArgs false
set_option linter.unnecessarySimpa false
namespace Go.Proofs.YthgenobbpaclhaaDoor
open Go.RowKit Go.Shelf
attribute [local go_sem] Oper.semAt_some

abbrev AttrD := ByteArray × ValD
def attrR : Rk AttrD := Rk.str.pair valR
def attrsR : Rk (List AttrD) := Rk.slice attrR
theorem attrR_of : attrR.Of Tryd.prog 61 :=
  Rk.of_struct Tryd.underlying61 (Rk.fields_cons strR_of rfl (by kernel_rfl) (Rk.fields_one valR_of rfl (by kernel_rfl))) (by kernel_rfl)
def attrC (x : AttrD) : List Value := [.string x.1, .int .i64 x.2.1, .int .i64 x.2.2.1, .string x.2.2.2]
theorem attrR_cells {w : World} {x : AttrD} {cs : List Value} (h : attrR.K w x cs) : cs = attrC x ∧ x.1.size ≤ maxLen ∧ x.2.2.2.size ≤ maxLen := by
  obtain ⟨_, _, rfl, ⟨rfl, h1⟩, _, _, rfl, ⟨rfl, _⟩, _, _, rfl, ⟨rfl, _⟩, ⟨rfl, hz⟩⟩ := h
  exact ⟨rfl, h1, hz⟩

/-- v reads as the list l. -/
def Rds {α : Type} (d : Rk α) (w : World) (v : Value) (l : List α) : Prop := (Rk.slice d).K w l [v]
theorem Rds.keep {α : Type} {d : Rk α} {w w' : World} {v : Value} {l : List α} (h : Rds d w v l) (hk : Kept [] w w') : Rds d w' v l := (Rk.slice d).keep hk h
theorem Rds.form {α : Type} {d : Rk α} {w : World} {v : Value} {l : List α} (h : Rds d w v l) : ∃ A c, v = .slice A l.length c ∧ l.length ≤ 9223372036854775807 := by
  obtain ⟨A, c, he, h1, h2, _, hE⟩ := h
  simp only [List.cons.injEq, and_true] at he
  exact ⟨A, c, he, by unfold maxLen at h2; omega⟩
theorem Rds.at {α : Type} {d : Rk α} {w : World} {v : Value} {l : List α} (h : Rds d w v l) {k : Nat} (hk : k < l.length) :
    ∃ b off c x cs, v = .slice (some ⟨b, off, none⟩) l.length c ∧ l[k]? = some x ∧ d.K w x cs ∧ ∀ j, j < d.sz → w.cell? ⟨b, off + k * d.sz + j, none⟩ = cs[j]? := by
  obtain ⟨A, c, he, h1, h2, _, hE⟩ := h
  simp only [List.cons.injEq, and_true] at he
  subst he
  obtain ⟨b, off, rfl, hx⟩ := hE (by rintro rfl; simp at hk)
  obtain ⟨cs, hK, hc⟩ := hx k _ (List.getElem?_eq_getElem hk)
  exact ⟨b, off, c, _, cs, rfl, List.getElem?_eq_getElem hk, hK, hc⟩
/-- Where the first such one stands. -/
def firstIn {α : Type} (p : α → Bool) : Nat → List α → Int
  | _, [] => -1
  | k, x :: xs => if p x then k else firstIn p (k + 1) xs
theorem drop_at {α : Type} {l : List α} {k : Nat} {x : α} (hx : l[k]? = some x) : l.drop k = x :: l.drop (k + 1) := by
  obtain ⟨h1, h2⟩ := List.getElem?_eq_some_iff.1 hx
  rw [List.drop_eq_getElem_cons h1, h2]
/-- The value of a name. -/
def namedV (s : ByteArray) (x : AttrD) : Bool := x.1.toList == s.toList
def getV (s : ByteArray) : List AttrD → ValD × Bool
  | [] => ((0, 0, ByteArray.empty), false)
  | x :: xs => if namedV s x then (x.2, true) else getV s xs
theorem firstIn_get (s : ByteArray) : ∀ (l : List AttrD) (k : Nat), (firstIn (namedV s) k l = -1 ∧ getV s l = ((0, 0, ByteArray.empty), false)) ∨ ∃ j x, firstIn (namedV s) k l = ((k + j : Nat) : Int) ∧ l[j]? = some x ∧ getV s l = (x.2, true)
  | [], k => .inl ⟨rfl, rfl⟩
  | x :: xs, k => by
    rw [firstIn, getV]
    cases h : namedV s x with
    | true => exact .inr ⟨0, x, by simp, rfl, by simp⟩
    | false =>
      rcases firstIn_get s xs (k + 1) with ⟨h1, h2⟩ | ⟨j, y, h1, h2, h3⟩
      · exact .inl ⟨by simpa using h1, by simpa using h2⟩
      · exact .inr ⟨j + 1, y, by simp [h1]; omega, by simpa using h2, by simpa using h3⟩

def valA (v : ValD) : Value := .agg #[.int .i64 v.1, .int .i64 v.2.1, .string v.2.2]
end Go.Proofs.YthgenobbpaclhaaDoor
