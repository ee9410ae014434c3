/- Scripts: what a step's line is (plain laws): the program's way and the document's are one. -/
import Derived.Test.YthgenobbpaclhaaDoorX5
import Derived.Test.YthgenobbpaclhaaDoorV10
import Derived.Lib.Join
import Derived.Lib.SmallJoins
set_option linter.unusedVariables false
set_option linter.unusedSimpArgs false
set_option linter.unnecessarySimpa false
namespace Go.Proofs.YthgenobbpaclhaaDoor
open Go.RowKit Go.Shelf

abbrev eB : ByteArray := { data := #[] }
/-- What an int holds. -/
def I64 (n : Int) : Prop := -9223372036854775808 ≤ n ∧ n ≤ 9223372036854775807
/-- A step. -/
structure StepD where
  kind : Int
  text : ByteArray
  place : List Int
  source : Int
  time : Int
  type : ByteArray
  attrs : List AttrD
  pattern : Int
  op : Int
  dest : Int
  broker : Int
  number : Int
  at_ : Int
  wth : Int
def zS (k : Int) : StepD := ⟨k, eB, [], 0, 0, eB, [], 0, 0, 0, 0, 0, 0, 0⟩
def numT (n : Int) : ByteArray := ⟨(Lib.itoa n).toArray⟩
def quoT (s : ByteArray) : ByteArray := strOfNums (quoteI s)
def listW (l : List Int) : List ByteArray := numT l.length :: l.map numT
def attrW (a : AttrD) : List ByteArray := [quoT a.1, textV a.2]
def attrsW (l : List AttrD) : List ByteArray := numT l.length :: l.flatMap attrW
def attrOk (a : AttrD) : Bool := okV a.2 && decide (a.1.size ≤ 64)
def attrsOk (l : List AttrD) : Bool := l.all attrOk
/-- A field struck. -/
def fZ (f : Nat) (x : StepD) : StepD := match f with
  | 0 => { x with text := eB } | 1 => { x with place := [] } | 2 => { x with source := 0 } | 3 => { x with time := 0 } | 4 => { x with type := eB } | 5 => { x with attrs := [] } | 6 => { x with pattern := 0 }
  | 7 => { x with op := 0 } | 8 => { x with dest := 0 } | 9 => { x with broker := 0 } | 10 => { x with number := 0 } | 11 => { x with at_ := 0 } | _ => { x with wth := 0 }
/-- A field's words. -/
def fW (f : Nat) (x : StepD) : List ByteArray := match f with
  | 0 => [quoT x.text] | 1 => listW x.place | 2 => [numT x.source] | 3 => [numT x.time] | 4 => [quoT x.type] | 5 => attrsW x.attrs | 6 => [numT x.pattern]
  | 7 => [numT x.op] | 8 => [numT x.dest] | 9 => [numT x.broker] | 10 => [numT x.number] | 11 => [numT x.at_] | _ => [numT x.wth]
def fOk (f : Nat) (x : StepD) : Bool := match f with
  | 0 => decide (x.text.size ≤ 4096) | 4 => decide (x.type.size ≤ 64) | 5 => attrsOk x.attrs | _ => true
def fieldsK (k : Int) : List Nat := if k = 1 then [0, 1] else if k = 2 then [2, 3, 4, 5] else if k = 3 then [2] else if k = 4 then [6, 7, 8] else if k = 5 then [9] else if k = 7 then [10] else if k = 8 then [10] else if k = 9 then [10] else if k = 10 then [10, 11, 12] else []
def wordK (k : Int) : ByteArray := if k = 1 then ⟨#[114, 101, 103, 105, 115, 116, 101, 114]⟩ else if k = 2 then ⟨#[105, 110, 106, 101, 99, 116]⟩ else if k = 3 then ⟨#[99, 108, 111, 115, 101]⟩ else if k = 4 then ⟨#[109, 111, 118, 101]⟩ else if k = 5 then ⟨#[116, 105, 99, 107]⟩
  else if k = 6 then ⟨#[97, 108, 108]⟩ else if k = 7 then ⟨#[100, 101, 108, 105, 118, 101, 114]⟩ else if k = 8 then ⟨#[100, 114, 111, 112]⟩ else if k = 9 then ⟨#[100, 111, 117, 98, 108, 101]⟩ else if k = 10 then ⟨#[115, 112, 111, 105, 108]⟩ else if k = 11 then ⟨#[97, 114, 114, 105, 118, 101]⟩ else if k = 12 then ⟨#[99, 97, 108, 109]⟩ else eB
/-- The words of the fields that are taken one behind the other; what is left of the step. -/
def goF : List Nat → StepD → List ByteArray → Option (List ByteArray × StepD)
  | [], x, w => some (w, x)
  | f :: fs, x, w => if fOk f x = true then goF fs (fZ f x) (w ++ fW f x) else none
open Classical in
noncomputable def progW (x : StepD) : Option (List ByteArray) := if 1 ≤ x.kind ∧ x.kind ≤ 12 then (match goF (fieldsK x.kind) x [wordK x.kind] with | none => none | some (w, y) => if y = zS x.kind then some w else none) else none
/-- A step with the fields that its line has alone. -/
def bareS (x : StepD) : StepD :=
  if x.kind = 1 then { zS 1 with text := x.text, place := x.place }
  else if x.kind = 2 then { zS 2 with source := x.source, time := x.time, type := x.type, attrs := x.attrs }
  else if x.kind = 3 then { zS 3 with source := x.source }
  else if x.kind = 4 then { zS 4 with pattern := x.pattern, op := x.op, dest := x.dest }
  else if x.kind = 5 then { zS 5 with broker := x.broker }
  else if x.kind = 7 then { zS 7 with number := x.number }
  else if x.kind = 8 then { zS 8 with number := x.number }
  else if x.kind = 9 then { zS 9 with number := x.number }
  else if x.kind = 10 then { zS 10 with number := x.number, at_ := x.at_, wth := x.wth }
  else zS x.kind
def allOk (x : StepD) : Bool := (fieldsK x.kind).all (fOk · x)
def allW (x : StepD) : List ByteArray := wordK x.kind :: (fieldsK x.kind).flatMap (fW · x)
open Classical in
/-- The words of a step's line. -/
noncomputable def lineW (x : StepD) : Option (List ByteArray) := if 1 ≤ x.kind ∧ x.kind ≤ 12 ∧ x = bareS x ∧ allOk x = true then some (allW x) else none
theorem kinds {k : Int} (h1 : 1 ≤ k) (h2 : k ≤ 12) : k = 1 ∨ k = 2 ∨ k = 3 ∨ k = 4 ∨ k = 5 ∨ k = 6 ∨ k = 7 ∨ k = 8 ∨ k = 9 ∨ k = 10 ∨ k = 11 ∨ k = 12 := by omega
theorem progW_line (x : StepD) : progW x = lineW x := by
  unfold progW lineW
  by_cases hk : 1 ≤ x.kind ∧ x.kind ≤ 12
  · rw [if_pos hk]
    obtain ⟨k, text, place, source, time, type, attrs, pattern, op, dest, broker, number, at_, wth⟩ := x
    dsimp only at hk ⊢
    rcases kinds hk.1 hk.2 with rfl | rfl | rfl | rfl | rfl | rfl | rfl | rfl | rfl | rfl | rfl | rfl
    · by_cases h : text.size ≤ 4096 <;> simp [fieldsK, goF, fOk, fZ, fW, zS, bareS, allOk, allW, h]
    · by_cases h : type.size ≤ 64 <;> cases h2 : attrsOk attrs <;> simp [fieldsK, goF, fOk, fZ, fW, zS, bareS, allOk, allW, h, h2]
    all_goals simp [fieldsK, goF, fOk, fZ, fW, zS, bareS, allOk, allW]
  · rw [if_neg hk, if_neg (fun h => hk ⟨h.1, h.2.1⟩)]

def joinT (w : List ByteArray) : ByteArray := ⟨(Lib.join (w.map (·.data.toList)) [32]).toArray⟩
noncomputable def lineT (x : StepD) : Option ByteArray := (lineW x).map joinT

end Go.Proofs.YthgenobbpaclhaaDoor
