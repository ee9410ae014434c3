/- Scripts, the document's: an event's words. -/
import Derived.Test.YthgenobbpaclhaaDoorZ4
import Derived.Test.YthgenobbpaclhaaDoorZ19
set_option linter.unusedVariables false
set_option linter.unusedSimpArgs false
set_option linter.unnecessarySimpa false
namespace Go.Proofs.YthgenobbpaclhaaDoor
open Go.RowKit Go.Shelf
attribute [local go_sem] Oper.semAt_some

/-- Words behind others, each with its blank. -/
def tailT (ws : List ByteArray) : ByteArray := ⟨(Lib.joinTail [32] (ws.map (·.data.toList))).toArray⟩
theorem tailT_list (ws : List ByteArray) : (tailT ws).data.toList = Lib.joinTail [32] (ws.map (·.data.toList)) := rfl
theorem tailT_nil : tailT [] = eB := rfl
theorem tailT_cons (u : ByteArray) (us : List ByteArray) : tailT (u :: us) = { data := #[32] } ++ u ++ tailT us := by
  apply ba_ext
  rw [tailT_list, Joins.data_append, Joins.data_append, tailT_list]
  unfold Lib.joinTail
  simp
theorem tailT_app (ws us : List ByteArray) : tailT (ws ++ us) = tailT ws ++ tailT us := by
  apply ba_ext
  rw [tailT_list, Joins.data_append, tailT_list, tailT_list]
  unfold Lib.joinTail
  simp
theorem joinT_tail (t : ByteArray) (ts : List ByteArray) : joinT (t :: ts) = t ++ tailT ts := by
  apply ba_ext
  rw [joinT_list, List.map_cons, Lib.join_cons, Joins.data_append, tailT_list]
theorem tailT_size (ws : List ByteArray) (b : Nat) (h : ∀ u ∈ ws, u.size ≤ b) : (tailT ws).size ≤ ws.length * (b + 1) := by
  have := jt_len ws b h
  show (Lib.joinTail [32] (ws.map (·.data.toList))).toArray.size ≤ _
  simpa using this
theorem ba_assoc (a b c : ByteArray) : a ++ b ++ c = a ++ (b ++ c) := by
  apply ba_ext
  simp [Joins.data_append]
/-- What an inject line has behind its kind's word. -/
def injW (x : StepD) : List ByteArray := [numT x.source, numT x.time, quoT x.type] ++ attrsW x.attrs
def inj0 (x : StepD) : List ByteArray := [numT x.source, numT x.time, quoT x.type, numT x.attrs.length]
theorem injW_eq (x : StepD) : injW x = inj0 x ++ x.attrs.flatMap attrW := by unfold injW inj0 attrsW; rfl
theorem inj0_text (x : StepD) : ((((((({ data := #[32] } ++ numT x.source : ByteArray) ++ { data := #[32] }) ++ numT x.time) ++ { data := #[32] }) ++ quoT x.type) ++ { data := #[32] }) ++ numT x.attrs.length) = tailT (inj0 x) := by
  unfold inj0
  rw [tailT_cons, tailT_cons, tailT_cons, tailT_cons, tailT_nil]
  apply ba_ext
  simp [Joins.data_append]
theorem inj_step (o a b : ByteArray) (ws : List ByteArray) (h : o = tailT ws) : o ++ ((({ data := #[32] } ++ a) ++ { data := #[32] }) ++ b) = tailT (ws ++ [a, b]) := by
  rw [tailT_app, tailT_cons, tailT_cons, tailT_nil, h]
  apply ba_ext
  simp [Joins.data_append]
def InjPost (w : World) (x : StepD) (e : Ending) (w' : World) : Prop := e = .returned (.tuple #[.string (tailT (injW x)), .bool (decide (x.type.size ≤ 64) && attrsOk x.attrs)]) ∧ Kept [] w w'
theorem attrsOk_snoc (l : List AttrD) (a : AttrD) : attrsOk (l ++ [a]) = (attrsOk l && attrOk a) := by unfold attrsOk; simp
theorem attrOk_parts2 {k n : Int} {nm s : ByteArray} : attrOk (nm, k, n, s) = (decide (nm.size ≤ 64) && decide (chkV (k, n, s) = 0)) := by
  unfold attrOk chkV
  cases okV (k, n, s) <;> simp

end Go.Proofs.YthgenobbpaclhaaDoor
