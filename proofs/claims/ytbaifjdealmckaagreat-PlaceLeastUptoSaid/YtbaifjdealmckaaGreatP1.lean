/- Plans and rates that are read. -/
import Derived.Test.YtbaifjdealmckaaGreatRows
import Derived.WalkKit
import Derived.WalkSpells
import Derived.WalkLawsBesides
import Derived.Deep.QuietTactic
import Derived.BigQuiet
import Derived.Lib.Hide
import Derived.BigRegion
import Derived.Shelf.Abstract
import Derived.Lib.ConvBytes
import Derived.StillTailTactics
import Derived.Laws.AppendOwnNone
import Derived.Deep.AppendLies
import Derived.Deep.Slices
import Derived.ProofKit
import Derived.SizedLaws
import Derived.Test.YtbaifjdealmckaaGreatC1
set_option linter.unusedVariables false
set_option linter.unusedSimpArgs false
set_option linter.unnecessarySimpa false
namespace Go.Proofs.YtbaifjdealmckaaGreat
open Go.RowKit Go.Shelf

abbrev ValD := Int × (Int × ByteArray)
abbrev OperD := ByteArray × (ByteArray × ValD)
abbrev CondD := OperD × (Int × OperD)
abbrev OpD := Int × (ByteArray × (ByteArray × (List CondD × (List CondD × (Int × Int)))))
abbrev PlanD := List OpD × List (List Int)
abbrev RatesD := List Int × (List Int × List Int)

def valR : Rk ValD := (Rk.int .i64).pair ((Rk.int .i64).pair Rk.str)
def operR : Rk OperD := Rk.str.pair (Rk.str.pair valR)
def condR : Rk CondD := operR.pair ((Rk.int .i64).pair operR)
def condsR : Rk (List CondD) := Rk.slice condR
def opR : Rk OpD := (Rk.int .i64).pair (Rk.str.pair (Rk.str.pair (condsR.pair (condsR.pair ((Rk.int .i64).pair (Rk.int .i64))))))
def opsR : Rk (List OpD) := Rk.slice opR
def intsR : Rk (List Int) := Rk.slice (Rk.int .i64)
def fromR : Rk (List (List Int)) := Rk.slice intsR
def planR : Rk PlanD := opsR.pair fromR
def ratesR : Rk RatesD := intsR.pair (intsR.pair intsR)

theorem intR_of : (Rk.int .i64).Of Tryz.prog 3 := Rk.of_int Tryz.underlying3
theorem int64R_of : (Rk.int .i64).Of Tryz.prog 2 := Rk.of_int Tryz.underlying2
theorem strR_of : Rk.str.Of Tryz.prog 9 := Rk.of_str Tryz.underlying9
theorem valR_of : valR.Of Tryz.prog 114 :=
  Rk.of_struct Tryz.underlying114 (Rk.fields_cons intR_of rfl (by kernel_rfl) (Rk.fields_cons int64R_of rfl (by kernel_rfl) (Rk.fields_one strR_of rfl (by kernel_rfl)))) (by kernel_rfl)
theorem operR_of : operR.Of Tryz.prog 116 :=
  Rk.of_struct Tryz.underlying116 (Rk.fields_cons strR_of rfl (by kernel_rfl) (Rk.fields_cons strR_of rfl (by kernel_rfl) (Rk.fields_one valR_of rfl (by kernel_rfl)))) (by kernel_rfl)
theorem condR_of : condR.Of Tryz.prog 118 :=
  Rk.of_struct Tryz.underlying118 (Rk.fields_cons operR_of rfl (by kernel_rfl) (Rk.fields_cons intR_of rfl (by kernel_rfl) (Rk.fields_one operR_of rfl (by kernel_rfl)))) (by kernel_rfl)
theorem condsR_of : condsR.Of Tryz.prog 59 := Rk.of_slice Tryz.underlying59 condR_of (by kernel_rfl) (by decide)
theorem opR_of : opR.Of Tryz.prog 88 :=
  Rk.of_struct Tryz.underlying88 (Rk.fields_cons intR_of rfl (by kernel_rfl) (Rk.fields_cons strR_of rfl (by kernel_rfl) (Rk.fields_cons strR_of rfl (by kernel_rfl) (Rk.fields_cons condsR_of rfl (by kernel_rfl) (Rk.fields_cons condsR_of rfl (by kernel_rfl) (Rk.fields_cons int64R_of rfl (by kernel_rfl) (Rk.fields_one intR_of rfl (by kernel_rfl)))))))) (by kernel_rfl)
theorem opsR_of : opsR.Of Tryz.prog 23 := Rk.of_slice Tryz.underlying23 opR_of (by kernel_rfl) (by decide)
theorem intsR_of : intsR.Of Tryz.prog 22 := Rk.of_slice Tryz.underlying22 intR_of (by kernel_rfl) (by decide)
theorem ints64R_of : intsR.Of Tryz.prog 27 := Rk.of_slice Tryz.underlying27 int64R_of (by kernel_rfl) (by decide)
theorem fromR_of : fromR.Of Tryz.prog 24 := Rk.of_slice Tryz.underlying24 intsR_of (by kernel_rfl) (by decide)
theorem planR_of : planR.Of Tryz.prog 26 :=
  Rk.of_struct Tryz.underlying26 (Rk.fields_cons opsR_of rfl (by kernel_rfl) (Rk.fields_one fromR_of rfl (by kernel_rfl))) (by kernel_rfl)
theorem ratesR_of : ratesR.Of Tryz.prog 29 :=
  Rk.of_struct Tryz.underlying29 (Rk.fields_cons ints64R_of rfl (by kernel_rfl) (Rk.fields_cons ints64R_of rfl (by kernel_rfl) (Rk.fields_one ints64R_of rfl (by kernel_rfl)))) (by kernel_rfl)

/-- v reads as the list l. -/
def Rds {α : Type} (d : Rk α) (w : World) (v : Value) (l : List α) : Prop := (Rk.slice d).K w l [v]
theorem Rds.keep {α : Type} {d : Rk α} {w w' : World} {v : Value} {l : List α} (h : Rds d w v l) (hk : Kept [] w w') : Rds d w' v l := (Rk.slice d).keep hk h
theorem Rds.form {α : Type} {d : Rk α} {w : World} {v : Value} {l : List α} (h : Rds d w v l) : ∃ A c, v = .slice A l.length c ∧ l.length ≤ 9223372036854775807 := by
  obtain ⟨A, c, he, h1, h2, _, hE⟩ := h
  simp only [List.cons.injEq, and_true] at he
  exact ⟨A, c, he, by unfold maxLen at h2; omega⟩
theorem Rds.at {α : Type} {d : Rk α} {w : World} {v : Value} {l : List α} (h : Rds d w v l) {k : Nat} (hk : k < l.length) :
    ∃ b off c x cs, v = .slice (some ⟨b, off, none⟩) l.length c ∧ l[k]? = some x ∧ d.K w x cs ∧ ∀ j, j < d.sz → w.cell? ⟨b, off + k * d.sz + j, none⟩ = cs[j]? := by
  obtain ⟨A, c, he, h1, h2, _, hE⟩ := h
  simp only [List.cons.injEq, and_true] at he
  subst he
  obtain ⟨b, off, rfl, hx⟩ := hE (by rintro rfl; simp at hk)
  obtain ⟨cs, hK, hc⟩ := hx k _ (List.getElem?_eq_getElem hk)
  exact ⟨b, off, c, _, cs, rfl, List.getElem?_eq_getElem hk, hK, hc⟩
theorem Rds.ints {w : World} {v : Value} {l : List Int} (h : Rds (Rk.int .i64) w v l) : RdI w .i64 v l := RdI.of_rk h

def condCells (c : CondD) : List Value := [.string c.1.1, .string c.1.2.1, .int .i64 c.1.2.2.1, .int .i64 c.1.2.2.2.1, .string c.1.2.2.2.2, .int .i64 c.2.1, .string c.2.2.1, .string c.2.2.2.1, .int .i64 c.2.2.2.2.1, .int .i64 c.2.2.2.2.2.1, .string c.2.2.2.2.2.2]
theorem condR_cells {w : World} {x : CondD} {cs : List Value} (h : condR.K w x cs) : cs = condCells x := by
  obtain ⟨_, _, rfl, ⟨_, _, rfl, ⟨rfl, _⟩, _, _, rfl, ⟨rfl, _⟩, _, _, rfl, ⟨rfl, _⟩, _, _, rfl, ⟨rfl, _⟩, ⟨rfl, _⟩⟩, _, _, rfl, ⟨rfl, _⟩, ⟨_, _, rfl, ⟨rfl, _⟩, _, _, rfl, ⟨rfl, _⟩, _, _, rfl, ⟨rfl, _⟩, _, _, rfl, ⟨rfl, _⟩, ⟨rfl, _⟩⟩⟩ := h
  rfl
def opCells (o : OpD) (tv cv : Value) : List Value := [.int .i64 o.1, .string o.2.1, .string o.2.2.1, tv, cv, .int .i64 o.2.2.2.2.2.1, .int .i64 o.2.2.2.2.2.2]
theorem opR_cells {w : World} {x : OpD} {cs : List Value} (h : opR.K w x cs) : ∃ tv cv, cs = opCells x tv cv ∧ Rds condR w tv x.2.2.2.1 ∧ Rds condR w cv x.2.2.2.2.1 ∧ x.2.1.size ≤ maxLen ∧ x.2.2.1.size ≤ maxLen := by
  obtain ⟨_, _, rfl, ⟨rfl, _⟩, _, _, rfl, ⟨rfl, hz1⟩, _, _, rfl, ⟨rfl, hz2⟩, c1, _, rfl, ht, c2, _, rfl, hc, _, _, rfl, ⟨rfl, _⟩, ⟨rfl, _⟩⟩ := h
  obtain ⟨A1, k1, rfl, g1⟩ := ht
  obtain ⟨A2, k2, rfl, g2⟩ := hc
  exact ⟨_, _, rfl, ⟨_, _, rfl, g1⟩, ⟨_, _, rfl, g2⟩, hz1, hz2⟩
theorem intsR_cells {w : World} {x : List Int} {cs : List Value} (h : intsR.K w x cs) : ∃ v, cs = [v] ∧ Rds (Rk.int .i64) w v x := by
  obtain ⟨A1, k1, rfl, g1⟩ := h
  exact ⟨_, rfl, ⟨_, _, rfl, g1⟩⟩

/-- v reads as the plan x. -/
def RdP (w : World) (v : Value) (x : PlanD) : Prop := ∃ ov fv, v = .agg #[ov, fv] ∧ Rds opR w ov x.1 ∧ Rds intsR w fv x.2
theorem RdP.keep {w w' : World} {v : Value} {x : PlanD} (h : RdP w v x) (hk : Kept [] w w') : RdP w' v x := by
  obtain ⟨ov, fv, rfl, h1, h2⟩ := h
  exact ⟨ov, fv, rfl, h1.keep hk, h2.keep hk⟩
theorem RdP.of_rk {w : World} {x : PlanD} {cs : List Value} (h : planR.K w x cs) : RdP w (.agg cs.toArray) x := by
  obtain ⟨_, _, rfl, ⟨A1, k1, rfl, g1⟩, ⟨A2, k2, rfl, g2⟩⟩ := h
  exact ⟨_, _, rfl, ⟨_, _, rfl, g1⟩, ⟨_, _, rfl, g2⟩⟩

end Go.Proofs.YtbaifjdealmckaaGreat
