/- Operators that may be: bare ones. -/
import Derived.Test.YtbaifjdealmckaaGreatRows
import Derived.WalkKit
import Derived.WalkSpells
import Derived.WalkLawsBesides
import Derived.Deep.QuietTactic
import Derived.BigQuiet
import Derived.Lib.Hide
import Derived.BigRegion
import Derived.Shelf.Abstract
import Derived.Lib.ConvBytes
import Derived.StillTailTactics
import Derived.Laws.AppendOwnNone
import Derived.Deep.AppendLies
import Derived.Deep.Slices
import Derived.ProofKit
import Derived.SizedLaws
import Derived.Test.YtbaifjdealmckaaGreatC6
import Derived.Test.YtbaifjdealmckaaGreatP3
set_option linter.unusedVariables false
set_option linter.unusedSimpArgs false
set_option linter.unnecessarySimpa false
namespace Go.Proofs.YtbaifjdealmckaaGreat
open Go.RowKit Go.Shelf
attribute [local go_sem] Oper.semAt_some

theorem empty_true {s : ByteArray} (h : s.size = 0) : s.toList.isEmpty = true := by rw [size_eq] at h; rw [List.eq_nil_of_length_eq_zero h]; rfl
theorem empty_dec (s : ByteArray) : s.toList.isEmpty = decide (s.size = 0) := by
  rw [size_eq]; cases s.toList <;> simp

set_option maxRecDepth 100000 in
set_option maxHeartbeats 2000000 in
theorem bare_any (kind win inp : Int) (var typ : ByteArray) (tests conds : List CondD) (tv cv : Value) (w : World) (ht : Rds condR w tv tests) :
    Calls Tryz.prog 91 #[.agg #[.int .i64 kind, .string var, .string typ, tv, cv, .int .i64 win, .int .i64 inp]] w fun e w' => e = .returned (.bool (bareV (kind, var, typ, tests, conds, win, inp))) ∧ Kept [] w w' := by
  obtain ⟨A, c, rfl, hmx⟩ := ht.form
  obtain ⟨n, hn⟩ : ∃ n, tests.length = n := ⟨_, rfl⟩
  have e0 : bareV (kind, var, typ, tests, conds, win, inp) = (decide (var.size = 0) && decide (typ.size = 0) && decide (n = 0)) := by rw [← hn]; rfl
  rw [e0]
  rw [hn] at hmx ⊢
  have hk := (Kept.refl [] w).alloc (.cells #[.int .i64 kind, .string var, .string typ, .slice A n c, cv, .int .i64 win, .int .i64 inp] 88)
  clear hn e0 ht
  have h1 := empty_dec var
  have h2 := empty_dec typ
  cases b1 : decide (var.size = 0) with
  | false =>
    rw [b1] at h1
    clear b1
    go_enter Tryz.func91, Tryz.ntmps91
    go_wp2_with fail
    go_ret
    exact ⟨rfl, hk⟩
  | true =>
    rw [b1] at h1
    clear b1
    cases b2 : decide (typ.size = 0) with
    | false =>
      rw [b2] at h2
      clear b2
      go_enter Tryz.func91, Tryz.ntmps91
      go_wp2_with fail
      go_ret
      exact ⟨rfl, hk⟩
    | true =>
      rw [b2] at h2
      clear b2
      go_enter Tryz.func91, Tryz.ntmps91
      go_wp2_with fail
      go_ret
      exact ⟨ret_bool (by first | rfl | (rw [Bool.eq_iff_iff]; simp <;> omega)), hk⟩

def winV (x : Int) : Bool := decide (1 ≤ x) && decide (x ≤ 1099511627776)
def kindV (o : OpD) : Bool :=
  if o.1 = 1 then decide (o.2.2.2.2.2.2 = 1) && nameV o.2.1 && nameV o.2.2.1
  else if o.1 = 5 then decide (o.2.2.2.2.2.2 = 1) && bareV o
  else if o.1 = 2 ∨ o.1 = 3 ∨ o.1 = 4 then decide (2 ≤ o.2.2.2.2.2.2) && decide (o.2.2.2.2.2.2 ≤ 12) && bareV o
  else false
def opV (o : OpD) : Bool := winV o.2.2.2.2.2.1 && relsV o.2.2.2.1 && relsV o.2.2.2.2.1 && kindV o
def errOp (b : Bool) : Int := if b then 0 else 140

end Go.Proofs.YtbaifjdealmckaaGreat
