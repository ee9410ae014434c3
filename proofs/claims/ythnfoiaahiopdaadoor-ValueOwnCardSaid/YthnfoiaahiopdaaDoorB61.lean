/- Where the document puts one more, at the row: the cells of a row cut in two; append of nothing to nothing at a step of a region that draws. -/
import Derived.Test.YthnfoiaahiopdaaDoorB6
import Derived.Deep.AppendLies
import Derived.Laws.OwnMore
namespace Go.Proofs.YthnfoiaahiopdaaDoor
open Go.RowKit Go.Shelf

theorem cellsA_app (P Q : List AttrD) : cellsA (P ++ Q) = cellsA P ++ cellsA Q := by unfold cellsA; rw [List.flatMap_append]
theorem attrC_len (x : AttrD) : (attrC x).length = 4 := rfl
theorem cellsA_take (P : List AttrD) (k : Nat) (h : k ≤ P.length) : cellsA (P.take k) = (cellsA P).take (k * 4) := by
  have e : (cellsA (P.take k)).length = k * 4 := by rw [cellsA_len, List.length_take, Nat.min_eq_left h]
  conv => rhs; rw [← List.take_append_drop k P, cellsA_app]
  rw [← e, List.take_left']
  rfl
theorem cellsA_drop (P : List AttrD) (k : Nat) (h : k ≤ P.length) : cellsA (P.drop k) = (cellsA P).drop (k * 4) := by
  have e : (cellsA (P.take k)).length = k * 4 := by rw [cellsA_len, List.length_take, Nat.min_eq_left h]
  conv => rhs; rw [← List.take_append_drop k P, cellsA_app]
  rw [← e, List.drop_left']
  rfl
theorem cellsA_mid (P : List AttrD) (x : AttrD) (k : Nat) (h : k ≤ P.length) : cellsA (P.take k ++ x :: P.drop k) = ((cellsA P).take (k * 4) ++ attrC x) ++ (cellsA P).drop (k * 4) := by
  rw [cellsA_app, cellsA_take P k h, show x :: P.drop k = [x] ++ P.drop k from rfl, cellsA_app, cellsA_drop P k h, List.append_assoc]
  congr 1

theorem run_append_nil_nothing {P : Program} {w : World} (t ty e : TypeId) (i : TypeInfo) (ht : P.underlying t = some (.slice e)) (hi : P.info? e = some i) (A : Option Addr) (c : Nat) :
    (Builtin.append_ #[t, t] ty #[.slice none 0 0, .slice A 0 c]).run P w = .ok (.slice none 0 0) w := by
  cases A with
  | none => simp [Builtin.append_, run_underlying ht, sizeOf, typeInfo, hi, Builtin.lenOf, Builtin.firstCells]
  | some ad => simp [Builtin.append_, run_underlying ht, sizeOf, typeInfo, hi, Builtin.lenOf, Builtin.firstCells, loadCells, loadCellsFrom]

theorem step_append_nothing {P : Program} {w : World} {ops : Array Oper} {o : Oper} {a : Act} {K : Act → World → Prop} {Q : Exit → Act → World → Prop} {E : Prop} (hgd : o.guard = none) (s x : Operand) (t : TypeId)
    (ho : o.op = .call { callee := .builtin .append, args := #[s, x], argTypes := #[t, t] }) (e : TypeId) (i : TypeInfo) (ht : P.underlying t = some (.slice e)) (hi : P.info? e = some i)
    (hs : a.eval s = .slice none 0 0) (A : Option Addr) (c : Nat) (hx : a.eval x = .slice A 0 c) (h : K (a.put o.dst (.slice none 0 0)) w) :
    if Region.wanted o (yielded ops a.tmps) = true then Oper.wp P o a w K Q else E := by
  have hw : Region.wanted o (yielded ops a.tmps) = true := by simp [Region.wanted, hgd]
  rw [if_pos hw]
  have hrun := run_append_nil_nothing (P := P) (w := w) t o.type e i ht hi A c
  unfold Oper.wp execOp
  simp only [ho, resolve, invoke, builtin, Sem.run_bind, Sem.run_pure, Result.andThen_ok, List.map_toArray, List.map_cons, List.map_nil, hs, hx, hrun]
  exact h

end Go.Proofs.YthnfoiaahiopdaaDoor
