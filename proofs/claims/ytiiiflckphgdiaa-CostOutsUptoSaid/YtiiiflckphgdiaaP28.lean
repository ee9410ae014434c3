/- With greater rates nothing is less: what clones, and a list made greater in place. -/
import Derived.Test.YtiiiflckphgdiaaP27
import Derived.Test.YtiiiflckphgdiaaP25
import Derived.WalkSpells
set_option linter.unusedVariables false
set_option linter.unusedSimpArgs false
set_option linter.unnecessarySimpa false
namespace Go.Proofs.Ytiiiflckphgdiaa
open Go.RowKit Go.Shelf
attribute [local go_sem] Oper.semAt_some

set_option maxRecDepth 100000 in
set_option maxHeartbeats 1000000 in
/-- slices.Clone at numbers: nil stays nil; all else is a new row. -/
theorem clone64_any (u : Value) (xs : List Int) (w : World) (hx : RdI w .i64 u xs) (hsz : xs.length * 8 ≤ 140737488351232) (hnn : u.ownBlock ≠ none) :
    Calls Try.prog 24 #[u] w fun e w' => ∃ v, e = .returned v ∧ w'.ownsRow w.heap.size 2 1 v xs.length (xs.map (.int .i64)) ∧ Kept [] w w' := by
  obtain ⟨i0, hi, hz0, hz1, hz2⟩ := info_parts info64
  obtain ⟨A, c, rfl, hmx, hx⟩ := hx
  unfold maxLen at hmx
  cases A with
  | none => simp [Value.ownBlock] at hnn
  | some ad =>
    obtain ⟨b, off, sp⟩ := ad
    have hc : ∀ j u, (xs.map (Value.int .i64))[j]? = some u → w.cell? ((⟨b, off, sp⟩ : Addr).add j) = some u := by
      intro j u hu
      rw [List.getElem?_map] at hu
      obtain ⟨x, hxj, rfl⟩ := Option.map_eq_some_iff.1 hu
      obtain ⟨b', o', he, hcc⟩ := hx (by intro e; subst e; simp at hxj)
      cases he
      have ha : (⟨b, off, none⟩ : Addr).add j = ⟨b, off + j, none⟩ := by unfold Addr.add; split <;> simp_all
      rw [ha]
      exact hcc j x hxj
    have HC := Lib.hid hc
    have HX := Lib.hid hx
    clear hc hx
    have hnil : ∀ W, (binOp .eql 22 (.slice (some ⟨b, off, sp⟩) xs.length c) (.slice none 0 0)).run Try.prog W = .ok (.bool false) W := fun W => Lib.run_eql_slice_nil W 22 2 _ _ _ _ _ Try.underlying22
    go_enter Try.func24, Try.ntmps24
    go_wp2_with (at_builtin; refine wpList_append_own _ rfl _ _ 22 rfl w.heap.size 2 i0 (.int .i64 0) 1 8 Try.underlying22 hi hz0 hz1 hz2 rfl (by decide) _ 0 [] rfl ?c1 ⟨b, off, sp⟩ xs.length c (xs.map (.int .i64)) rfl (by simp) ?c2 (by simp [Value.oneCell']) ?c3 ?c4 ?c5 ?_)
    case c1 => exact World.ownsRow_made w #[] 0 (Nat.le_refl _) (Nat.zero_le _) rfl
    case c2 =>
      intro j u hu
      exact ((Kept.refl [] w).alloc _).cell (by simp) (HC.out j u hu)
    case c3 => unfold maxLen; omega
    case c4 => omega
    case c5 => simp
    intro v' w' hown hgrow _
    go_wp2
    go_ret
    refine ⟨v', rfl, hown, ?_⟩
    exact ((Kept.refl [] w).alloc _).grown hgrow (fun k hk => .inr (by simp [Value.ownBlock] at hk; omega))



end Go.Proofs.Ytiiiflckphgdiaa
