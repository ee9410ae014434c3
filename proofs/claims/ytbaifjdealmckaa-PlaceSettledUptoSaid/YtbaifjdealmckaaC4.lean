/- Products that stop at the top, the document's; rates. -/
import Derived.Test.YtbaifjdealmckaaC3
set_option linter.unusedVariables false
set_option linter.unusedSimpArgs false
set_option linter.unnecessarySimpa false
namespace Go.Proofs.Ytbaifjdealmckaa
open Go.RowKit Go.Shelf

theorem any_le_drop {l : List Int} {k : Nat} {x : Int} (p : Int → Bool) (hx : l[k]? = some x) : (l.drop k).any p = (p x || (l.drop (k + 1)).any p) := by
  obtain ⟨h1, h2⟩ := List.getElem?_eq_some_iff.1 hx
  rw [List.drop_eq_getElem_cons h1, h2, List.any_cons]

def ratesV (l : List Int) : Bool := !l.any rateBad

set_option maxRecDepth 100000 in
set_option maxHeartbeats 2000000 in
theorem rate_any (v : Value) (l : List Int) (w : World) (hx : RdI w .i64 v l) : Calls Try.prog 77 #[v] w fun e w' => e = .returned (.bool (ratesV l)) ∧ w = w' := by
  have CX := Lib.hid (contains_any 95 #[] #[] rateBad v l w hx (fun _ _ => rfl) (fun x => rate1_any x w))
  unfold ratesV
  obtain ⟨A, c, rfl, hmx, hx⟩ := hx
  clear hx
  obtain ⟨n, hn⟩ : ∃ n, l.length = n := ⟨_, rfl⟩
  rw [hn] at CX ⊢
  obtain ⟨g, hg⟩ : ∃ g, l.any rateBad = g := ⟨_, rfl⟩
  rw [hg] at CX ⊢
  clear hn hg
  go_enter Try.func77, Try.ntmps77
  go_wp2_with fail
  refine CX.out.mono ?_
  rintro e w' ⟨rfl, rfl⟩
  go_wp2_with fail
  go_ret
  exact ⟨rfl, rfl⟩

end Go.Proofs.Ytbaifjdealmckaa
