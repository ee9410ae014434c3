/- The sort's parts: two held against each other; a run of exchanges. -/
import Derived.Test.YthnfoiaahiopdaaDoorA1
import Derived.Test.YthnfoiaahiopdaaDoorShelf
import Derived.Test.YthnfoiaahiopdaaDoorKq
import Derived.Shelf.SlSortCmp.KitK
import Derived.Shelf.SlSortCmp.QuietGrown
set_option linter.unusedVariables false
set_option linter.unusedSimpArgs false
set_option linter.unnecessarySimpa false
namespace Go.Proofs.YthnfoiaahiopdaaDoor
open Go.RowKit Go.Shelf Go.Lib Go.Sort
attribute [local go_sem] Oper.semAt_some

instance : Inhabited AttrD := ⟨dA⟩
def cfA (x y : AttrD) : Int := cmpB x.1 y.1
theorem cmpA_any (x y : AttrD) (W : World) : Calls Tryd.prog 45 #[.agg (attrC x).toArray, .agg (attrC y).toArray] W fun e w' => e = .returned (.int .i64 (cfA x y)) ∧ ∃ q os', w' = grow (W.drewN q) os' := by
  obtain ⟨n1, a1, a2, a3⟩ := x
  obtain ⟨n2, b1, b2, b3⟩ := y
  have HC : Hid (∀ W', Calls Tryd.prog 38 #[.string n1, .string n2] W' fun e w' => e = .returned (.int .i64 (cfA (n1, a1, a2, a3) (n2, b1, b2, b3))) ∧ w' = W') := fun W' => Tryd.strings_Compare n1 n2 W'
  simp only [attrC]
  generalize cfA (n1, a1, a2, a3) (n2, b1, b2, b3) = r at HC ⊢
  go_enter Tryd.func45, Tryd.ntmps45
  go_wp2_with (go_at_call 38; refine (HC.out _).mono ?_; rintro e w' ⟨rfl, rfl⟩)
  go_ret
  exact ⟨rfl, 0, _, by rw [alloc_eq_grow, alloc_eq_grow, grow_grow]; rfl⟩
theorem cmpLaysA (blk off size : Nat) (w : World) : CmpLays Tryd.prog 45 #[] attrC 4 cfA blk off size w := fun _ _ _ _ x y => cmpA_any x y _
/-- What the sort is told of the row. -/
abbrev RowA (w0 : World) (g : Nat) (d0 : Array AttrD) : Prop := RowK attrC 4 w0 g 0 d0
abbrev SWA (w0 : World) (g : Nat) (d : Array AttrD) (W : World) : Prop := SWK attrC 4 w0 g 0 d W
theorem RowA.of {w0 : World} {g : Nat} {d0 : Array AttrD} (h : HoldsK attrC 4 w0 g 0 d0) (hb : g < w0.heap.size) : RowA w0 g d0 := ⟨fun _ => rfl, fun x v hv => by simp [attrC] at hv; rcases hv with rfl | rfl | rfl | rfl <;> rfl, h, hb⟩
/-- The cells of one. -/
theorem SWK.at4 {w0 W : World} {g : Nat} {d0 d : Array AttrD} (S : SWA w0 g d W) (R : RowA w0 g d0) (hs : d.size = d0.size) {i : Nat} (hi : i < d.size) {n : ByteArray} {k v : Int} {s : ByteArray} (hx : d[i]! = (n, k, v, s)) :
    W.cell? ⟨g, i * 4, none⟩ = some (.string n) ∧ W.cell? ⟨g, i * 4 + 1, none⟩ = some (.int .i64 k) ∧ W.cell? ⟨g, i * 4 + 2, none⟩ = some (.int .i64 v) ∧ W.cell? ⟨g, i * 4 + 3, none⟩ = some (.string s) ∧
    W.frozen? ⟨g, i * 4, none⟩ = false ∧ W.frozen? ⟨g, i * 4 + 1, none⟩ = false ∧ W.frozen? ⟨g, i * 4 + 2, none⟩ = false ∧ W.frozen? ⟨g, i * 4 + 3, none⟩ = false := by
  have h := HoldsK.cells (S.holds R.hblk R.hH hs) R.hk hi
  rw [hx, Nat.zero_add] at h
  have hf : ∀ c, c < 4 → W.frozen? ⟨g, i * 4 + c, none⟩ = false := fun c hc => by
    have := ((S.holds R.hblk R.hH hs).cell hi hc).2
    rw [Nat.zero_add] at this
    exact this
  have e : ∀ c, ((⟨g, i * 4, none⟩ : Addr).add c) = ⟨g, i * 4 + c, none⟩ := fun c => Addr.add_lit _ _ _
  have h0 := h 0 _ rfl
  have h1 := h 1 _ rfl
  have h2 := h 2 _ rfl
  have h3 := h 3 _ rfl
  rw [e] at h0 h1 h2 h3
  exact ⟨h0, h1, h2, h3, hf 0 (by decide), hf 1 (by decide), hf 2 (by decide), hf 3 (by decide)⟩

end Go.Proofs.YthnfoiaahiopdaaDoor
