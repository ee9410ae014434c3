/- Values by names: any name. -/
import Derived.Test.YthnfoiaahiopdaaDoorRows
import Derived.WalkKit
import Derived.WalkSpells
import Derived.WalkLawsBesides
import Derived.Deep.QuietTactic
import Derived.BigQuiet
import Derived.Lib.Hide
import Derived.Lib.ConvBytes
import Derived.Deep.Slices
import Derived.ProofKit
import Derived.SizedLaws
import Derived.Test.YthnfoiaahiopdaaDoorShelf
import Derived.Laws.BytesArg
import Derived.Laws.BitsLemmas
import Derived.Deep.RegionHeld3
import Derived.Deep.AppendLies
import Derived.Maps.AppendAt
import Derived.Test.YthnfoiaahiopdaaDoorV12
set_option linter.unusedVariables false
set_option linter.unusedSimpArgs false
set_option linter.unnecessarySimpa false
namespace Go.Proofs.YthnfoiaahiopdaaDoor
open Go.RowKit Go.Shelf
attribute [local go_sem] Oper.semAt_some

set_option maxRecDepth 100000 in
set_option maxHeartbeats 4000000 in
theorem lawGets_any (v u : Value) (l m : List AttrD) (s : ByteArray) (w : World) (hx : Rds attrR w v l) (hy : Rds attrR w u m) (hb : l.length * 48 ≤ 140737488355328) :
    Calls Tryd.prog 6 #[v, u, .string s] w fun e w' => e = .returned (.bool true) ∧ Kept [] w w' := by
  have HG1 : Hid (∀ W, Kept [] w W → Calls Tryd.prog 20 #[v, .string s] W fun e w' => e = .returned (.tuple #[valA (getV s l).1, .bool (getV s l).2]) ∧ Kept [] W w') := fun W hk => get_any v l s W (hx.keep hk)
  have HG2 : Hid (∀ W, Kept [] w W → Calls Tryd.prog 21 #[v, .string s] W fun e w' => e = .returned (.tuple #[valA (getV s l).1, .bool (getV s l).2]) ∧ Kept [] W w') := fun W hk => rget_any v l s W (hx.keep hk)
  have HS1 : Hid (∀ W, Kept [] w W → Calls Tryd.prog 22 #[v, u] W fun e w' => e = .returned (.bool (sameGo l m)) ∧ Kept [] W w') := fun W hk => same_any v u l m W (hx.keep hk) (hy.keep hk)
  have HS2 : Hid (∀ W, Kept [] w W → Calls Tryd.prog 23 #[v, u] W fun e w' => e = .returned (.bool (sameGo l m)) ∧ Kept [] W w') := fun W hk => rsame_any v u l m W (hx.keep hk) (hy.keep hk)
  have HCL : Hid (∀ W, Kept [] w W → Calls Tryd.prog 24 #[v] W (ReadPost W l)) := fun W hk => clone_attrs v l W (hx.keep hk) hb
  have HS3 : Hid (∀ W x, Kept [] w W → Rds attrR W x l → Calls Tryd.prog 22 #[v, x] W fun e w' => e = .returned (.bool true) ∧ Kept [] W w') := fun W x hk hr => by have := same_any v x l l W (hx.keep hk) hr; rwa [sameGo_self] at this
  obtain ⟨G, hG⟩ : ∃ G, getV s l = G := ⟨_, rfl⟩
  rw [hG] at HG1 HG2
  obtain ⟨⟨g1, g2, g3⟩, g4⟩ := G
  obtain ⟨q, hq⟩ : ∃ q, sameGo l m = q := ⟨_, rfl⟩
  rw [hq] at HS1 HS2
  clear hG hq hx hy hb
  go_enter Tryd.func6, Tryd.ntmps6
  go_wp2_with fail
  refine (HG1.out _ (Kept.refl [] w)).mono ?_
  rintro e w1 ⟨rfl, hk1⟩
  have HK1 := Lib.hid hk1
  clear hk1
  simp only [valA]
  go_wp2_with fail
  have HB1 := Lib.hid (Blk.new w1 #[.int .i64 g1, .int .i64 g2, .string g3] 23)
  refine (HG2.out _ (HK1.out.alloc _)).mono ?_
  rintro e w2 ⟨rfl, hk2⟩
  have HK2 := Lib.hid ((HK1.out.alloc _).trans hk2)
  have HB2 := Lib.hid (HB1.out.kept hk2 (by simp))
  clear hk2
  simp only [valA]
  go_wp2_with fail
  have HB3 := Lib.hid (HB2.out.alloc (.cells #[.int .i64 g1, .int .i64 g2, .string g3] 23))
  have HC3 := Lib.hid (Blk.new w2 #[.int .i64 g1, .int .i64 g2, .string g3] 23)
  refine (live_any _).mono ?_
  rintro e w3 ⟨rfl, hk3⟩
  have HK3 := Lib.hid ((HK2.out.alloc _).trans hk3)
  have b4 := HB3.out.kept hk3 (by simp)
  have c4 := HC3.out.kept hk3 (by simp)
  have x0 := b4.cell 0
  have x1 := b4.cell 1
  have x2 := b4.cell 2
  have y0 := c4.cell 0
  have y1 := c4.cell 1
  have y2 := c4.cell 2
  simp at x0 x1 x2 y0 y1 y2
  clear hk3 b4 c4
  go_wp2_with fail
  refine (HS1.out _ HK3.out).mono ?_
  rintro e w4 ⟨rfl, hk4⟩
  have HK4 := Lib.hid (HK3.out.trans hk4)
  clear hk4 x0 x1 x2 y0 y1 y2
  go_wp2_with fail
  refine (HS2.out _ HK4.out).mono ?_
  rintro e w5 ⟨rfl, hk5⟩
  have HK5 := Lib.hid (HK4.out.trans hk5)
  clear hk5
  go_wp2_with fail
  refine (HCL.out _ HK5.out).mono ?_
  rintro e w6 ⟨x, rfl, hr, _, hk6⟩
  have HK6 := Lib.hid (HK5.out.trans hk6)
  have HR := Lib.hid hr
  clear hk6 hr
  go_wp2_with fail
  refine (HS3.out _ _ HK6.out HR.out).mono ?_
  rintro e w7 ⟨rfl, hk7⟩
  have HK7 := Lib.hid (HK6.out.trans hk7)
  clear hk7
  go_wp2_with fail
  go_ret
  exact ⟨rfl, HK7.out⟩

theorem gets_row (w : World) (A : Option Addr) (n c : Nat) (x : List AttrD) (hx : (Rk.slice attrR).K w x [.slice A n c]) (hy : n * 48 ≤ 140737488351232) (B : Option Addr) (m d : Nat) (y : List AttrD) (hz : (Rk.slice attrR).K w y [.slice B m d]) (s : ByteArray) (hs : s.size ≤ 140737488351232) :
    Calls Tryd.prog 6 #[.slice A n c, .slice B m d, .string s] w fun e w' => e = .returned (.bool true) ∧ Below w.heap.size w w' := by
  have hn : x.length = n := by
    obtain ⟨A', c', he, _⟩ := hx
    simp only [List.cons.injEq, and_true] at he
    injection he with _ h2 _
    exact h2.symm
  exact (lawGets_any _ _ x y s w hx hz (by rw [hn]; omega)).mono fun e w' ⟨he, hk⟩ => ⟨he, hk.below⟩

end Go.Proofs.YthnfoiaahiopdaaDoor
