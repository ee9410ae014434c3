/- Memory is nobody else's: the law's walk. -/
import Derived.Test.YthnfoiaahiopdaaDoorB8
set_option linter.unusedVariables false
set_option linter.unusedSimpArgs false
set_option linter.unnecessarySimpa false
namespace Go.Proofs.YthnfoiaahiopdaaDoor
open Go.RowKit Go.Shelf
attribute [local go_sem] Oper.semAt_some

theorem OwnA.set {base : Nat} {w : World} {v : Value} {n i : Nat} {y : Value} (h : OwnA base w v n) {g c : Nat} (hv : v = .slice (some ⟨g, 0, none⟩) n c) : OwnA base (w.setCell ⟨g, i * 4, none⟩ y) v n := fun j hj => by
  obtain ⟨g', c', x, h1, h2, h3, h4⟩ := h j hj
  have e : g' = g := by
    rw [hv] at h1
    injection h1 with q1 _ _
    injection q1 with q1
    injection q1 with q1 _ _
    exact q1.symm
  subst e
  by_cases hij : i = j
  · subst hij
    exact ⟨g', c', y, h1, h2, World.cell?_setCell_same _ _ _ h3, by rw [World.frozen?_setCell]; exact h4⟩
  · exact ⟨g', c', x, h1, h2, by rw [World.cell?_setCell_other (h := by intro q; injection q with _ q _; omega)]; exact h3, by rw [World.frozen?_setCell]; exact h4⟩
def AttrsOwnOf (w : World) (S : List AttrD) (x : Int) (e : Ending) (w' : World) : Prop := ∃ v, e = .returned (.tuple #[v, .int .i64 x]) ∧ Rds attrR w' v S ∧ OwnA w.heap.size w' v S.length ∧ Kept [] w w'

set_option maxRecDepth 100000 in
set_option maxHeartbeats 4000000 in
theorem lawOwn_any (v : Value) (l : List AttrD) (w : World) (hx : Rds attrR w v l) (hb : l.length * 48 ≤ 140737488355328) :
    Calls Tryd.prog 8 #[v] w fun e w' => e = .returned (.bool true) ∧ Kept [] w w' := by
  have HX := Lib.hid hx
  obtain ⟨S, hS⟩ : ∃ S, (attrsV l).1 = S := ⟨_, rfl⟩
  obtain ⟨x, hxx⟩ : ∃ x, (attrsV l).2 = x := ⟨_, rfl⟩
  have HAO : Hid (∀ W, Kept [] w W → Calls Tryd.prog 25 #[v] W (AttrsOwnOf W S x)) := fun W hk => by have := lAttrs_own v l W (hx.keep hk) hb; unfold AttrsPostL at this; rw [hS, hxx] at this; exact this
  have HAT : Hid (∀ W, Kept [] w W → Calls Tryd.prog 25 #[v] W (AttrsOf W S x)) := fun W hk => by have := lAttrs_any v l W (hx.keep hk) hb; unfold AttrsPost at this; rw [hS, hxx] at this; exact this
  have HRA : Hid (∀ W u, Rds attrR W u l → Calls Tryd.prog 26 #[u] W (AttrsOf W S x)) := fun W u hr => by have := rAttrs_any u l W hr; unfold AttrsPost at this; rw [hS, hxx] at this; exact this
  have HCL : Hid (∀ W, Kept [] w W → Calls Tryd.prog 24 #[v] W (ReadPost W l)) := fun W hk => clone_attrs v l W (hx.keep hk) hb
  have HEQ : Hid (∀ W u, Kept [] w W → Rds attrR W u l → Calls Tryd.prog 33 #[v, u] W fun e w' => e = .returned (.bool true) ∧ Kept [] W w') := fun W u hk hr => by have := equal_attrs v u l l W (hx.keep hk) hr; rwa [sameGo_self] at this
  have HSA : Hid (∀ W a b, Rds attrR W a S → Rds attrR W b S → Calls Tryd.prog 23 #[a, b] W fun e w' => e = .returned (.bool true) ∧ Kept [] W w') := fun W a b h1 h2 => by have := rsame_any a b S S W h1 h2; rwa [sameGo_self] at this
  clear hS hxx hx hb
  go_enter Tryd.func8, Tryd.ntmps8
  go_wp2_with fail
  refine (HCL.out _ (Kept.refl _ _)).mono ?_
  rintro e w1 ⟨vw, rfl, hr1, _, hk1⟩
  have HK1 := Lib.hid hk1
  have HR1 := Lib.hid hr1
  clear hk1 hr1
  go_wp2_with fail
  refine (HAO.out _ HK1.out).mono ?_
  rintro e w2 ⟨va, rfl, hr2, ho2, hk2⟩
  obtain ⟨A, c, rfl, hmx⟩ := hr2.form
  obtain ⟨m, hm⟩ : ∃ m, S.length = m := ⟨_, rfl⟩
  rw [hm] at ho2 hr2 hmx ⊢
  have HO2 := Lib.hid ho2
  have HK2 := Lib.hid hk2
  clear hr2 ho2 hk2 hm
  go_wp2_with fail
  go_loopw [20] (fun ii wr => ∃ (i : Nat), ii = .int .i64 i ∧ i ≤ m ∧ OwnA w1.heap.size wr (.slice A m c) m ∧ Kept [] w1 wr) (fun ii _ => m - (intOf ii).toNat)
  case atStart => exact ⟨0, rfl, Nat.zero_le _, HO2.out, HK2.out⟩
  case round =>
    obtain ⟨i, rfl, hi, ho, hK⟩ := hrel
    have HO := Lib.hid ho
    have HK := Lib.hid hK
    by_cases hlt : i < m
    · obtain ⟨g, c', y, he, hgb, hcell, hfr⟩ := ho i hlt
      injection he with he1 he2 he3
      subst he1 he3
      have HGB := Lib.hid hgb
      have hk0 : (0 : Int) ≤ (i : Int) := by omega
      have hkn : (i : Int) < (m : Int) := by omega
      clear ho hK hgb he2
      go_wp2_with fail
      go_roundw
      case rel => exact ⟨i + 1, by go_num, by omega, HO.out.set rfl, HK.out.setCell (.inr HGB.out) _⟩
      case measure => simp [intOf]; omega
    · have hie : i = m := by omega
      clear ho hK
      go_wp2_with fail
      refine (HRA.out _ vw (HR1.out.keep HK.out)).mono ?_
      rintro e w3 ⟨vb, rfl, hr3, hk3⟩
      have HK3 := Lib.hid ((HK1.out.trans HK.out).trans hk3)
      have HR3 := Lib.hid hr3
      have HW3 := Lib.hid ((HR1.out.keep HK.out).keep hk3)
      clear hr3 hk3
      go_wp2_with fail
      refine (HAT.out _ HK3.out).mono ?_
      rintro e w4 ⟨vc, rfl, hr4, hk4⟩
      have HK4 := Lib.hid (HK3.out.trans hk4)
      have HR4 := Lib.hid (HR3.out.keep hk4)
      have HW4 := Lib.hid (HW3.out.keep hk4)
      have HC4 := Lib.hid hr4
      clear hr4 hk4
      go_wp2_with fail
      refine (live_any _).mono ?_
      rintro e w5 ⟨rfl, hk5⟩
      have HK5 := Lib.hid (HK4.out.trans hk5)
      have HR5 := Lib.hid (HR4.out.keep hk5)
      have HW5 := Lib.hid (HW4.out.keep hk5)
      have HC5 := Lib.hid (HC4.out.keep hk5)
      clear hk5
      go_wp2_with fail
      refine (HEQ.out _ _ HK5.out HW5.out).mono ?_
      rintro e w6 ⟨rfl, hk6⟩
      have HK6 := Lib.hid (HK5.out.trans hk6)
      have HR6 := Lib.hid (HR5.out.keep hk6)
      have HC6 := Lib.hid (HC5.out.keep hk6)
      clear hk6
      go_wp2_with fail
      refine (HSA.out _ _ _ HC6.out HR6.out).mono ?_
      rintro e w7 ⟨rfl, hk7⟩
      have HK7 := Lib.hid (HK6.out.trans hk7)
      clear hk7
      go_wp2_with fail
      go_ret
      exact ⟨rfl, HK7.out⟩

theorem own_row3 (w : World) (A : Option Addr) (n d : Nat) (y : List AttrD) (hy : (Rk.slice attrR).K w y [.slice A n d]) (hz : n * 48 ≤ 140737488351232) :
    Calls Tryd.prog 8 #[.slice A n d] w fun e w' => e = .returned (.bool true) ∧ Below w.heap.size w w' := by
  have hn : y.length = n := by
    obtain ⟨A', c', he, _⟩ := hy
    simp only [List.cons.injEq, and_true] at he
    injection he with _ h2 _
    exact h2.symm
  exact (lawOwn_any _ y w hy (by rw [hn]; omega)).mono fun e w' ⟨he, hk⟩ => ⟨he, hk.below⟩

end Go.Proofs.YthnfoiaahiopdaaDoor
