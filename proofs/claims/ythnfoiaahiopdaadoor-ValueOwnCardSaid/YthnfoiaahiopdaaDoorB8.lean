/- Which values, names and attributes may be: the law's walk. -/
import Derived.Test.YthnfoiaahiopdaaDoorB7
import Derived.Test.YthnfoiaahiopdaaDoorVR
import Derived.Test.YthnfoiaahiopdaaDoorV8
import Derived.Test.YthnfoiaahiopdaaDoorV13
import Derived.Test.YthnfoiaahiopdaaDoorX8
set_option linter.unusedVariables false
set_option linter.unusedSimpArgs false
set_option linter.unnecessarySimpa false
namespace Go.Proofs.YthnfoiaahiopdaaDoor
open Go.RowKit Go.Shelf
attribute [local go_sem] Oper.semAt_some

def AttrsOf (w : World) (S : List AttrD) (x : Int) (e : Ending) (w' : World) : Prop := ∃ v, e = .returned (.tuple #[v, .int .i64 x]) ∧ Rds attrR w' v S ∧ Kept [] w w'
set_option maxRecDepth 100000 in
set_option maxHeartbeats 4000000 in
theorem lawChecks_any (k n : Int) (t s : ByteArray) (v : Value) (l : List AttrD) (w : World) (ht : t.size ≤ maxLen) (hs : s.size ≤ maxLen) (hx : Rds attrR w v l) (hb : l.length * 48 ≤ 140737488355328) :
    Calls Tryd.prog 7 #[.agg #[.int .i64 k, .int .i64 n, .string t], .string s, v] w fun e w' => e = .returned (.bool true) ∧ Kept [] w w' := by
  obtain ⟨S, hS⟩ : ∃ S, (attrsV l).1 = S := ⟨_, rfl⟩
  obtain ⟨x, hxx⟩ : ∃ x, (attrsV l).2 = x := ⟨_, rfl⟩
  have HAT : Hid (∀ W, Kept [] w W → Calls Tryd.prog 25 #[v] W (AttrsOf W S x)) := fun W hk => by have := lAttrs_any v l W (hx.keep hk) hb; unfold AttrsPost at this; rw [hS, hxx] at this; exact this
  have HRA : Hid (∀ W, Kept [] w W → Calls Tryd.prog 26 #[v] W (AttrsOf W S x)) := fun W hk => by have := rAttrs_any v l W (hx.keep hk); unfold AttrsPost at this; rw [hS, hxx] at this; exact this
  have HCK : Hid (∀ W, Calls Tryd.prog 27 #[.agg #[.int .i64 k, .int .i64 n, .string t]] W fun e w' => e = .returned (.int .i64 (chkV (k, n, t))) ∧ Kept [] W w') := fun W => check_any k n t ht W
  have HRC : Hid (∀ W, Calls Tryd.prog 28 #[.agg #[.int .i64 k, .int .i64 n, .string t]] W fun e w' => e = .returned (.int .i64 (chkV (k, n, t))) ∧ Kept [] W w') := fun W => rcheck_any k n t ht W
  have HNM : Hid (∀ W, Calls Tryd.prog 29 #[.string s] W fun e w' => e = .returned (.bool (nameV s)) ∧ Kept [] W w') := fun W => name_any s hs W
  have HRN : Hid (∀ W, Calls Tryd.prog 30 #[.string s] W fun e w' => e = .returned (.bool (nameV s)) ∧ W = w') := fun W => rname_any s hs W
  have HCA : Hid (∀ W, Kept [] w W → Calls Tryd.prog 31 #[v] W fun e w' => e = .returned (.int .i64 (chkA l)) ∧ Kept [] W w') := fun W hk => lCheckAttrs_any v l W (hx.keep hk)
  have HRCA : Hid (∀ W, Kept [] w W → Calls Tryd.prog 32 #[v] W fun e w' => e = .returned (.int .i64 (chkA l)) ∧ Kept [] W w') := fun W hk => rCheckAttrs_any v l W (hx.keep hk)
  have HSA : Hid (∀ W a b, Rds attrR W a S → Rds attrR W b S → Calls Tryd.prog 23 #[a, b] W fun e w' => e = .returned (.bool true) ∧ Kept [] W w') := fun W a b h1 h2 => by have := rsame_any a b S S W h1 h2; rwa [sameGo_self] at this
  obtain ⟨c1, hc1⟩ : ∃ c, chkV (k, n, t) = c := ⟨_, rfl⟩
  rw [hc1] at HCK HRC
  obtain ⟨c2, hc2⟩ : ∃ c, nameV s = c := ⟨_, rfl⟩
  rw [hc2] at HNM HRN
  obtain ⟨c3, hc3⟩ : ∃ c, chkA l = c := ⟨_, rfl⟩
  rw [hc3] at HCA HRCA
  have HK0 := Lib.hid ((Kept.refl [] w).alloc (.cells #[.int .i64 k, .int .i64 n, .string t] 23))
  have HA0 := Lib.hid (Blk.new w #[.int .i64 k, .int .i64 n, .string t] 23)
  clear hS hxx hc1 hc2 hc3 hx hb ht hs
  go_enter Tryd.func7, Tryd.ntmps7
  go_wp2_with fail
  refine (HAT.out _ HK0.out).mono ?_
  rintro e w1 ⟨va, rfl, hr1, hk1⟩
  have HK1 := Lib.hid (HK0.out.trans hk1)
  have HA1 := Lib.hid (HA0.out.kept hk1 (by simp))
  have HR1 := Lib.hid hr1
  clear hk1 hr1
  go_wp2_with fail
  refine (HRA.out _ HK1.out).mono ?_
  rintro e w2 ⟨vb, rfl, hr2, hk2⟩
  have HK2 := Lib.hid (HK1.out.trans hk2)
  have HA2 := Lib.hid (HA1.out.kept hk2 (by simp))
  have HR2 := Lib.hid (HR1.out.keep hk2)
  have HS2 := Lib.hid hr2
  clear hk2 hr2
  go_wp2_with fail
  have a0 : ∀ x : SW (Kept [] w2), x.to.cell? ⟨w.heap.size, 0, none⟩ = some (.int .i64 k) := fun x => (HA2.out.kept x.ok (by simp)).three.1
  have a1 : ∀ x : SW (Kept [] w2), x.to.cell? ⟨w.heap.size, 1, none⟩ = some (.int .i64 n) := fun x => (HA2.out.kept x.ok (by simp)).three.2.1
  have a2 : ∀ x : SW (Kept [] w2), x.to.cell? ⟨w.heap.size, 2, none⟩ = some (.string t) := fun x => (HA2.out.kept x.ok (by simp)).three.2.2.1
  have hall : ∀ x : SW (Kept [] w2), Kept [] w2 x.to := fun x => x.ok
  refine wp_region_sw (Kept [] w2) (stays_kept w2) (Kept.refl _ _) (by kernel_rfl) (by kernel_rfl) (fun hne => ?_)
  repeat (go_big_quiet_step (first
    | (go_at_call 12; exact SW.calls (stays_kept w2) (live_any _))
    | (go_at_call 27; exact SW.calls (stays_kept w2) (HCK.out _))
    | (go_at_call 28; exact SW.calls (stays_kept w2) (HRC.out _))
    | (go_at_call 29; exact SW.calls (stays_kept w2) (HNM.out _))
    | (go_at_call 30; exact SW.calls_same (HRN.out _))
    | (go_at_call 31; exact SW.calls (stays_kept w2) (HCA.out _ (HK2.out.trans (hall _))))
    | (go_at_call 32; exact SW.calls (stays_kept w2) (HRCA.out _ (HK2.out.trans (hall _))))
    | (go_at_call 23; exact SW.calls (stays_kept w2) (HSA.out _ _ _ (HR2.out.keep (hall _)) (HS2.out.keep (hall _))))))
  refine wpQuiet_nil ?_
  intro w7 hs7
  have HK7 := Lib.hid (HK2.out.trans hs7)
  clear hs7 a0 a1 a2 hall
  go_wp2_with fail
  go_ret
  exact ⟨rfl, HK7.out⟩

theorem checks_row (w : World) (c : Array Value) (x : ValD) (h : valR.K w x c.toList) (s : ByteArray) (hs : s.size ≤ 140737488351232) (A : Option Addr) (n d : Nat) (y : List AttrD) (hy : (Rk.slice attrR).K w y [.slice A n d]) (hz : n * 48 ≤ 140737488351232) :
    Calls Tryd.prog 7 #[.agg c, .string s, .slice A n d] w fun e w' => e = .returned (.bool true) ∧ Below w.heap.size w w' := by
  obtain ⟨rfl, ht⟩ := valR_cells h
  have hn : y.length = n := by
    obtain ⟨A', c', he, _⟩ := hy
    simp only [List.cons.injEq, and_true] at he
    injection he with _ h2 _
    exact h2.symm
  exact (lawChecks_any _ _ _ s _ y w ht (by unfold maxLen; omega) hy (by rw [hn]; omega)).mono fun e w' ⟨he, hk⟩ => ⟨he, hk.below⟩

end Go.Proofs.YthnfoiaahiopdaaDoor
