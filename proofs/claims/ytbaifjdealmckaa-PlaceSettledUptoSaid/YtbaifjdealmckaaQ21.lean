/- Whether nothing that comes out is much. -/
import Derived.Test.YtbaifjdealmckaaGC
import Derived.Test.YtbaifjdealmckaaGL
set_option linter.unusedVariables false
set_option linter.unusedSimpArgs false
set_option linter.unnecessarySimpa false
namespace Go.Proofs.Ytbaifjdealmckaa
open Go.RowKit Go.Shelf Tr
attribute [local go_sem] Oper.semAt_some

def bigB (n : Int) : Bool := decide (1125899906842624 < n)
def smallB (x : PlanD) (r : RatesD) : Bool := decide (checkE x r = 0) && !(outV x r).any bigB
theorem smallB_is {x : PlanD} {r : RatesD} (h : smallB x r = true) : Small x r := by
  unfold smallB at h
  simp only [Bool.and_eq_true, Bool.not_eq_true', List.any_eq_false] at h
  intro y hy
  have := h.2 y hy
  unfold bigB at this
  simp at this
  omega
theorem small1_any (n : Int) (w : World) : Calls Try.prog 40 #[.int .i64 n] w fun e w' => e = .returned (.bool (bigB n)) ∧ w = w' := by
  unfold bigB
  go_enter Try.func40, Try.ntmps40
  go_wp2_with fail
  go_ret
  exact ⟨rfl, rfl⟩
set_option maxRecDepth 100000 in
set_option maxHeartbeats 2000000 in
theorem small_any (qv ov fv sv tv pv zv : Value) (x : PlanD) (r : RatesD) (w : World) (hpr : Pr w ov fv sv tv pv x r) : Calls Try.prog 18 #[.agg (grC qv ov fv sv tv pv zv)] w fun e w' => e = .returned (.bool (smallB x r)) ∧ Kept [] w w' := by
  have HO := Lib.hid (fun (W : World) (hk : Kept [] w W) => out_any ov fv sv tv pv x r W (hpr.keep hk).o (hpr.keep hk).f hpr.F (hpr.keep hk).s (hpr.keep hk).t (hpr.keep hk).p)
  have HC := Lib.hid (fun (W : World) (v : Value) (l : List Int) (h : RdI W .i64 v l) => contains_any 40 #[] #[] bigB v l W h (fun _ _ => rfl) (fun x => small1_any x W))
  obtain ⟨E, hE⟩ : ∃ E, smallB x r = E := ⟨_, rfl⟩
  rw [hE]
  unfold smallB at hE
  obtain ⟨ec, hec⟩ : ∃ ec, checkE x r = ec := ⟨_, rfl⟩
  rw [hec] at HO hE
  obtain ⟨O, hO⟩ : ∃ O, outV x r = O := ⟨_, rfl⟩
  rw [hO] at HO hE
  have HE := Lib.hid hE.symm
  clear hE hec hO hpr
  have HK0 := Lib.hid ((Kept.refl [] w).alloc (.cells (grC qv ov fv sv tv pv zv) 31))
  have HB := Lib.hid (Blk.new w (grC qv ov fv sv tv pv zv) 31)
  go_enter Try.func18, Try.ntmps18
  go_wp2_with fail
  obtain ⟨w0, hw0⟩ : ∃ w0, w.alloc (.cells (grC qv ov fv sv tv pv zv) 31) = w0 := ⟨_, rfl⟩
  rw [hw0] at HK0 HB ⊢
  clear hw0
  obtain ⟨a0, a1, a2, a3, a4, a5, a6⟩ := gr_cells HB.out
  refine (HO.out _ HK0.out).mono ?_
  rintro e w1 ⟨v1, rfl, o1, k1⟩
  have HR1 := Lib.hid (RdI.of_own o1).1
  have HK1 := Lib.hid (HK0.out.trans k1)
  clear o1 k1 a0 a1 a2 a3 a4 a5 a6
  by_cases h1 : ec = 0
  · subst h1
    rw [if_pos rfl] at HR1
    have HE1 : Hid (E = !O.any bigB) := by show _ = _; rw [HE.out]; rfl
    have HC1 := Lib.hid (HC.out w1 _ _ HR1.out)
    obtain ⟨q, hq⟩ : ∃ q, O.any bigB = q := ⟨_, rfl⟩
    rw [hq] at HC1 HE1
    clear hq
    go_wp2_with fail
    refine HC1.out.mono ?_
    rintro e w2 ⟨rfl, rfl⟩
    go_wp2_with fail
    go_ret
    exact ⟨by rw [HE1.out] <;> rfl, HK1.out⟩
  · have h1' : (ec != 0) = true := by rw [bne_iff_ne]; exact h1
    have HE1 : Hid (E = false) := by show _ = _; rw [HE.out, decide_eq_false h1]; rfl
    go_wp2_with fail
    go_ret
    exact ⟨by rw [HE1.out] <;> rfl, HK1.out⟩

end Go.Proofs.Ytbaifjdealmckaa
