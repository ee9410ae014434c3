/- It gets cheaper: the walk of PlaceCheaper. -/
import Derived.Test.YtbaifjdealmckaaQ21
set_option linter.unusedVariables false
set_option linter.unusedSimpArgs false
set_option linter.unnecessarySimpa false
namespace Go.Proofs.Ytbaifjdealmckaa
open Go.RowKit Go.Shelf Tr
attribute [local go_sem] Oper.semAt_some

set_option maxRecDepth 100000 in
set_option maxHeartbeats 4000000 in
theorem cheaper_any (qv ov fv sv tv pv zv av : Value) (P : List Int) (x : PlanD) (r : RatesD) (S A : List Int) (w : World) (hg : Gr w qv ov fv sv tv pv zv P x r S) (ha : Rds (Rk.int .i64) w av A) :
    Calls Try.prog 4 #[.agg (grC qv ov fv sv tv pv zv), av] w fun e w' => e = .returned (.bool true) ∧ Kept [] w w' := by
  obtain ⟨i0, hi0, hz0, hz1, hz2⟩ := info_parts info64
  have HTS := Lib.hid (fun (W : World) (hk : Kept [] w W) => trees_any qv ov fv sv tv pv zv P W (hg.keep hk).q.ints)
  have HSM := Lib.hid (fun (W : World) (hk : Kept [] w W) => small_any qv ov fv sv tv pv zv x r W (hg.keep hk).pr)
  have HIM := Lib.hid (fun (tb : Nat) (W : World) (hk : Kept [] w W) (he : treeErr P = 0) (ht : TreeAt W tb P) => improve_any tb P ov fv sv tv pv av zv x r A S W ht (tree_of he) (hg.keep hk).pr (ha.keep hk) (hg.keep hk).z)
  have HAT := Lib.hid (fun (tb : Nat) (W : World) (hk : Kept [] w W) (he : treeErr P = 0) (ht : TreeAt W tb P) => atroot_any tb P ov fv x W ht (tree_of he) (hg.keep hk).pr.o (hg.keep hk).pr.f hg.pr.F)
  have HGR := Lib.hid (fun (tb : Nat) (W : World) (hk : Kept [] w W) (he : treeErr P = 0) (ht : TreeAt W tb P) => greedy_any tb P ov fv sv tv pv zv x r S W ht (tree_of he) (hg.keep hk).pr (hg.keep hk).z)
  have HCH : Hid (∀ (tb : Nat) (v : Value) (L : List Int) (W : World), Kept [] w W → treeErr P = 0 → TreeAt W tb P → Rds (Rk.int .i64) W v L → Good P x r S L → Calls Try.prog 11 #[.pointer (some ⟨tb, 0, none⟩), .agg #[ov, fv], v, zv] W fun e w' => e = .returned (.int .i64 0) ∧ Kept [] W w') := fun tb v L W hk he ht hv hG => by
    have := check_any tb P ov fv v zv x L S W ht (tree_of he) (hg.keep hk).pr.o (hg.keep hk).pr.f hg.pr.F hv (hg.keep hk).z
    rwa [hG.stand] at this
  have HTR : Hid (∀ (tb : Nat) (v : Value) (L : List Int) (W : World), Kept [] w W → treeErr P = 0 → TreeAt W tb P → Rds (Rk.int .i64) W v L → Good P x r S L → Calls Try.prog 17 #[.pointer (some ⟨tb, 0, none⟩), .agg #[ov, fv], .agg #[sv, tv, pv], v, zv] W fun e w' => e = .returned (.tuple #[.int .i64 (trafV P x r L S), .int .i64 0]) ∧ Kept [] W w') := fun tb v L W hk he ht hv hG => by
    have h2 := (hg.keep hk).pr
    have := traffic_any tb P ov fv sv tv pv v zv x r L S W ht (tree_of he) h2.o h2.f h2.F h2.s h2.t h2.p hv.ints hv (hg.keep hk).z.ints (hg.keep hk).z
    rwa [hG.model] at this
  have HGA : Hid (treeErr P = 0 → lookE P x r A S 0 = 0 → Good P x r S A ∧ Good P x r S (impV P x r S A).1 ∧ Good P x r S (rootsV P x) ∧ greedE P x r S = 0 ∧ Good P x r S (greedV P x r S) ∧ planV x = true ∧ (impV P x r S A).2 ≤ 32 ∧
      (smallB x r = true → trafV P x r (impV P x r S A).1 S ≤ trafV P x r A S ∧ ((impV P x r S A).2 = 0 ↔ trafV P x r (impV P x r S A).1 S = trafV P x r A S) ∧ trafV P x r (greedV P x r S) S ≤ trafV P x r (rootsV P x) S)) := fun he hl => by
    have hT := tree_of he
    have hG := (lookE_zero hl).1
    obtain ⟨s1, s2, s3⟩ := standE_zero hG.stand
    have hR : Good P x r S (rootsV P x) := ⟨root_stand hT s1 s2, hG.check, hG.src⟩
    have hf := hG.facts
    have hl2 : lookE P x r (rootsV P x) S 0 = 0 := hR.look (by omega) (by omega)
    unfold greedE greedV impV
    rw [if_pos hl, if_pos hl2, if_pos s1]
    refine ⟨hG, impG_good hT hG _ (Nat.le_refl _), hR, hl2, impG_good hT hR _ (Nat.le_refl _), s1, ?_, fun hs => ?_⟩
    · have := impG_moved (P := P) (x := x) (r := r) (S := S) (A := A) x.1.length
      omega
    · obtain ⟨c1, c2⟩ := cheaper_law hT hG (smallB_is hs)
      exact ⟨c1, c2, (cheaper_law hT hR (smallB_is hs)).1⟩
  obtain ⟨et, het⟩ : ∃ et, treeErr P = et := ⟨_, rfl⟩
  rw [het] at HTS HIM HAT HGR HCH HTR HGA
  obtain ⟨E, hE⟩ : ∃ E, lookE P x r A S 0 = E := ⟨_, rfl⟩
  rw [hE] at HIM HGA
  obtain ⟨q, hq⟩ : ∃ q, impV P x r S A = q := ⟨_, rfl⟩
  rw [hq] at HIM HGA
  obtain ⟨L, m⟩ := q
  obtain ⟨R, hR⟩ : ∃ R, rootsV P x = R := ⟨_, rfl⟩
  rw [hR] at HAT HGA
  obtain ⟨G, hG⟩ : ∃ G, greedV P x r S = G := ⟨_, rfl⟩
  rw [hG] at HGR HGA
  obtain ⟨EG, hEG⟩ : ∃ E, greedE P x r S = E := ⟨_, rfl⟩
  rw [hEG] at HGR HGA
  obtain ⟨pl, hpl⟩ : ∃ p, planV x = p := ⟨_, rfl⟩
  rw [hpl] at HAT HGA
  obtain ⟨sb, hsb⟩ : ∃ b, smallB x r = b := ⟨_, rfl⟩
  rw [hsb] at HSM HGA
  dsimp only at HGA
  obtain ⟨c0, hc0⟩ : ∃ c, trafV P x r A S = c := ⟨_, rfl⟩
  obtain ⟨c1, hc1⟩ : ∃ c, trafV P x r L S = c := ⟨_, rfl⟩
  obtain ⟨c2, hc2⟩ : ∃ c, trafV P x r R S = c := ⟨_, rfl⟩
  obtain ⟨c3, hc3⟩ : ∃ c, trafV P x r G S = c := ⟨_, rfl⟩
  rw [hc0, hc1, hc2, hc3] at HGA
  have HC0 := Lib.hid hc0
  have HC1 := Lib.hid hc1
  have HC2 := Lib.hid hc2
  have HC3 := Lib.hid hc3
  have HAV := Lib.hid ha
  obtain ⟨AA, ac, rfl, hmA⟩ := ha.form
  obtain ⟨na, hna⟩ : ∃ n, A.length = n := ⟨_, rfl⟩
  rw [hna] at HIM HAV ⊢
  clear het hE hq hR hG hEG hpl hsb hc0 hc1 hc2 hc3 ha hg hna hmA
  have HK0 := Lib.hid ((Kept.refl [] w).alloc (.cells (grC qv ov fv sv tv pv zv) 31))
  have HB := Lib.hid (Blk.new w (grC qv ov fv sv tv pv zv) 31)
  go_enter Try.func4, Try.ntmps4
  go_wp2_with fail
  obtain ⟨w0, hw0⟩ : ∃ w0, w.alloc (.cells (grC qv ov fv sv tv pv zv) 31) = w0 := ⟨_, rfl⟩
  rw [hw0] at HK0 HB ⊢
  clear hw0
  obtain ⟨a0, a1, a2, a3, a4, a5, a6⟩ := gr_cells HB.out
  refine (HTS.out _ HK0.out).mono ?_
  rintro e w1 ⟨k1, h1⟩
  have HK1 := Lib.hid k1
  clear k1 a0 a1 a2 a3 a4 a5 a6
  rcases h1 with ⟨hE, rfl⟩ | ⟨rfl, tb, rb, tvv, rfl, hta, -⟩
  · go_wp2_with fail
    refine (live_any _).mono ?_
    rintro e w2 ⟨rfl, k2⟩
    have HK2 := Lib.hid (HK1.out.trans k2)
    clear k2
    go_wp2_with fail
    go_ret
    exact ⟨rfl, HK0.out.trans HK2.out⟩
  · have HT1 := Lib.hid hta
    clear hta
    go_wp2_with fail
    refine (live_any _).mono ?_
    rintro e w2 ⟨rfl, k2⟩
    have HK2 := Lib.hid (HK1.out.trans k2)
    have HT2 := Lib.hid (HT1.out.keep k2)
    clear k2
    obtain ⟨a0, a1, a2, a3, a4, a5, a6⟩ := gr_cells (HB.out.kept HK2.out (by simp))
    go_wp2_with fail
    refine (HIM.out _ _ (HK0.out.trans HK2.out) (by first | trivial | rfl) HT2.out).mono ?_
    rintro e w3 ⟨v3, rfl, hv3, kq⟩
    dsimp only at hv3 ⊢
    have HV3 := Lib.hid hv3
    have HT3 := Lib.hid (HT2.out.keep kq)
    clear hv3
    have HK3 := Lib.hid (HK2.out.trans kq)
    clear kq a0 a1 a2 a3 a4 a5 a6
    obtain ⟨a0, a1, a2, a3, a4, a5, a6⟩ := gr_cells (HB.out.kept HK3.out (by simp))
    by_cases h1 : E = 0
    · subst h1
      obtain ⟨gA, gL, gR, hEG, gG, hpl, hm32, hlaw⟩ := HGA.out (by first | trivial | rfl) rfl
      subst hEG hpl
      rw [show errPlan true = 0 from rfl, if_pos rfl] at HAT
      have HgA := Lib.hid gA
      have HgL := Lib.hid gL
      have HgR := Lib.hid gR
      have HgG := Lib.hid gG
      have HLAW := Lib.hid hlaw
      clear gA gL gR gG hlaw
      go_wp2_with fail
      refine (HAT.out _ _ (HK0.out.trans HK3.out) (by first | trivial | rfl) HT3.out).mono ?_
      rintro e w4 ⟨v4, rfl, hv4, kq⟩
      have HV4 := Lib.hid hv4
      have HT4 := Lib.hid (HT3.out.keep kq)
      have HV34 := Lib.hid (HV3.out.keep kq)
      clear hv4
      have HK4 := Lib.hid (HK3.out.trans kq)
      clear kq a0 a1 a2 a3 a4 a5 a6
      obtain ⟨a0, a1, a2, a3, a4, a5, a6⟩ := gr_cells (HB.out.kept HK4.out (by simp))
      go_wp2_with fail
      refine (HGR.out _ _ (HK0.out.trans HK4.out) (by first | trivial | rfl) HT4.out).mono ?_
      rintro e w5 ⟨v5, rfl, hv5, kq⟩
      have HV5 := Lib.hid hv5
      have HT5 := Lib.hid (HT4.out.keep kq)
      have HV35 := Lib.hid (HV34.out.keep kq)
      have HV45 := Lib.hid (HV4.out.keep kq)
      clear hv5
      have HK5 := Lib.hid (HK4.out.trans kq)
      clear kq a0 a1 a2 a3 a4 a5 a6
      obtain ⟨a0, a1, a2, a3, a4, a5, a6⟩ := gr_cells (HB.out.kept HK5.out (by simp))
      go_wp2_with fail
      refine (HCH.out _ _ _ _ (HK0.out.trans HK5.out) (by first | trivial | rfl) HT5.out HV35.out HgL.out).mono ?_
      rintro e w6 ⟨rfl, kq⟩
      have HK56 := Lib.hid kq
      have HK6 := Lib.hid (HK5.out.trans kq)
      clear kq a0 a1 a2 a3 a4 a5 a6
      obtain ⟨a0, a1, a2, a3, a4, a5, a6⟩ := gr_cells (HB.out.kept HK6.out (by simp))
      go_wp2_with fail
      refine (HCH.out _ _ _ _ (HK0.out.trans HK6.out) (by first | trivial | rfl) (HT5.out.keep HK56.out) (HV5.out.keep HK56.out) HgG.out).mono ?_
      rintro e w7 ⟨rfl, kq⟩
      have HK57 := Lib.hid (HK56.out.trans kq)
      have HK7 := Lib.hid (HK6.out.trans kq)
      clear kq a0 a1 a2 a3 a4 a5 a6
      obtain ⟨a0, a1, a2, a3, a4, a5, a6⟩ := gr_cells (HB.out.kept HK7.out (by simp))
      clear a0 a1 a2 a3 a4 a5 a6
      obtain ⟨A3, n3, k3, rfl⟩ : ∃ A n c, v3 = .slice A n c := by obtain ⟨A, c, h, _⟩ := HV35.out.form; exact ⟨_, _, _, h⟩
      obtain ⟨A4, n4, k4, rfl⟩ : ∃ A n c, v4 = .slice A n c := by obtain ⟨A, c, h, _⟩ := HV45.out.form; exact ⟨_, _, _, h⟩
      obtain ⟨A5, n5, k5, rfl⟩ : ∃ A n c, v5 = .slice A n c := by obtain ⟨A, c, h, _⟩ := HV5.out.form; exact ⟨_, _, _, h⟩
      obtain ⟨wb, hwb⟩ : ∃ wb, w7.alloc (.cells #[.slice AA na ac, (.slice A3 n3 k3), (.slice A4 n4 k4), (.slice A5 n5 k5)] 22) = wb := ⟨_, rfl⟩
      obtain ⟨gb, hgb⟩ : ∃ g, w7.heap.size = g := ⟨_, rfl⟩
      have HBL : Hid (Blk wb gb #[.slice AA na ac, (.slice A3 n3 k3), (.slice A4 n4 k4), (.slice A5 n5 k5)] 22) := by show Blk _ _ _ _; rw [← hwb, ← hgb]; exact Blk.new _ _ _
      have HK7b : Hid (Kept [] w7 wb) := by show Kept _ _ _; rw [← hwb]; exact (Kept.refl [] w7).alloc _
      have HWB := Lib.hid hwb
      have HGB := Lib.hid hgb
      clear hwb hgb
      have HROW : Hid (∀ W, Kept [] wb W → W.cell? ⟨gb, 0, none⟩ = some (.slice AA na ac) ∧ W.cell? ⟨gb, 1, none⟩ = some (.slice A3 n3 k3) ∧ W.cell? ⟨gb, 2, none⟩ = some (.slice A4 n4 k4) ∧ W.cell? ⟨gb, 3, none⟩ = some (.slice A5 n5 k5)) := fun W hW =>
        ⟨((HBL.out.kept hW (by simp)).cell 0).trans rfl, ((HBL.out.kept hW (by simp)).cell 1).trans rfl, ((HBL.out.kept hW (by simp)).cell 2).trans rfl, ((HBL.out.kept hW (by simp)).cell 3).trans rfl⟩
      have HKB := Lib.hid (HK7.out.trans HK7b.out)
      have HK5b := Lib.hid (HK57.out.trans HK7b.out)
      have HX0 : Hid (∀ W, Kept [] wb W → Calls Try.prog 17 #[.pointer (some ⟨tb, 0, none⟩), .agg #[ov, fv], .agg #[sv, tv, pv], .slice AA na ac, zv] W fun e w' => e = .returned (.tuple #[.int .i64 c0, .int .i64 0]) ∧ Kept [] W w') := fun W hW => by
        have := HTR.out tb (.slice AA na ac) A W (HK0.out.trans (HKB.out.trans hW)) (by first | trivial | rfl) (HT5.out.keep (HK5b.out.trans hW)) (HAV.out.keep (HK0.out.trans (HKB.out.trans hW))) HgA.out
        rwa [HC0.out] at this
      have HX1 : Hid (∀ W, Kept [] wb W → Calls Try.prog 17 #[.pointer (some ⟨tb, 0, none⟩), .agg #[ov, fv], .agg #[sv, tv, pv], (.slice A3 n3 k3), zv] W fun e w' => e = .returned (.tuple #[.int .i64 c1, .int .i64 0]) ∧ Kept [] W w') := fun W hW => by
        have := HTR.out tb (.slice A3 n3 k3) L W (HK0.out.trans (HKB.out.trans hW)) (by first | trivial | rfl) (HT5.out.keep (HK5b.out.trans hW)) (HV35.out.keep (HK5b.out.trans hW)) HgL.out
        rwa [HC1.out] at this
      have HX2 : Hid (∀ W, Kept [] wb W → Calls Try.prog 17 #[.pointer (some ⟨tb, 0, none⟩), .agg #[ov, fv], .agg #[sv, tv, pv], (.slice A4 n4 k4), zv] W fun e w' => e = .returned (.tuple #[.int .i64 c2, .int .i64 0]) ∧ Kept [] W w') := fun W hW => by
        have := HTR.out tb (.slice A4 n4 k4) R W (HK0.out.trans (HKB.out.trans hW)) (by first | trivial | rfl) (HT5.out.keep (HK5b.out.trans hW)) (HV45.out.keep (HK5b.out.trans hW)) HgR.out
        rwa [HC2.out] at this
      have HX3 : Hid (∀ W, Kept [] wb W → Calls Try.prog 17 #[.pointer (some ⟨tb, 0, none⟩), .agg #[ov, fv], .agg #[sv, tv, pv], (.slice A5 n5 k5), zv] W fun e w' => e = .returned (.tuple #[.int .i64 c3, .int .i64 0]) ∧ Kept [] W w') := fun W hW => by
        have := HTR.out tb (.slice A5 n5 k5) G W (HK0.out.trans (HKB.out.trans hW)) (by first | trivial | rfl) (HT5.out.keep (HK5b.out.trans hW)) (HV5.out.keep (HK5b.out.trans hW)) HgG.out
        rwa [HC3.out] at this
      go_wp2_with fail
      rw [HWB.out, HGB.out]
      go_loopw [15, 94] (fun o ii wr => ∃ (j : Nat), j ≤ 4 ∧ ii = .int .i64 j ∧ wr.ownsRow wb.heap.size 2 1 o j (([c0, c1, c2, c3].take j).map (.int .i64)) ∧ Kept [] wb wr) (fun _ ii _ => 4 - (intOf ii).toNat)
      case atStart => exact ⟨0, by omega, rfl, World.ownsRow_nil _ _ _ _, Kept.refl _ _⟩
      case round =>
        obtain ⟨j, hj, rfl, hown, hK⟩ := hrel
        obtain ⟨OA, oc, rfl⟩ := own_len hown
        have HOWN := Lib.hid hown
        have HK := Lib.hid hK
        have hszr := hK.size
        clear hown hK
        have hj5 : j = 0 ∨ j = 1 ∨ j = 2 ∨ j = 3 ∨ j = 4 := by omega
        clear hj
        rcases hj5 with hj | hj | hj | hj | hj
        · subst hj
          obtain ⟨e0, e1, e2, e3⟩ := HROW.out _ HK.out
          obtain ⟨a0, a1, a2, a3, a4, a5, a6⟩ := gr_cells (HB.out.kept (HKB.out.trans HK.out) (by simp))
          go_wp2_with fail
          refine (HX0.out _ HK.out).mono ?_
          rintro e w8 ⟨rfl, k8⟩
          have HK8 := Lib.hid (HK.out.trans k8)
          have HOWN8 := Lib.hid (ownsRow_keep HOWN.out k8 (by simp))
          have hs8 := HK8.out.size
          clear k8 a0 a1 a2 a3 a4 a5 a6 e0 e1 e2 e3
          go_wp2_with (at_builtin; refine wpList_append_own_at _ rfl _ _ 27 rfl wb.heap.size 2 i0 (.int .i64 0) 1 8 Try.underlying27 hi0 hz0 hz1 hz2 rfl (by decide) _ 0 _ rfl (HOWN8.out.alloc _) ⟨w8.heap.size, 0, none⟩ 1 1 [.int .i64 c0] rfl rfl (cell_one_at _ _ _ _ rfl) (by simp [Value.oneCell']) (by unfold maxLen; omega) (by omega) (by simp; omega) ?_)
          intro v7 w7 hown7 hgrow7 _ hat7
          have HK7 : Hid (Kept [] wb w7) := (HK8.out.alloc _).grown hgrow7 (fun y hy => .inr (HOWN8.out.lt y hy).1)
          have HOWN7 := Lib.hid hown7
          clear hown7 hgrow7 hat7
          go_wp2_with fail
          go_roundw
          case rel => exact ⟨0 + 1, by omega, rfl, HOWN7.out, HK7.out⟩
          case measure => simp [intOf]
        · subst hj
          obtain ⟨e0, e1, e2, e3⟩ := HROW.out _ HK.out
          obtain ⟨a0, a1, a2, a3, a4, a5, a6⟩ := gr_cells (HB.out.kept (HKB.out.trans HK.out) (by simp))
          go_wp2_with fail
          refine (HX1.out _ HK.out).mono ?_
          rintro e w8 ⟨rfl, k8⟩
          have HK8 := Lib.hid (HK.out.trans k8)
          have HOWN8 := Lib.hid (ownsRow_keep HOWN.out k8 (by simp))
          have hs8 := HK8.out.size
          clear k8 a0 a1 a2 a3 a4 a5 a6 e0 e1 e2 e3
          go_wp2_with (at_builtin; refine wpList_append_own_at _ rfl _ _ 27 rfl wb.heap.size 2 i0 (.int .i64 0) 1 8 Try.underlying27 hi0 hz0 hz1 hz2 rfl (by decide) _ 1 _ rfl (HOWN8.out.alloc _) ⟨w8.heap.size, 0, none⟩ 1 1 [.int .i64 c1] rfl rfl (cell_one_at _ _ _ _ rfl) (by simp [Value.oneCell']) (by unfold maxLen; omega) (by omega) (by simp; omega) ?_)
          intro v7 w7 hown7 hgrow7 _ hat7
          have HK7 : Hid (Kept [] wb w7) := (HK8.out.alloc _).grown hgrow7 (fun y hy => .inr (HOWN8.out.lt y hy).1)
          have HOWN7 := Lib.hid hown7
          clear hown7 hgrow7 hat7
          go_wp2_with fail
          go_roundw
          case rel => exact ⟨1 + 1, by omega, rfl, HOWN7.out, HK7.out⟩
          case measure => simp [intOf]
        · subst hj
          obtain ⟨e0, e1, e2, e3⟩ := HROW.out _ HK.out
          obtain ⟨a0, a1, a2, a3, a4, a5, a6⟩ := gr_cells (HB.out.kept (HKB.out.trans HK.out) (by simp))
          go_wp2_with fail
          refine (HX2.out _ HK.out).mono ?_
          rintro e w8 ⟨rfl, k8⟩
          have HK8 := Lib.hid (HK.out.trans k8)
          have HOWN8 := Lib.hid (ownsRow_keep HOWN.out k8 (by simp))
          have hs8 := HK8.out.size
          clear k8 a0 a1 a2 a3 a4 a5 a6 e0 e1 e2 e3
          go_wp2_with (at_builtin; refine wpList_append_own_at _ rfl _ _ 27 rfl wb.heap.size 2 i0 (.int .i64 0) 1 8 Try.underlying27 hi0 hz0 hz1 hz2 rfl (by decide) _ 2 _ rfl (HOWN8.out.alloc _) ⟨w8.heap.size, 0, none⟩ 1 1 [.int .i64 c2] rfl rfl (cell_one_at _ _ _ _ rfl) (by simp [Value.oneCell']) (by unfold maxLen; omega) (by omega) (by simp; omega) ?_)
          intro v7 w7 hown7 hgrow7 _ hat7
          have HK7 : Hid (Kept [] wb w7) := (HK8.out.alloc _).grown hgrow7 (fun y hy => .inr (HOWN8.out.lt y hy).1)
          have HOWN7 := Lib.hid hown7
          clear hown7 hgrow7 hat7
          go_wp2_with fail
          go_roundw
          case rel => exact ⟨2 + 1, by omega, rfl, HOWN7.out, HK7.out⟩
          case measure => simp [intOf]
        · subst hj
          obtain ⟨e0, e1, e2, e3⟩ := HROW.out _ HK.out
          obtain ⟨a0, a1, a2, a3, a4, a5, a6⟩ := gr_cells (HB.out.kept (HKB.out.trans HK.out) (by simp))
          go_wp2_with fail
          refine (HX3.out _ HK.out).mono ?_
          rintro e w8 ⟨rfl, k8⟩
          have HK8 := Lib.hid (HK.out.trans k8)
          have HOWN8 := Lib.hid (ownsRow_keep HOWN.out k8 (by simp))
          have hs8 := HK8.out.size
          clear k8 a0 a1 a2 a3 a4 a5 a6 e0 e1 e2 e3
          go_wp2_with (at_builtin; refine wpList_append_own_at _ rfl _ _ 27 rfl wb.heap.size 2 i0 (.int .i64 0) 1 8 Try.underlying27 hi0 hz0 hz1 hz2 rfl (by decide) _ 3 _ rfl (HOWN8.out.alloc _) ⟨w8.heap.size, 0, none⟩ 1 1 [.int .i64 c3] rfl rfl (cell_one_at _ _ _ _ rfl) (by simp [Value.oneCell']) (by unfold maxLen; omega) (by omega) (by simp; omega) ?_)
          intro v7 w7 hown7 hgrow7 _ hat7
          have HK7 : Hid (Kept [] wb w7) := (HK8.out.alloc _).grown hgrow7 (fun y hy => .inr (HOWN8.out.lt y hy).1)
          have HOWN7 := Lib.hid hown7
          clear hown7 hgrow7 hat7
          go_wp2_with fail
          go_roundw
          case rel => exact ⟨3 + 1, by omega, rfl, HOWN7.out, HK7.out⟩
          case measure => simp [intOf]
        · subst hj
          obtain ⟨a0, a1, a2, a3, a4, a5, a6⟩ := gr_cells (HB.out.kept (HKB.out.trans HK.out) (by simp))
          go_wp2_with fail
          refine (HSM.out _ (HK0.out.trans (HKB.out.trans HK.out))).mono ?_
          rintro e w8 ⟨rfl, k8⟩
          have HK8 := Lib.hid (HK0.out.trans ((HKB.out.trans HK.out).trans k8))
          have HO8 := Lib.hid (ownsRow_keep HOWN.out k8 (by simp))
          clear k8 a0 a1 a2 a3 a4 a5 a6
          cases sb with
          | false =>
            go_wp2_with fail
            go_ret
            exact ⟨rfl, HK8.out⟩
          | true =>
            obtain ⟨l1, l2, l3⟩ := HLAW.out rfl
            obtain ⟨g8, c8, he, hc81, hc82⟩ := own_some HO8.out (by omega)
            injection he with he1 he2 he3
            subst he1 he3
            have HR8 := Lib.hid (RdI.of_own (k := .i64) (xs := [c0, c1, c2, c3]) (n := 4) HO8.out).1
            have y0 : ∀ s : SW (Kept [] w8), s.to.cell? ⟨g8, 0, none⟩ = some (.int .i64 c0) := fun s => by simpa using s.ok.cell (by simp) (HR8.out.cell 0 c0 rfl)
            have y1 : ∀ s : SW (Kept [] w8), s.to.cell? ⟨g8, 1, none⟩ = some (.int .i64 c1) := fun s => by simpa using s.ok.cell (by simp) (HR8.out.cell 1 c1 rfl)
            have y2 : ∀ s : SW (Kept [] w8), s.to.cell? ⟨g8, 2, none⟩ = some (.int .i64 c2) := fun s => by simpa using s.ok.cell (by simp) (HR8.out.cell 2 c2 rfl)
            have y3 : ∀ s : SW (Kept [] w8), s.to.cell? ⟨g8, 3, none⟩ = some (.int .i64 c3) := fun s => by simpa using s.ok.cell (by simp) (HR8.out.cell 3 c3 rfl)
            have d1 : decide (c1 ≤ c0) = true := decide_eq_true l1
            have d3 : decide (c3 ≤ c2) = true := decide_eq_true l3
            by_cases hm : m = 0
            · have d4 : (((m : Nat) : Int) == 0) = true := by rw [hm]; rfl
              have d5 : (c1 == c0) = true := by rw [beq_iff_eq]; exact l2.1 hm
              clear hm l1 l2 l3 he2
              go_wp2_with fail
              refine wp_region_sw (Kept [] w8) (stays_kept w8) (Kept.refl _ _) (by kernel_rfl) (by kernel_rfl) (fun hne => ?_)
              repeat (go_big_quiet_step (fail))
              refine wpQuiet_nil ?_
              intro w9 hs9
              have HK9 := Lib.hid (HK8.out.trans hs9)
              clear hs9
              go_wp2_with fail
              go_ret
              exact ⟨rfl, HK9.out⟩
            · have d4 : (((m : Nat) : Int) == 0) = false := by rw [beq_eq_false_iff_ne]; omega
              have d5 : (c1 == c0) = false := by rw [beq_eq_false_iff_ne]; exact fun h => hm (l2.2 h)
              clear hm l1 l2 l3 he2
              go_wp2_with fail
              refine wp_region_sw (Kept [] w8) (stays_kept w8) (Kept.refl _ _) (by kernel_rfl) (by kernel_rfl) (fun hne => ?_)
              repeat (go_big_quiet_step (fail))
              refine wpQuiet_nil ?_
              intro w9 hs9
              have HK9 := Lib.hid (HK8.out.trans hs9)
              clear hs9
              go_wp2_with fail
              go_ret
              exact ⟨rfl, HK9.out⟩
    · have h1' : (E != 0) = true := by rw [bne_iff_ne]; exact h1
      go_wp2_with fail
      go_ret
      exact ⟨rfl, HK0.out.trans HK3.out⟩
theorem placeCheaper_any (w : World) (v : Array Value) (g : GroundD) (wg : groundR.K w g v.toList) (bg : groundW g + 1 ≤ 1048576) (A : Option Addr) (n cap : Nat) (T : List Int) (wT : (Rk.slice (Rk.int .i64)).K w T [.slice A n cap]) :
    Calls Try.prog 4 #[.agg v, .slice A n cap] w fun e w' => e = .returned (.bool true) ∧ Below w.heap.size w w' := by
  obtain ⟨qv, ov, fv, sv, tv, pv, zv, rfl, hg⟩ := ground_reads wg bg
  obtain ⟨v1, he1, h1⟩ := intsR_cells wT
  simp only [List.cons.injEq, and_true] at he1
  subst he1
  exact (cheaper_any qv ov fv sv tv pv zv _ _ _ _ _ T w hg h1).mono fun e w' h => ⟨h.1, h.2.below⟩

end Go.Proofs.Ytbaifjdealmckaa
