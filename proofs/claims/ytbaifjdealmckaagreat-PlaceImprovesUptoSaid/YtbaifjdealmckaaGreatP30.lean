/- Plans and rates that may be: the document's Check. -/
import Derived.Test.YtbaifjdealmckaaGreatRows
import Derived.WalkKit
import Derived.WalkSpells
import Derived.WalkLawsBesides
import Derived.Deep.QuietTactic
import Derived.BigQuiet
import Derived.Lib.Hide
import Derived.BigRegion
import Derived.Shelf.Abstract
import Derived.Lib.ConvBytes
import Derived.StillTailTactics
import Derived.Laws.AppendOwnNone
import Derived.Deep.AppendLies
import Derived.Deep.Slices
import Derived.ProofKit
import Derived.SizedLaws
import Derived.Test.YtbaifjdealmckaaGreatP11
import Derived.Test.YtbaifjdealmckaaGreatP29
set_option linter.unusedVariables false
set_option linter.unusedSimpArgs false
set_option linter.unnecessarySimpa false
namespace Go.Proofs.YtbaifjdealmckaaGreat
open Go.RowKit Go.Shelf
attribute [local go_sem] Oper.semAt_some

set_option maxRecDepth 100000 in
set_option maxHeartbeats 4000000 in
theorem rplan_any (ov fv : Value) (x : PlanD) (w : World) (ho : Rds opR w ov x.1) (hf : Rds intsR w fv x.2) (hF : fromLen x.2 ≤ 1048576) :
    Calls Tryz.prog 46 #[.agg #[ov, fv]] w fun e w' => e = .returned (.int .i64 (errPlan (planV x))) ∧ Kept [] w w' := by
  have HOP := Lib.hid (fun (k : Nat) (W : World) (hk : Kept [] w W) (h1 : k < x.1.length) (h2 : x.2.length = x.1.length) => rop_any ov fv x k W (ho.keep hk) (hf.keep hk) hF h1 h2)
  obtain ⟨A, c, rfl, hmA⟩ := ho.form
  obtain ⟨B, d, rfl, hmB⟩ := hf.form
  obtain ⟨n, hn⟩ : ∃ n, x.1.length = n := ⟨_, rfl⟩
  obtain ⟨m, hm⟩ : ∃ m, x.2.length = m := ⟨_, rfl⟩
  obtain ⟨G, hG⟩ : ∃ G, planV x = G := ⟨_, rfl⟩
  have HG : Hid (G = (decide (2 ≤ n) && (decide (n ≤ 32) && (decide (m = n) && planGo x n 0)))) := by show _ = _; rw [← hG, ← hn, ← hm]; rfl
  rw [hG]
  rw [hn] at hmA HOP ⊢
  rw [hm] at hmB HOP ⊢
  have HN := Lib.hid hn
  have HM := Lib.hid hm
  clear hn hm ho hf hG hF
  have HK0 := Lib.hid ((Kept.refl [] w).alloc (.cells #[.slice A n c, .slice B m d] 26))
  by_cases h2 : n < 2
  · have hE : Hid (G = false) := by show _ = _; rw [HG.out]; simp; intro h; omega
    rw [hE.out]
    clear HG hE
    go_enter Tryz.func46, Tryz.ntmps46
    go_wp2_with fail
    go_ret
    exact ⟨rfl, HK0.out⟩
  · by_cases h32 : 32 < n
    · have hE : Hid (G = false) := by show _ = _; rw [HG.out]; simp; intro h h'; omega
      rw [hE.out]
      clear HG hE
      go_enter Tryz.func46, Tryz.ntmps46
      go_wp2_with fail
      go_ret
      exact ⟨rfl, HK0.out⟩
    · by_cases hmn : m = n
      · subst hmn
        have HGG : Hid (G = planGo x m 0) := by show _ = _; rw [HG.out]; simp [show 2 ≤ m by omega, show m ≤ 32 by omega]
        obtain ⟨W0, hW0⟩ : ∃ W0, w.alloc (.cells #[.slice A m c, .slice B m d] 26) = W0 := ⟨_, rfl⟩
        have HB0 : Hid (Blk W0 w.heap.size #[.slice A m c, .slice B m d] 26) := by show Blk _ _ _ _; rw [← hW0]; exact Blk.new w _ _
        rw [hW0] at HK0
        have HW0 := Lib.hid hW0
        clear HG hW0
        go_enter Tryz.func46, Tryz.ntmps46
        go_wp2_with fail
        go_loopw [3] (fun ii wr => ∃ k : Nat, k ≤ m ∧ ii = .int .i64 k ∧ planGo x (m - k) k = G ∧ Kept [] W0 wr) (fun ii _ => m - (intOf ii).toNat)
        case atStart => exact ⟨0, by omega, rfl, by rw [Nat.sub_zero]; exact HGG.out.symm, by rw [HW0.out]; exact Kept.refl _ _⟩
        case round =>
          obtain ⟨k, hk, rfl, hg, hK⟩ := hrel
          have HGO := Lib.hid hg
          have HK := Lib.hid hK
          have cw := hK.cell (by simp) ((HB0.out.cell 0).trans rfl)
          have cw1 := hK.cell (by simp) ((HB0.out.cell 1).trans rfl)
          clear hg hK
          by_cases hlt : k < m
          · have HD := Lib.hid (planGo_at x m k hlt)
            obtain ⟨q, hq⟩ : ∃ q, placeOk x k = q := ⟨_, rfl⟩
            have HOPK := Lib.hid (HOP.out k wr (HK0.out.trans HK.out) (by omega) (by simp))
            rw [hq] at HOPK
            have HGE : Hid (G = (q && planGo x (m - (k + 1)) (k + 1))) := by show _ = _; rw [← HGO.out, ← hq]; exact HD.out
            clear hq
            go_wp2_with fail
            refine HOPK.out.mono ?_
            rintro e w5 ⟨rfl, hk5⟩
            have HK5 := Lib.hid hk5
            clear hk5
            cases q with
            | false =>
              have hE : Hid (G = false) := by show _ = _; rw [HGE.out]; rfl
              go_wp2_with fail
              go_ret
              exact ⟨by rw [hE.out]; rfl, (HK0.out.trans HK.out).trans HK5.out⟩
            | true =>
              have hE : Hid (planGo x (m - (k + 1)) (k + 1) = G) := by show _ = _; rw [HGE.out]; rfl
              go_wp2_with fail
              go_roundw
              case rel => exact ⟨k + 1, by omega, by go_num, hE.out, HK.out.trans HK5.out⟩
              case measure => simp [intOf]; omega
          · have hkm : k = m := by omega
            subst hkm
            have hE : Hid (G = true) := by show _ = _; rw [← HGO.out, Nat.sub_self]; rfl
            go_wp2_with fail
            go_ret
            exact ⟨by rw [hE.out]; rfl, HK0.out.trans HK.out⟩
      · have hE : Hid (G = false) := by show _ = _; rw [HG.out]; simp [hmn]
        rw [hE.out]
        have hmn' : ((m : Int) != (n : Int)) = true := by rw [bne_iff_ne]; omega
        clear HG hE
        go_enter Tryz.func46, Tryz.ntmps46
        go_wp2_with fail
        go_ret
        exact ⟨rfl, HK0.out⟩

set_option maxRecDepth 100000 in
set_option maxHeartbeats 2000000 in
theorem rcostcheck_any (ov fv sv tv pv : Value) (x : PlanD) (r : RatesD) (w : World) (ho : Rds opR w ov x.1) (hf : Rds intsR w fv x.2) (hF : fromLen x.2 ≤ 1048576)
    (hs : RdI w .i64 sv r.1) (ht : RdI w .i64 tv r.2.1) (hp : RdI w .i64 pv r.2.2) :
    Calls Tryz.prog 26 #[.agg #[ov, fv], .agg #[sv, tv, pv]] w fun e w' => e = .returned (.int .i64 (checkE x r)) ∧ Kept [] w w' := by
  obtain ⟨s, t, p⟩ := r
  have HS := Lib.hid hs
  have HT := Lib.hid ht
  have HP := Lib.hid hp
  have HPC := Lib.hid (fun (W : World) (hk : Kept [] w W) => rplan_any ov fv x W (ho.keep hk) (hf.keep hk) hF)
  have HR1 := Lib.hid (fun (W : World) (hk : Kept [] w W) => rrates_any sv s W (hs.keep hk))
  have HR2 := Lib.hid (fun (W : World) (hk : Kept [] w W) => rrates_any tv t W (ht.keep hk))
  have HR3 := Lib.hid (fun (W : World) (hk : Kept [] w W) => rrates_any pv p W (hp.keep hk))
  obtain ⟨A, c, rfl, hmA⟩ := ho.form
  obtain ⟨B, d, rfl, hmB⟩ := hf.form
  obtain ⟨SA, sc, rfl, hmS, _⟩ := hs
  obtain ⟨TA, tc, rfl, hmT, _⟩ := ht
  obtain ⟨PA, pc, rfl, hmP, _⟩ := hp
  obtain ⟨G, hG⟩ : ∃ G, checkE x (s, t, p) = G := ⟨_, rfl⟩
  have HG : Hid (G = if planV x then errRates (ratesOk x.1.length (s, t, p)) else 150) := hG.symm
  rw [hG]
  obtain ⟨n, hn⟩ : ∃ n, x.1.length = n := ⟨_, rfl⟩
  obtain ⟨m, hm⟩ : ∃ m, x.2.length = m := ⟨_, rfl⟩
  obtain ⟨ns, hns⟩ : ∃ ns, s.length = ns := ⟨_, rfl⟩
  obtain ⟨nt, hnt⟩ : ∃ nt, t.length = nt := ⟨_, rfl⟩
  obtain ⟨np, hnp⟩ : ∃ np, p.length = np := ⟨_, rfl⟩
  obtain ⟨g, hg⟩ : ∃ g, planV x = g := ⟨_, rfl⟩
  obtain ⟨q1, hq1⟩ : ∃ q1, ratesV s = q1 := ⟨_, rfl⟩
  obtain ⟨q2, hq2⟩ : ∃ q2, ratesV t = q2 := ⟨_, rfl⟩
  obtain ⟨q3, hq3⟩ : ∃ q3, ratesV p = q3 := ⟨_, rfl⟩
  have HGG : Hid (G = if g then errRates (decide (1 ≤ ns) && (decide (ns ≤ 12) && (decide (nt = n) && (decide (np = n) && (q1 && (q2 && q3)))))) else 150) := by
    show _ = _; rw [HG.out, ← hn, ← hns, ← hnt, ← hnp, ← hg, ← hq1, ← hq2, ← hq3]; rfl
  rw [hn] at hmA HPC ⊢
  rw [hm] at hmB HPC ⊢
  rw [hg] at HPC
  simp only [hns] at hmS HS HR1 ⊢
  simp only [hnt] at hmT HT HR2 ⊢
  simp only [hnp] at hmP HP HR3 ⊢
  rw [hq1] at HR1
  rw [hq2] at HR2
  rw [hq3] at HR3
  unfold maxLen at hmS hmT hmP
  clear HG hG hn hm hns hnt hnp hg hq1 hq2 hq3 hF ho hf HS HT HP
  have HK0 := Lib.hid (((Kept.refl [] w).alloc (.cells #[.slice A n c, .slice B m d] 26)).alloc (.cells #[.slice SA ns sc, .slice TA nt tc, .slice PA np pc] 29))
  have HB0 : Hid (Blk ((w.alloc (.cells #[.slice A n c, .slice B m d] 26)).alloc (.cells #[.slice SA ns sc, .slice TA nt tc, .slice PA np pc] 29)) w.heap.size #[.slice A n c, .slice B m d] 26) := (Blk.new w _ _).alloc _
  have HB1 : Hid (Blk ((w.alloc (.cells #[.slice A n c, .slice B m d] 26)).alloc (.cells #[.slice SA ns sc, .slice TA nt tc, .slice PA np pc] 29)) (w.heap.size + 1) #[.slice SA ns sc, .slice TA nt tc, .slice PA np pc] 29) := by
    have := Blk.new (w.alloc (.cells #[.slice A n c, .slice B m d] 26)) #[.slice SA ns sc, .slice TA nt tc, .slice PA np pc] 29
    rwa [show (w.alloc (.cells #[.slice A n c, .slice B m d] 26)).heap.size = w.heap.size + 1 by simp] at this
  go_enter Tryz.func26, Tryz.ntmps26
  go_wp2_with fail
  refine (HPC.out _ HK0.out).mono ?_
  rintro e w1 ⟨rfl, hk1⟩
  have HK1 := Lib.hid (HK0.out.trans hk1)
  have p0 := (HB0.out.kept hk1 (by simp)).cell 0
  have s0 := (HB1.out.kept hk1 (by simp)).cell 0
  have s1 := (HB1.out.kept hk1 (by simp)).cell 1
  have s2 := (HB1.out.kept hk1 (by simp)).cell 2
  simp at p0 s0 s1 s2
  clear hk1
  cases g with
  | false =>
    rw [show errPlan false = 150 from rfl]
    have hE : Hid (G = 150) := HGG.out
    go_wp2_with fail
    go_ret
    exact ⟨by rw [hE.out]; rfl, HK1.out⟩
  | true =>
    rw [show errPlan true = 0 from rfl]
    by_cases h1 : ns < 1
    · have hE : Hid (G = 180) := by show _ = _; rw [HGG.out, decide_eq_false (by omega : ¬ 1 ≤ ns)]; rfl
      go_wp2_with fail
      go_ret
      exact ⟨by rw [hE.out]; rfl, HK1.out⟩
    · by_cases h2 : 12 < ns
      · have hE : Hid (G = 180) := by show _ = _; rw [HGG.out, decide_eq_false (by omega : ¬ ns ≤ 12), Bool.false_and, Bool.and_false]; rfl
        go_wp2_with fail
        go_ret
        exact ⟨by rw [hE.out]; rfl, HK1.out⟩
      · by_cases h3 : nt = n
        · subst h3
          by_cases h4 : np = nt
          · subst h4
            have hE : Hid (G = errRates (q1 && (q2 && q3))) := by show _ = _; rw [HGG.out, decide_eq_true (by omega : 1 ≤ ns), decide_eq_true (by omega : ns ≤ 12), decide_eq_true rfl]; rfl
            go_wp2_with fail
            refine (HR1.out _ HK1.out).mono ?_
            rintro e w2 ⟨rfl, rfl⟩
            cases q1 with
            | false =>
              go_wp2_with fail
              go_ret
              exact ⟨by rw [hE.out]; rfl, HK1.out⟩
            | true =>
              go_wp2_with fail
              refine (HR2.out _ HK1.out).mono ?_
              rintro e w2 ⟨rfl, rfl⟩
              cases q2 with
              | false =>
                go_wp2_with fail
                go_ret
                exact ⟨by rw [hE.out]; rfl, HK1.out⟩
              | true =>
                go_wp2_with fail
                refine (HR3.out _ HK1.out).mono ?_
                rintro e w2 ⟨rfl, rfl⟩
                cases q3 with
                | false =>
                  go_wp2_with fail
                  go_ret
                  exact ⟨by rw [hE.out]; rfl, HK1.out⟩
                | true =>
                  go_wp2_with fail
                  go_ret
                  exact ⟨by rw [hE.out]; rfl, HK1.out⟩
          · have h4' : ((np : Int) != (nt : Int)) = true := by rw [bne_iff_ne]; omega
            have hE : Hid (G = 180) := by show _ = _; rw [HGG.out, decide_eq_false h4, Bool.false_and, Bool.and_false, Bool.and_false, Bool.and_false]; rfl
            go_wp2_with fail
            go_ret
            exact ⟨by rw [hE.out]; rfl, HK1.out⟩
        · have h3' : ((nt : Int) != (n : Int)) = true := by rw [bne_iff_ne]; omega
          have hE : Hid (G = 180) := by show _ = _; rw [HGG.out, decide_eq_false h3, Bool.false_and, Bool.and_false, Bool.and_false]; rfl
          go_wp2_with fail
          go_ret
          exact ⟨by rw [hE.out]; rfl, HK1.out⟩

end Go.Proofs.YtbaifjdealmckaaGreat
