/- Rates that may be: the program's Check of costs. -/
import Derived.Test.YtbaifjdealmckaaGreatRows
import Derived.WalkKit
import Derived.WalkSpells
import Derived.WalkLawsBesides
import Derived.Deep.QuietTactic
import Derived.BigQuiet
import Derived.Lib.Hide
import Derived.BigRegion
import Derived.Shelf.Abstract
import Derived.Lib.ConvBytes
import Derived.StillTailTactics
import Derived.Laws.AppendOwnNone
import Derived.Deep.AppendLies
import Derived.Deep.Slices
import Derived.ProofKit
import Derived.SizedLaws
import Derived.Test.YtbaifjdealmckaaGreatC4
import Derived.Test.YtbaifjdealmckaaGreatP10
set_option linter.unusedVariables false
set_option linter.unusedSimpArgs false
set_option linter.unnecessarySimpa false
namespace Go.Proofs.YtbaifjdealmckaaGreat
open Go.RowKit Go.Shelf
attribute [local go_sem] Oper.semAt_some

def ratesOk (n : Nat) (r : RatesD) : Bool := decide (1 ≤ r.1.length) && (decide (r.1.length ≤ 12) && (decide (r.2.1.length = n) && (decide (r.2.2.length = n) && (ratesV r.1 && (ratesV r.2.1 && ratesV r.2.2)))))
def errRates (b : Bool) : Int := if b then 0 else 180
def checkE (x : PlanD) (r : RatesD) : Int := if planV x then errRates (ratesOk x.1.length r) else 150

set_option maxRecDepth 100000 in
set_option maxHeartbeats 2000000 in
theorem costcheck_any (ov fv sv tv pv : Value) (x : PlanD) (r : RatesD) (w : World) (ho : Rds opR w ov x.1) (hf : Rds intsR w fv x.2) (hF : fromLen x.2 ≤ 1048576)
    (hs : RdI w .i64 sv r.1) (ht : RdI w .i64 tv r.2.1) (hp : RdI w .i64 pv r.2.2) :
    Calls Tryz.prog 39 #[.agg #[ov, fv], .agg #[sv, tv, pv]] w fun e w' => e = .returned (.int .i64 (checkE x r)) ∧ Kept [] w w' := by
  obtain ⟨s, t, p⟩ := r
  have HS := Lib.hid hs
  have HT := Lib.hid ht
  have HP := Lib.hid hp
  have HPC := Lib.hid (fun (W : World) (hk : Kept [] w W) => plancheck_any ov fv x W (ho.keep hk) (hf.keep hk) hF)
  have HR1 := Lib.hid (fun (W : World) (hk : Kept [] w W) => rate_any sv s W (hs.keep hk))
  have HR2 := Lib.hid (fun (W : World) (hk : Kept [] w W) => rate_any tv t W (ht.keep hk))
  have HR3 := Lib.hid (fun (W : World) (hk : Kept [] w W) => rate_any pv p W (hp.keep hk))
  obtain ⟨A, c, rfl, hmA⟩ := ho.form
  obtain ⟨B, d, rfl, hmB⟩ := hf.form
  obtain ⟨SA, sc, rfl, hmS, _⟩ := hs
  obtain ⟨TA, tc, rfl, hmT, _⟩ := ht
  obtain ⟨PA, pc, rfl, hmP, _⟩ := hp
  obtain ⟨G, hG⟩ : ∃ G, checkE x (s, t, p) = G := ⟨_, rfl⟩
  have HG : Hid (G = if planV x then errRates (ratesOk x.1.length (s, t, p)) else 150) := hG.symm
  rw [hG]
  obtain ⟨n, hn⟩ : ∃ n, x.1.length = n := ⟨_, rfl⟩
  obtain ⟨m, hm⟩ : ∃ m, x.2.length = m := ⟨_, rfl⟩
  obtain ⟨ns, hns⟩ : ∃ ns, s.length = ns := ⟨_, rfl⟩
  obtain ⟨nt, hnt⟩ : ∃ nt, t.length = nt := ⟨_, rfl⟩
  obtain ⟨np, hnp⟩ : ∃ np, p.length = np := ⟨_, rfl⟩
  obtain ⟨g, hg⟩ : ∃ g, planV x = g := ⟨_, rfl⟩
  obtain ⟨q1, hq1⟩ : ∃ q1, ratesV s = q1 := ⟨_, rfl⟩
  obtain ⟨q2, hq2⟩ : ∃ q2, ratesV t = q2 := ⟨_, rfl⟩
  obtain ⟨q3, hq3⟩ : ∃ q3, ratesV p = q3 := ⟨_, rfl⟩
  have HGG : Hid (G = if g then errRates (decide (1 ≤ ns) && (decide (ns ≤ 12) && (decide (nt = n) && (decide (np = n) && (q1 && (q2 && q3)))))) else 150) := by
    show _ = _; rw [HG.out, ← hn, ← hns, ← hnt, ← hnp, ← hg, ← hq1, ← hq2, ← hq3]; rfl
  rw [hn] at hmA HPC ⊢
  rw [hm] at hmB HPC ⊢
  rw [hg] at HPC
  simp only [hns] at hmS HS HR1 ⊢
  simp only [hnt] at hmT HT HR2 ⊢
  simp only [hnp] at hmP HP HR3 ⊢
  rw [hq1] at HR1
  rw [hq2] at HR2
  rw [hq3] at HR3
  unfold maxLen at hmS hmT hmP
  clear HG hG hn hm hns hnt hnp hg hq1 hq2 hq3 hF ho hf HS HT HP
  have HK0 := Lib.hid (((Kept.refl [] w).alloc (.cells #[.slice A n c, .slice B m d] 26)).alloc (.cells #[.slice SA ns sc, .slice TA nt tc, .slice PA np pc] 29))
  have HB0 : Hid (Blk ((w.alloc (.cells #[.slice A n c, .slice B m d] 26)).alloc (.cells #[.slice SA ns sc, .slice TA nt tc, .slice PA np pc] 29)) w.heap.size #[.slice A n c, .slice B m d] 26) := (Blk.new w _ _).alloc _
  have HB1 : Hid (Blk ((w.alloc (.cells #[.slice A n c, .slice B m d] 26)).alloc (.cells #[.slice SA ns sc, .slice TA nt tc, .slice PA np pc] 29)) (w.heap.size + 1) #[.slice SA ns sc, .slice TA nt tc, .slice PA np pc] 29) := by
    have := Blk.new (w.alloc (.cells #[.slice A n c, .slice B m d] 26)) #[.slice SA ns sc, .slice TA nt tc, .slice PA np pc] 29
    rwa [show (w.alloc (.cells #[.slice A n c, .slice B m d] 26)).heap.size = w.heap.size + 1 by simp] at this
  go_enter Tryz.func39, Tryz.ntmps39
  go_wp2_with fail
  refine (HPC.out _ HK0.out).mono ?_
  rintro e w1 ⟨rfl, hk1⟩
  have HK1 := Lib.hid (HK0.out.trans hk1)
  have p0 := (HB0.out.kept hk1 (by simp)).cell 0
  have s0 := (HB1.out.kept hk1 (by simp)).cell 0
  have s1 := (HB1.out.kept hk1 (by simp)).cell 1
  have s2 := (HB1.out.kept hk1 (by simp)).cell 2
  simp at p0 s0 s1 s2
  clear hk1
  cases g with
  | false =>
    rw [show errPlan false = 150 from rfl]
    have hE : Hid (G = 150) := HGG.out
    go_wp2_with fail
    go_ret
    exact ⟨by rw [hE.out]; rfl, HK1.out⟩
  | true =>
    rw [show errPlan true = 0 from rfl]
    by_cases h1 : ns < 1
    · have hE : Hid (G = 180) := by show _ = _; rw [HGG.out, decide_eq_false (by omega : ¬ 1 ≤ ns)]; rfl
      go_wp2_with fail
      go_ret
      exact ⟨by rw [hE.out]; rfl, HK1.out⟩
    · by_cases h2 : 12 < ns
      · have hE : Hid (G = 180) := by show _ = _; rw [HGG.out, decide_eq_false (by omega : ¬ ns ≤ 12), Bool.false_and, Bool.and_false]; rfl
        go_wp2_with fail
        go_ret
        exact ⟨by rw [hE.out]; rfl, HK1.out⟩
      · by_cases h3 : nt = n
        · subst h3
          by_cases h4 : np = nt
          · subst h4
            have hE : Hid (G = errRates (q1 && (q2 && q3))) := by show _ = _; rw [HGG.out, decide_eq_true (by omega : 1 ≤ ns), decide_eq_true (by omega : ns ≤ 12), decide_eq_true rfl]; rfl
            go_wp2_with fail
            refine (HR1.out _ HK1.out).mono ?_
            rintro e w2 ⟨rfl, rfl⟩
            cases q1 with
            | false =>
              go_wp2_with fail
              go_ret
              exact ⟨by rw [hE.out]; rfl, HK1.out⟩
            | true =>
              go_wp2_with fail
              refine (HR2.out _ HK1.out).mono ?_
              rintro e w2 ⟨rfl, rfl⟩
              cases q2 with
              | false =>
                go_wp2_with fail
                go_ret
                exact ⟨by rw [hE.out]; rfl, HK1.out⟩
              | true =>
                go_wp2_with fail
                refine (HR3.out _ HK1.out).mono ?_
                rintro e w2 ⟨rfl, rfl⟩
                cases q3 with
                | false =>
                  go_wp2_with fail
                  go_ret
                  exact ⟨by rw [hE.out]; rfl, HK1.out⟩
                | true =>
                  go_wp2_with fail
                  go_ret
                  exact ⟨by rw [hE.out]; rfl, HK1.out⟩
          · have h4' : ((np : Int) != (nt : Int)) = true := by rw [bne_iff_ne]; omega
            have hE : Hid (G = 180) := by show _ = _; rw [HGG.out, decide_eq_false h4, Bool.false_and, Bool.and_false, Bool.and_false, Bool.and_false]; rfl
            go_wp2_with fail
            go_ret
            exact ⟨by rw [hE.out]; rfl, HK1.out⟩
        · have h3' : ((nt : Int) != (n : Int)) = true := by rw [bne_iff_ne]; omega
          have hE : Hid (G = 180) := by show _ = _; rw [HGG.out, decide_eq_false h3, Bool.false_and, Bool.and_false, Bool.and_false]; rfl
          go_wp2_with fail
          go_ret
          exact ⟨by rw [hE.out]; rfl, HK1.out⟩

end Go.Proofs.YtbaifjdealmckaaGreat
