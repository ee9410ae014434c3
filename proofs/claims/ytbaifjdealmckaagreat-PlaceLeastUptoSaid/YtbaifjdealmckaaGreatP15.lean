/- What comes out of each operator: the program's Out. -/
import Derived.Deep.RegionHeld3
import Derived.Deep.AppendLies
import Derived.Deep.DrawnRows
import Derived.Deep.DeepCutAuto
import Derived.Deep.CutBlock
import Derived.Laws.EntriesVeiled
import Derived.Test.YtbaifjdealmckaaGreatRows
import Derived.WalkKit
import Derived.WalkSpells
import Derived.WalkLawsBesides
import Derived.Deep.QuietTactic
import Derived.BigQuiet
import Derived.Lib.Hide
import Derived.BigRegion
import Derived.Shelf.Abstract
import Derived.Lib.ConvBytes
import Derived.StillTailTactics
import Derived.Laws.AppendOwnNone
import Derived.Deep.Slices
import Derived.ProofKit
import Derived.SizedLaws
import Derived.Test.YtbaifjdealmckaaGreatP14
set_option linter.unusedVariables false
set_option linter.unusedSimpArgs false
set_option linter.unnecessarySimpa false
namespace Go.Proofs.YtbaifjdealmckaaGreat
open Go.RowKit Go.Shelf
attribute [local go_sem] Oper.semAt_some
attribute [local go_sem ↓] Go.wp_at_zero Go.wp_at_succ

def OutsPost (w : World) (ec : Int) (l : List Int) : Ending → World → Prop := fun e w' => ∃ v, e = .returned (.tuple #[v, .int .i64 ec]) ∧ w'.ownsRow w.heap.size 2 1 v l.length (l.map (.int .i64)) ∧ Kept [] w w'

theorem cell_lt {w : World} {b off : Nat} {v : Value} (h : w.cell? ⟨b, off, none⟩ = some v) : b < w.heap.size := by
  by_cases hb : b < w.heap.size
  · exact hb
  · exfalso
    simp [World.cell?, Array.getElem?_eq_none (by omega : w.heap.size ≤ b)] at h
theorem one_at {w : World} {a : Int} {t : TypeId} {b : Nat} (hb : b = w.heap.size) : RdI (w.alloc (.cells #[.int .i64 a] t)) .i64 (.slice (some ⟨b, 0, none⟩) 1 1) [a] := by subst hb; exact one_built
theorem cell_one_at (w : World) (b : Nat) (x : Value) (t : TypeId) (hb : b = w.heap.size) : ∀ j u, [x][j]? = some u → (w.alloc (.cells #[x] t)).cell? ((⟨b, 0, none⟩ : Addr).add j) = some u := by subst hb; exact cell_one_new w x t
theorem two_at {w : World} {a c : Int} {t : TypeId} {b : Nat} (hb : b = w.heap.size) : RdI (w.alloc (.cells #[.int .i64 a, .int .i64 c] t)) .i64 (.slice (some ⟨b, 0, none⟩) 2 2) [a, c] := by subst hb; exact two_built
theorem RdI.drew1 {w : World} {k : IntKind} {v : Value} {xs : List Int} (h : RdI w k v xs) : RdI w.drew k v xs := h
theorem cells_drew {w : World} {a : Addr} {xs : List Value} (h : ∀ j u, xs[j]? = some u → w.cell? (a.add j) = some u) : ∀ j u, xs[j]? = some u → w.drew.cell? (a.add j) = some u := h
theorem cells_drewN {w : World} {a : Addr} {xs : List Value} {n : Nat} (h : ∀ j u, xs[j]? = some u → w.cell? (a.add j) = some u) : ∀ j u, xs[j]? = some u → (w.drewN n).cell? (a.add j) = some u := h
theorem step_guard {P : Program} {ops : Array Oper} {o : Oper} {a : Act} {w : World} {K : Act → World → Prop} {Q : Exit → Act → World → Prop} {E : Prop} (s x : Operand) (t : TypeId) (ho : o.op = .call { callee := .builtin .append, args := #[s, x], argTypes := #[t, t] })
    (h : if Region.wanted o (yielded ops a.tmps) = true then Oper.wp P o a w K Q else E) : if Region.wanted o (yielded ops a.tmps) = true then Oper.wp P o a w K Q else E := h

set_option maxRecDepth 100000 in
set_option maxHeartbeats 2000000 in
theorem out_any (ov fv sv tv pv : Value) (x : PlanD) (r : RatesD) (w : World) (ho : Rds opR w ov x.1) (hf : Rds intsR w fv x.2) (hF : fromLen x.2 ≤ 1048576)
    (hs : RdI w .i64 sv r.1) (ht : RdI w .i64 tv r.2.1) (hp : RdI w .i64 pv r.2.2) :
    Calls Tryz.prog 65 #[.agg #[ov, fv], .agg #[sv, tv, pv]] w (OutsPost w (checkE x r) (if checkE x r = 0 then outV x r else [])) := by
  obtain ⟨i0, hi0, hz0, hz1, hz2⟩ := info_parts info64
  have HCC := Lib.hid (fun (W : World) (hk : Kept [] w W) => costcheck_any ov fv sv tv pv x r W (ho.keep hk) (hf.keep hk) hF (hs.keep hk) (ht.keep hk) (hp.keep hk))
  have HO := Lib.hid ho
  have HFR := Lib.hid hf
  have HS := Lib.hid hs
  have HT := Lib.hid ht
  have HP := Lib.hid hp
  have HLF : Hid (fromLen x.2 ≤ 1048576) := hF
  obtain ⟨A, c, rfl, hmA⟩ := ho.form
  obtain ⟨B, d, rfl, hmB⟩ := hf.form
  obtain ⟨SA, sc, rfl, hmS, -⟩ := hs
  obtain ⟨TA, tc, rfl, hmT, -⟩ := ht
  obtain ⟨PA, pc, rfl, hmP, -⟩ := hp
  obtain ⟨ec, hec⟩ : ∃ ec, checkE x r = ec := ⟨_, rfl⟩
  rw [hec] at HCC ⊢
  obtain ⟨R, hR⟩ : ∃ R, (if ec = 0 then outV x r else []) = R := ⟨_, rfl⟩
  rw [hR]
  have HR := Lib.hid hR
  clear hR
  obtain ⟨n, hn⟩ : ∃ n, x.1.length = n := ⟨_, rfl⟩
  obtain ⟨m, hm⟩ : ∃ m, x.2.length = m := ⟨_, rfl⟩
  obtain ⟨ns, hns⟩ : ∃ ns, r.1.length = ns := ⟨_, rfl⟩
  obtain ⟨nt, hnt⟩ : ∃ nt, r.2.1.length = nt := ⟨_, rfl⟩
  obtain ⟨np, hnp⟩ : ∃ np, r.2.2.length = np := ⟨_, rfl⟩
  rw [hn] at hmA HO HCC ⊢
  rw [hm] at hmB HFR HCC ⊢
  simp only [hns] at hmS HS HCC ⊢
  simp only [hnt] at hmT HT HCC ⊢
  simp only [hnp] at hmP HP HCC ⊢
  have HN := Lib.hid hn
  have HM := Lib.hid hm
  have HNS := Lib.hid hns
  have HNT := Lib.hid hnt
  have HNP := Lib.hid hnp
  have HEC := Lib.hid hec
  clear hn hm hns hnt hnp hec hF ho hf
  have HK0 := Lib.hid (((Kept.refl [] w).alloc (.cells #[.slice A n c, .slice B m d] 26)).alloc (.cells #[.slice SA ns sc, .slice TA nt tc, .slice PA np pc] 29))
  have HB0 : Hid (Blk ((w.alloc (.cells #[.slice A n c, .slice B m d] 26)).alloc (.cells #[.slice SA ns sc, .slice TA nt tc, .slice PA np pc] 29)) w.heap.size #[.slice A n c, .slice B m d] 26) := (Blk.new w _ _).alloc _
  have HB1 : Hid (Blk ((w.alloc (.cells #[.slice A n c, .slice B m d] 26)).alloc (.cells #[.slice SA ns sc, .slice TA nt tc, .slice PA np pc] 29)) (w.heap.size + 1) #[.slice SA ns sc, .slice TA nt tc, .slice PA np pc] 29) := by
    have := Blk.new (w.alloc (.cells #[.slice A n c, .slice B m d] 26)) #[.slice SA ns sc, .slice TA nt tc, .slice PA np pc] 29
    rwa [show (w.alloc (.cells #[.slice A n c, .slice B m d] 26)).heap.size = w.heap.size + 1 by simp] at this
  go_enter Tryz.func65, Tryz.ntmps65
  go_wp2_with fail
  refine (HCC.out _ HK0.out).mono ?_
  rintro e w1 ⟨rfl, hk1⟩
  by_cases hz : ec = 0
  · subst hz
    obtain ⟨hpv, hro⟩ := checkE_zero HEC.out
    obtain ⟨hn2, hn32, hmn, hpl⟩ := plan_place hpv
    obtain ⟨hs1, hs12, ht1, hp1⟩ := ratesOk_is hro
    rw [HN.out] at hn2 hn32 hmn hpl ht1 hp1
    rw [HM.out] at hmn
    rw [HNT.out] at ht1
    rw [HNP.out] at hp1
    subst hmn ht1 hp1
    have HPL := Lib.hid hpl
    have hR0 := HR.out
    rw [if_pos rfl, outV, HN.out] at hR0
    have HG := Lib.hid hR0
    have p0 := HB0.out.kept hk1 (by simp)
    have s0 := HB1.out.kept hk1 (by simp)
    have c0 := p0.cell 0
    simp at c0
    have hlt0 := p0.lt
    obtain ⟨W0, hW0⟩ : ∃ W0, w1.alloc (.cells #[.nilFunc, .func (.func 94) #[] #[], .func (.func 95) #[] #[], .func (.func 95) #[] #[], .func (.func 94) #[] #[], .func (.func 94) #[] #[]] 145) = W0 := ⟨_, rfl⟩
    have HK1 : Hid (Kept [] w W0) := by show Kept [] w W0; rw [← hW0]; exact (HK0.out.trans hk1).alloc _
    have HB0' : Hid (Blk W0 w.heap.size #[.slice A np c, .slice B np d] 26) := by show Blk _ _ _ _; rw [← hW0]; exact p0.alloc _
    have HB1' : Hid (Blk W0 (w.heap.size + 1) #[.slice SA ns sc, .slice TA np tc, .slice PA np pc] 29) := by show Blk _ _ _ _; rw [← hW0]; exact s0.alloc _
    have HB2' : Hid (Blk W0 w1.heap.size #[.nilFunc, .func (.func 94) #[] #[], .func (.func 95) #[] #[], .func (.func 95) #[] #[], .func (.func 94) #[] #[], .func (.func 94) #[] #[]] 145) := by show Blk _ _ _ _; rw [← hW0]; exact Blk.new w1 _ _
    have hszw : W0.heap.size = w1.heap.size + 1 := by rw [← hW0]; simp
    have HW0 := Lib.hid hW0
    clear p0 s0 hk1 hpv hro hpl hR0 hW0 HB0 HB1 HK0 HCC hs12 hs1
    go_wp2_with fail
    go_loopw [8, 22] (fun o ii wr => ∃ (k : Nat) (L : List Int), k ≤ np ∧ ii = .int .i64 k ∧ L.length = k ∧ outGo x r (np - k) L = R ∧ wr.ownsRow W0.heap.size 2 1 o L.length (L.map (.int .i64)) ∧ Kept [] W0 wr) (fun _ ii _ => np - (intOf ii).toNat)
    case atStart => exact ⟨0, [], by omega, rfl, rfl, by rw [Nat.sub_zero]; exact HG.out, World.ownsRow_nil _ _ _ _, by rw [HW0.out]; exact Kept.refl _ _⟩
    case round =>
      obtain ⟨k, L, hk, rfl, hll, hg, hown, hK⟩ := hrel
      have HGO := Lib.hid hg
      obtain ⟨AA, cc, rfl⟩ := own_len hown
      rw [hll] at hown ⊢
      have HOWN := Lib.hid hown
      have HGB : Hid (∀ y, (Value.slice AA k cc).ownBlock = some y → W0.heap.size ≤ y) := fun y hy => (hown.lt y hy).1
      have HRO : Hid (RdI wr .i64 (.slice AA k cc) L) := by have := (RdI.of_own hown).1; exact this
      have HK := Lib.hid hK
      have hsz2 := hK.size
      have HLL := Lib.hid hll
      clear hg hown hK hll
      by_cases hlt : k < np
      · have HST := Lib.hid (outGo_at x r np k L hlt HLL.out)
        have HPI := Lib.hid (place_is (HPL.out k hlt))
        obtain ⟨b, off, c', o, cs', he, hx, hE, hc⟩ := (Rds.keep HO.out (HK1.out.trans HK.out)).at (k := k) (by rw [HN.out]; exact hlt)
        rw [HN.out] at he
        injection he with he1 he2 he3
        subst he1 he3
        obtain ⟨tv, cv, rfl, hrt, hrc, hz1', hz2'⟩ := opR_cells hE
        obtain ⟨o0, o1, o2, o3, o4, o5, o6⟩ := o
        have e0 := hc 0 (by decide)
        have e1 := hc 1 (by decide)
        have e2 := hc 2 (by decide)
        have e3 := hc 3 (by decide)
        have e4 := hc 4 (by decide)
        have e5 := hc 5 (by decide)
        have e6 := hc 6 (by decide)
        simp [opCells, show opR.sz = 7 from rfl] at e0 e1 e2 e3 e4 e5 e6
        have HOA : Hid ((opAt x k).1 = o0) := by show _ = _; rw [opAt_of hx]
        obtain ⟨XA, xc, rfl, _⟩ := hrt.form
        obtain ⟨CA, cc2, rfl, _⟩ := hrc.form
        obtain ⟨row, hrow⟩ : ∃ row, x.2[k]? = some row := ⟨_, List.getElem?_eq_getElem (by rw [HM.out]; exact hlt)⟩
        have HRA : Hid (rowAt x k = row) := rowAt_of hrow
        have hbelow : ∀ f ∈ row, f < (L.length : Int) := by
          intro f hf
          rw [HLL.out]
          exact HPI.out.below f (by rw [HRA.out]; exact hf)
        have HIN := Lib.hid (fun (W : World) (hk : Kept [] wr W) => ins_any (.slice (some ⟨b, off, none⟩) np c) (.slice B np d) (.slice AA k cc) x.2 L row k W (HFR.out.keep ((HK1.out.trans HK.out).trans hk)) (HRO.out.keep hk) hrow (Nat.le_trans (row_fromLen hrow) HLF.out) hbelow)
        have cp := (HB0'.out.kept HK.out (by simp)).cell 0
        have cp1 := (HB0'.out.kept HK.out (by simp)).cell 1
        simp at cp cp1
        have HKX := Lib.hid ((Kept.refl [] wr).alloc (.cells #[.int .i64 o0, .string o1, .string o2, .slice XA o3.length xc, .slice CA o4.length cc2, .int .i64 o5, .int .i64 o6] 88))
        have HBX := Lib.hid (Blk.new wr #[.int .i64 o0, .string o1, .string o2, .slice XA o3.length xc, .slice CA o4.length cc2, .int .i64 o5, .int .i64 o6] 88)
        have hltw := (HB0'.out.kept HK.out (by simp)).lt
        clear hx hE hc he2 hrt hrc hz1' hz2' hrow hbelow
        go_wp2_with fail
        refine (HIN.out _ HKX.out).mono ?_
        rintro e w3 ⟨uv, rfl, hown3, hk3⟩
        obtain ⟨UA, uc, rfl⟩ := own_len hown3
        have HK3 := Lib.hid (HKX.out.trans hk3)
        have HBX3 := Lib.hid (HBX.out.kept hk3 (by simp))
        have HRU := Lib.hid (RdI.of_own hown3).1
        obtain ⟨lu, hlu⟩ : ∃ lu, (insV L row).length = lu := ⟨_, rfl⟩
        rw [hlu] at hown3 HRU ⊢
        have HLU := Lib.hid hlu
        have x0 := HBX3.out.cell 0
        simp at x0
        clear hlu hk3
        obtain ⟨tb, toff, tc', tk, he, htk, hct⟩ := RdI.at HT.out (i := k) (by rw [HNT.out]; exact hlt)
        rw [HNT.out] at he
        injection he with he1 he2 he3
        subst he1 he3
        obtain ⟨pb, poff, pc', pk, he, hpk, hcp⟩ := RdI.at HP.out (i := k) (by rw [HNP.out]; exact hlt)
        rw [HNP.out] at he
        injection he with he1 he2' he3
        subst he1 he3
        have HTK : Hid (r.2.1.getD k 0 = tk) := by show _ = _; rw [List.getD, htk]; rfl
        have HPK : Hid (r.2.2.getD k 0 = pk) := by show _ = _; rw [List.getD, hpk]; rfl
        have s0 := (HB1'.out.kept (HK.out.trans HK3.out) (by simp)).cell 0
        have s1 := (HB1'.out.kept (HK.out.trans HK3.out) (by simp)).cell 1
        have s2 := (HB1'.out.kept (HK.out.trans HK3.out) (by simp)).cell 2
        simp at s0 s1 s2
        have t0 := (HK1.out.trans (HK.out.trans HK3.out)).cell (by simp) hct
        have t1 := (HK1.out.trans (HK.out.trans HK3.out)).cell (by simp) hcp
        have HS1 : Hid (∀ W, Kept [] w3 W → W.cell? ⟨w.heap.size + 1, 0, none⟩ = some (.slice SA ns sc) ∧ W.cell? ⟨w.heap.size + 1, 1, none⟩ = some (.slice (some ⟨tb, toff, none⟩) np tc) ∧ W.cell? ⟨tb, toff + k, none⟩ = some (.int .i64 tk)) := fun W hk => ⟨hk.cell (by simp) s0, hk.cell (by simp) s1, hk.cell (by simp) t0⟩
        obtain ⟨sa, hsa⟩ : ∃ sa, addV r.1 = sa := ⟨_, rfl⟩
        obtain ⟨g, hg⟩ : ∃ g, mulV [sa, tk] = g := ⟨_, rfl⟩
        have HADD : Hid (∀ W, Kept [] w3 W → Calls Tryz.prog 45 #[.slice SA ns sc] W fun e w' => e = .returned (.int .i64 sa) ∧ W = w') := fun W hk => by
          have := add_any _ r.1 W (HS.out.keep (HK1.out.trans (HK.out.trans (HK3.out.trans hk))))
          rwa [hsa] at this
        have HMUL : Hid (∀ (W : World) (b : Nat), RdI W .i64 (.slice (some ⟨b, 0, none⟩) 2 2) [sa, tk] → Calls Tryz.prog 68 #[.slice (some ⟨b, 0, none⟩) 2 2] W fun e w' => e = .returned (.int .i64 g) ∧ W = w') := fun W b hb => by
          rw [← hg]
          exact mul_any _ _ _ hb
        obtain ⟨hg1, hg2⟩ : 0 ≤ g ∧ g ≤ 9223372036854775807 := by rw [← hg]; exact mulV_bd _
        have hq2 : Int.tdiv g 1024 = g / 1024 := Int.tdiv_eq_ediv_of_nonneg hg1
        have hw2 : IntKind.i64.wrap (g / 1024) = g / 1024 := by unfold IntKind.wrap; simp [IntKind.signed, IntKind.bits]; omega
        have HQ : Hid (byV (addV r.1) tk = g / 1024) := by show _ = _; rw [byV, hsa, hg, hq2]
        have hk0 : (0 : Int) ≤ (k : Int) := by omega
        have hkn : (k : Int) < (np : Int) := by omega
        have hpb : pb < w.heap.size := cell_lt hcp
        have hwW : w.heap.size ≤ W0.heap.size := HK1.out.size
        have hB1lt := HB1'.out.lt
        clear he2 he2' htk hpk hct hcp hsa hg hmS hmT hmP
        go_upto_if 33 with fail
        go_cut [11] (fun v wc => ∃ A lc cc, v = .slice A lc cc ∧ (opL x r L k).length = lc ∧ RdI wc .i64 v (opL x r L k) ∧ ((o0 = 2 ∨ o0 = 3) → ∃ g, A = some ⟨g, 0, none⟩ ∧ 0 < lc ∧ lc ≤ cc ∧ cc ≤ 9223372036854775807) ∧ Kept [] w3 wc)
        case first =>
          by_cases h1 : o0 = 1
          · subst h1
            have HOP : Hid (opL x r L k = [g / 1024]) := by show _ = _; rw [opL, if_pos HOA.out, HTK.out, HQ.out]
            go_wp2_with fail
            go_region_held3 (fun w' => w'.cell? ⟨w.heap.size + 1, 0, none⟩ = some (.slice SA ns sc) ∧ w'.cell? ⟨w.heap.size + 1, 1, none⟩ = some (.slice (some ⟨tb, toff, none⟩) np tc) ∧ w'.cell? ⟨tb, toff + k, none⟩ = some (.int .i64 tk)) (exact HS1.out _ (by (repeat (first | exact Kept.refl _ _ | assumption | refine Kept.drewN ?_ _ | refine Kept.drew ?_ | refine Kept.alloc ?_ _)))) (first
              | (go_at_call 45; refine (HADD.out _ (by (repeat (first | exact Kept.refl _ _ | assumption | refine Kept.drewN ?_ _ | refine Kept.drew ?_ | refine Kept.alloc ?_ _)))).mono ?_; rintro e w5 ⟨rfl, rfl⟩)
              | (go_at_call 68; refine (HMUL.out _ _ (by (repeat (first | exact two_at (by (first | rfl | (simp; done) | (simp; omega))) | exact one_at (by (first | rfl | (simp; done) | (simp; omega))) | refine RdI.drew1 ?_ | refine RdI.drewN ?_ _)))).mono ?_; rintro e w6 ⟨rfl, rfl⟩))
            all_goals
              go_wp2_with fail
              go_meet
              case rel => exact ⟨_, 1, 1, rfl, by rw [HOP.out]; rfl, by rw [HOP.out]; (repeat (first | exact two_at (by (first | rfl | (simp; done) | (simp; omega))) | exact one_at (by (first | rfl | (simp; done) | (simp; omega))) | refine RdI.drew1 ?_ | refine RdI.drewN ?_ _)), fun h => absurd h (by omega), by (repeat (first | exact Kept.refl _ _ | assumption | refine Kept.drewN ?_ _ | refine Kept.drew ?_ | refine Kept.alloc ?_ _))⟩
          · have h1' : (o0 == 1) = false := by rw [beq_eq_false_iff_ne]; exact h1
            have HOP : Hid (opL x r L k = insV L row) := by show _ = _; rw [opL, if_neg (by rw [HOA.out]; exact h1), HRA.out]
            have HPR : Hid ((o0 = 2 ∨ o0 = 3) → ∃ g, UA = some ⟨g, 0, none⟩ ∧ 0 < lu ∧ lu ≤ uc ∧ uc ≤ 9223372036854775807) := by
              intro h23
              have h2 := HPI.out.two (by rw [HOA.out]; exact h23)
              rw [HRA.out] at h2
              have h3 := insV_len L row (by have := HPI.out.low (by rw [HOA.out]; exact h1); rwa [HRA.out] at this)
              rw [HLU.out] at h3
              rcases hown3.2 with ⟨_, h0⟩ | ⟨g, cap, cur, he, _, _, h4, h5, _, _⟩
              · omega
              · injection he with he1 he2 he3
                subst he3
                exact ⟨g, he1, by omega, h4, h5⟩
            clear hown3
            go_wp2_with fail
            go_meet
            case rel => exact ⟨UA, lu, uc, rfl, by rw [HOP.out]; exact HLU.out, by rw [HOP.out]; exact HRU.out, HPR.out, by (repeat (first | exact Kept.refl _ _ | assumption | refine Kept.drewN ?_ _ | refine Kept.drew ?_ | refine Kept.alloc ?_ _))⟩
        case rest =>
          obtain ⟨A', lc, cc', rfl, hlc, hrd, hprod, hk4⟩ := hcut
          have hkc : Kept [] wr wc := HK3.out.trans hk4
          have c0 := hk4.cell (by simp) x0
          have c1 := hk4.cell (by simp) s2
          have c2 := hk4.cell (by simp) t1
          have HFB := Lib.hid (HB2'.out.kept (HK.out.trans hkc) (by simp))
          have HOWNC : Hid (∀ W, Kept [] wc W → W.ownsRow W0.heap.size 2 1 (.slice AA k cc) k (L.map (.int .i64))) := fun W hk => ownsRow_keep HOWN.out (hkc.trans hk) (by simp)
          obtain ⟨nv, hnv⟩ : ∃ nv, opN x r L k = nv := ⟨_, rfl⟩
          obtain ⟨g2, hg2⟩ : ∃ g2, mulV [nv, pk] = g2 := ⟨_, rfl⟩
          have HMUL2 : Hid (∀ (W : World) (b : Nat), RdI W .i64 (.slice (some ⟨b, 0, none⟩) 2 2) [nv, pk] → Calls Tryz.prog 68 #[.slice (some ⟨b, 0, none⟩) 2 2] W fun e w' => e = .returned (.int .i64 g2) ∧ W = w') := fun W b hb => by
            rw [← hg2]
            exact mul_any _ _ _ hb
          obtain ⟨hg3, hg4⟩ : 0 ≤ g2 ∧ g2 ≤ 9223372036854775807 := by rw [← hg2]; exact mulV_bd _
          have hq3 : Int.tdiv g2 1024 = g2 / 1024 := Int.tdiv_eq_ediv_of_nonneg hg3
          have HGN : Hid (outGo x r (np - (k + 1)) (L ++ [g2 / 1024]) = R) := by
            show _ = _
            rw [← HGO.out, HST.out, outStep, hnv, HPK.out, byV, hg2, hq3]
          have hw3 : IntKind.i64.wrap (g2 / 1024) = g2 / 1024 := by unfold IntKind.wrap; simp [IntKind.signed, IntKind.bits]; omega
          have HKI := HPI.out.kind
          rw [HOA.out] at HKI
          have HSUM : Hid (¬ (o0 = 2 ∨ o0 = 3) → ∀ W, Kept [] wc W → Calls Tryz.prog 94 #[.slice A' lc cc'] W fun e w' => e = .returned (.int .i64 nv) ∧ Kept [] W w') := fun h W hk => by
            rw [← hnv, opN, if_neg (by rw [HOA.out]; exact h)]
            exact (sum_any _ _ W (hrd.keep hk)).mono fun e w' ⟨he, hw⟩ => ⟨he, hw ▸ Kept.refl _ _⟩
          have HPRO : Hid ((o0 = 2 ∨ o0 = 3) → ∀ W, Kept [] wc W → Calls Tryz.prog 95 #[.slice A' lc cc'] W fun e w' => e = .returned (.int .i64 nv) ∧ Kept [] W w') := fun h W hk => by
            rw [← hnv, opN, if_pos (by rw [HOA.out]; exact h)]
            obtain ⟨g, rfl, hp1, hp2, hp3⟩ := hprod h
            have hrd' := hrd.keep hk
            rw [← hlc] at hrd' hp1 hp2 ⊢
            exact product_any g 0 cc' _ W hrd' hp1 hp2 hp3
          have hfb := HFB.out.cell
          have HALL : Hid (∀ W, (Kept [] wc W ∨ ∃ V, Kept [] wc V ∧ V.grownBy W (Value.slice AA k cc).ownBlock) → W.cell? ⟨wr.heap.size, 0, none⟩ = some (.int .i64 o0) ∧ (∀ i v, wc.cell? ⟨w1.heap.size, i, none⟩ = some v → W.cell? ⟨w1.heap.size, i, none⟩ = some v) ∧ W.cell? ⟨w.heap.size + 1, 2, none⟩ = some (.slice (some ⟨pb, poff, none⟩) np pc) ∧ W.cell? ⟨pb, poff + k, none⟩ = some (.int .i64 pk)) := fun W hW => by
            have h : Kept (Value.slice AA k cc).ownBlock.toList wc W := by
              rcases hW with h | ⟨V, h, hg⟩
              · exact h.nil
              · exact (h.nil).grown hg (fun y hy => .inl (by rw [hy]; simp))
            have nb : ∀ b, (b < W0.heap.size ∨ wr.heap.size ≤ b) → b ∉ (Value.slice AA k cc).ownBlock.toList := fun b hb hm => by
              have hy : (Value.slice AA k cc).ownBlock = some b := by simpa using hm
              have h1 := HGB.out b hy
              have h2 := (HOWN.out.lt b hy).2
              omega
            exact ⟨h.cell (nb _ (.inr (Nat.le_refl _))) c0, fun i v hv => h.cell (nb _ (.inl (by show w1.heap.size < _; omega))) hv, h.cell (nb _ (.inl (by show w.heap.size + 1 < _; omega))) c1, h.cell (nb _ (.inl (by show pb < _; omega))) c2⟩
          clear hnv hg2 hrd hprod hlc hk4 hown3
          rcases HKI with q | q | q | q | q
          · subst q
            have HFN := Lib.hid (HSUM.out (by omega))
            have HS2 : Hid (∀ W, (Kept [] wc W ∨ ∃ V, Kept [] wc V ∧ V.grownBy W (Value.slice AA k cc).ownBlock) → W.cell? ⟨wr.heap.size, 0, none⟩ = some (.int .i64 1) ∧ W.cell? ⟨w1.heap.size, 1, none⟩ = some (.func (.func 94) #[] #[]) ∧ W.cell? ⟨w.heap.size + 1, 2, none⟩ = some (.slice (some ⟨pb, poff, none⟩) np pc) ∧ W.cell? ⟨pb, poff + k, none⟩ = some (.int .i64 pk)) := fun W hW => ⟨(HALL.out W hW).1, (HALL.out W hW).2.1 1 _ ((hfb 1).trans rfl), (HALL.out W hW).2.2⟩
            clear hfb
            go_wp2_with fail
            go_region_held3 (fun w' => w'.cell? ⟨wr.heap.size, 0, none⟩ = some (.int .i64 1) ∧ w'.cell? ⟨w1.heap.size, 1, none⟩ = some (.func (.func 94) #[] #[]) ∧ w'.cell? ⟨w.heap.size + 1, 2, none⟩ = some (.slice (some ⟨pb, poff, none⟩) np pc) ∧ w'.cell? ⟨pb, poff + k, none⟩ = some (.int .i64 pk)) (first | (refine HS2.out _ (.inl ?_); (repeat (first | exact Kept.refl _ _ | assumption | refine Kept.drewN ?_ _ | refine Kept.drew ?_ | refine Kept.alloc ?_ _)); done) | (refine HS2.out _ (.inr ⟨_, ?_, hgrow7⟩); (repeat (first | exact Kept.refl _ _ | assumption | refine Kept.drewN ?_ _ | refine Kept.drew ?_ | refine Kept.alloc ?_ _)); done)) (first
              | (go_at_call 94; refine (HFN.out _ (by (repeat (first | exact Kept.refl _ _ | assumption | refine Kept.drewN ?_ _ | refine Kept.drew ?_ | refine Kept.alloc ?_ _)))).mono ?_; rintro e w5 ⟨rfl, hk5⟩; have hk5' : Kept [] wc w5 := Kept.trans (by (repeat (first | exact Kept.refl _ _ | assumption | refine Kept.drewN ?_ _ | refine Kept.drew ?_ | refine Kept.alloc ?_ _))) hk5)
              | (go_at_call 68; refine (HMUL2.out _ _ (by (repeat (first | exact two_at (by (first | rfl | (simp; done) | (simp; omega))) | exact one_at (by (first | rfl | (simp; done) | (simp; omega))) | refine RdI.drew1 ?_ | refine RdI.drewN ?_ _)))).mono ?_; rintro e w6 ⟨rfl, rfl⟩)
              | (refine step_guard _ _ 27 (by rfl) ?_; refine step_append_lies _ (by rfl) _ _ 27 (by rfl) W0.heap.size 2 i0 (.int .i64 0) 1 8 Tryz.underlying27 hi0 hz0 hz1 hz2 (by rfl) (by decide) (.slice AA k cc) k (L.map (.int .i64)) (by rfl) (HOWNC.out _ (by (repeat (first | exact Kept.refl _ _ | assumption | refine Kept.drewN ?_ _ | refine Kept.drew ?_ | refine Kept.alloc ?_ _)))) ⟨w5.heap.size + 1, 0, none⟩ 1 1 [.int .i64 (g2 / 1024)] (by rfl) (by rfl) (by (repeat (first | exact cell_one_at _ _ _ _ (by (first | rfl | (simp; done) | (simp; omega))) | refine cells_drew ?_ | refine cells_drewN ?_))) (by simp [Value.oneCell']) (by decide) (by unfold maxLen; omega) (by omega) (by have := hk5'.size; have := hkc.size; simp; omega) (w5.heap.size + 1 + 1) (by (first | rfl | (simp; done) | (simp; omega))) ?_; intro gg cap w7 hown7 hgrow7 hat7 hlt7))
            all_goals
              have HK7 : Hid (Kept [] W0 w7) := Kept.grown (S := []) (a := W0) (Kept.trans (HK.out.trans hkc) (by (repeat (first | exact Kept.refl _ _ | assumption | refine Kept.drewN ?_ _ | refine Kept.drew ?_ | refine Kept.alloc ?_ _)))) hgrow7 (fun y hy => .inr (HGB.out y hy))
              have HOWN7 := Lib.hid hown7
              clear hown7 hgrow7 hat7 hlt7
              go_wp2_with fail
              go_roundw
              case rel => exact ⟨k + 1, L ++ [g2 / 1024], by omega, by go_num, by rw [List.length_append, HLL.out]; rfl, HGN.out, by rw [List.map_append, List.length_append, HLL.out]; exact HOWN7.out, HK7.out⟩
              case measure => simp [intOf]; omega
          · subst q
            have HFN := Lib.hid (HPRO.out (by omega))
            have HS2 : Hid (∀ W, (Kept [] wc W ∨ ∃ V, Kept [] wc V ∧ V.grownBy W (Value.slice AA k cc).ownBlock) → W.cell? ⟨wr.heap.size, 0, none⟩ = some (.int .i64 2) ∧ W.cell? ⟨w1.heap.size, 2, none⟩ = some (.func (.func 95) #[] #[]) ∧ W.cell? ⟨w.heap.size + 1, 2, none⟩ = some (.slice (some ⟨pb, poff, none⟩) np pc) ∧ W.cell? ⟨pb, poff + k, none⟩ = some (.int .i64 pk)) := fun W hW => ⟨(HALL.out W hW).1, (HALL.out W hW).2.1 2 _ ((hfb 2).trans rfl), (HALL.out W hW).2.2⟩
            clear hfb
            go_wp2_with fail
            go_region_held3 (fun w' => w'.cell? ⟨wr.heap.size, 0, none⟩ = some (.int .i64 2) ∧ w'.cell? ⟨w1.heap.size, 2, none⟩ = some (.func (.func 95) #[] #[]) ∧ w'.cell? ⟨w.heap.size + 1, 2, none⟩ = some (.slice (some ⟨pb, poff, none⟩) np pc) ∧ w'.cell? ⟨pb, poff + k, none⟩ = some (.int .i64 pk)) (first | (refine HS2.out _ (.inl ?_); (repeat (first | exact Kept.refl _ _ | assumption | refine Kept.drewN ?_ _ | refine Kept.drew ?_ | refine Kept.alloc ?_ _)); done) | (refine HS2.out _ (.inr ⟨_, ?_, hgrow7⟩); (repeat (first | exact Kept.refl _ _ | assumption | refine Kept.drewN ?_ _ | refine Kept.drew ?_ | refine Kept.alloc ?_ _)); done)) (first
              | (go_at_call 95; refine (HFN.out _ (by (repeat (first | exact Kept.refl _ _ | assumption | refine Kept.drewN ?_ _ | refine Kept.drew ?_ | refine Kept.alloc ?_ _)))).mono ?_; rintro e w5 ⟨rfl, hk5⟩; have hk5' : Kept [] wc w5 := Kept.trans (by (repeat (first | exact Kept.refl _ _ | assumption | refine Kept.drewN ?_ _ | refine Kept.drew ?_ | refine Kept.alloc ?_ _))) hk5)
              | (go_at_call 68; refine (HMUL2.out _ _ (by (repeat (first | exact two_at (by (first | rfl | (simp; done) | (simp; omega))) | exact one_at (by (first | rfl | (simp; done) | (simp; omega))) | refine RdI.drew1 ?_ | refine RdI.drewN ?_ _)))).mono ?_; rintro e w6 ⟨rfl, rfl⟩)
              | (refine step_guard _ _ 27 (by rfl) ?_; refine step_append_lies _ (by rfl) _ _ 27 (by rfl) W0.heap.size 2 i0 (.int .i64 0) 1 8 Tryz.underlying27 hi0 hz0 hz1 hz2 (by rfl) (by decide) (.slice AA k cc) k (L.map (.int .i64)) (by rfl) (HOWNC.out _ (by (repeat (first | exact Kept.refl _ _ | assumption | refine Kept.drewN ?_ _ | refine Kept.drew ?_ | refine Kept.alloc ?_ _)))) ⟨w5.heap.size + 1, 0, none⟩ 1 1 [.int .i64 (g2 / 1024)] (by rfl) (by rfl) (by (repeat (first | exact cell_one_at _ _ _ _ (by (first | rfl | (simp; done) | (simp; omega))) | refine cells_drew ?_ | refine cells_drewN ?_))) (by simp [Value.oneCell']) (by decide) (by unfold maxLen; omega) (by omega) (by have := hk5'.size; have := hkc.size; simp; omega) (w5.heap.size + 1 + 1) (by (first | rfl | (simp; done) | (simp; omega))) ?_; intro gg cap w7 hown7 hgrow7 hat7 hlt7))
            all_goals
              have HK7 : Hid (Kept [] W0 w7) := Kept.grown (S := []) (a := W0) (Kept.trans (HK.out.trans hkc) (by (repeat (first | exact Kept.refl _ _ | assumption | refine Kept.drewN ?_ _ | refine Kept.drew ?_ | refine Kept.alloc ?_ _)))) hgrow7 (fun y hy => .inr (HGB.out y hy))
              have HOWN7 := Lib.hid hown7
              clear hown7 hgrow7 hat7 hlt7
              go_wp2_with fail
              go_roundw
              case rel => exact ⟨k + 1, L ++ [g2 / 1024], by omega, by go_num, by rw [List.length_append, HLL.out]; rfl, HGN.out, by rw [List.map_append, List.length_append, HLL.out]; exact HOWN7.out, HK7.out⟩
              case measure => simp [intOf]; omega
          · subst q
            have HFN := Lib.hid (HPRO.out (by omega))
            have HS2 : Hid (∀ W, (Kept [] wc W ∨ ∃ V, Kept [] wc V ∧ V.grownBy W (Value.slice AA k cc).ownBlock) → W.cell? ⟨wr.heap.size, 0, none⟩ = some (.int .i64 3) ∧ W.cell? ⟨w1.heap.size, 3, none⟩ = some (.func (.func 95) #[] #[]) ∧ W.cell? ⟨w.heap.size + 1, 2, none⟩ = some (.slice (some ⟨pb, poff, none⟩) np pc) ∧ W.cell? ⟨pb, poff + k, none⟩ = some (.int .i64 pk)) := fun W hW => ⟨(HALL.out W hW).1, (HALL.out W hW).2.1 3 _ ((hfb 3).trans rfl), (HALL.out W hW).2.2⟩
            clear hfb
            go_wp2_with fail
            go_region_held3 (fun w' => w'.cell? ⟨wr.heap.size, 0, none⟩ = some (.int .i64 3) ∧ w'.cell? ⟨w1.heap.size, 3, none⟩ = some (.func (.func 95) #[] #[]) ∧ w'.cell? ⟨w.heap.size + 1, 2, none⟩ = some (.slice (some ⟨pb, poff, none⟩) np pc) ∧ w'.cell? ⟨pb, poff + k, none⟩ = some (.int .i64 pk)) (first | (refine HS2.out _ (.inl ?_); (repeat (first | exact Kept.refl _ _ | assumption | refine Kept.drewN ?_ _ | refine Kept.drew ?_ | refine Kept.alloc ?_ _)); done) | (refine HS2.out _ (.inr ⟨_, ?_, hgrow7⟩); (repeat (first | exact Kept.refl _ _ | assumption | refine Kept.drewN ?_ _ | refine Kept.drew ?_ | refine Kept.alloc ?_ _)); done)) (first
              | (go_at_call 95; refine (HFN.out _ (by (repeat (first | exact Kept.refl _ _ | assumption | refine Kept.drewN ?_ _ | refine Kept.drew ?_ | refine Kept.alloc ?_ _)))).mono ?_; rintro e w5 ⟨rfl, hk5⟩; have hk5' : Kept [] wc w5 := Kept.trans (by (repeat (first | exact Kept.refl _ _ | assumption | refine Kept.drewN ?_ _ | refine Kept.drew ?_ | refine Kept.alloc ?_ _))) hk5)
              | (go_at_call 68; refine (HMUL2.out _ _ (by (repeat (first | exact two_at (by (first | rfl | (simp; done) | (simp; omega))) | exact one_at (by (first | rfl | (simp; done) | (simp; omega))) | refine RdI.drew1 ?_ | refine RdI.drewN ?_ _)))).mono ?_; rintro e w6 ⟨rfl, rfl⟩)
              | (refine step_guard _ _ 27 (by rfl) ?_; refine step_append_lies _ (by rfl) _ _ 27 (by rfl) W0.heap.size 2 i0 (.int .i64 0) 1 8 Tryz.underlying27 hi0 hz0 hz1 hz2 (by rfl) (by decide) (.slice AA k cc) k (L.map (.int .i64)) (by rfl) (HOWNC.out _ (by (repeat (first | exact Kept.refl _ _ | assumption | refine Kept.drewN ?_ _ | refine Kept.drew ?_ | refine Kept.alloc ?_ _)))) ⟨w5.heap.size + 1, 0, none⟩ 1 1 [.int .i64 (g2 / 1024)] (by rfl) (by rfl) (by (repeat (first | exact cell_one_at _ _ _ _ (by (first | rfl | (simp; done) | (simp; omega))) | refine cells_drew ?_ | refine cells_drewN ?_))) (by simp [Value.oneCell']) (by decide) (by unfold maxLen; omega) (by omega) (by have := hk5'.size; have := hkc.size; simp; omega) (w5.heap.size + 1 + 1) (by (first | rfl | (simp; done) | (simp; omega))) ?_; intro gg cap w7 hown7 hgrow7 hat7 hlt7))
            all_goals
              have HK7 : Hid (Kept [] W0 w7) := Kept.grown (S := []) (a := W0) (Kept.trans (HK.out.trans hkc) (by (repeat (first | exact Kept.refl _ _ | assumption | refine Kept.drewN ?_ _ | refine Kept.drew ?_ | refine Kept.alloc ?_ _)))) hgrow7 (fun y hy => .inr (HGB.out y hy))
              have HOWN7 := Lib.hid hown7
              clear hown7 hgrow7 hat7 hlt7
              go_wp2_with fail
              go_roundw
              case rel => exact ⟨k + 1, L ++ [g2 / 1024], by omega, by go_num, by rw [List.length_append, HLL.out]; rfl, HGN.out, by rw [List.map_append, List.length_append, HLL.out]; exact HOWN7.out, HK7.out⟩
              case measure => simp [intOf]; omega
          · subst q
            have HFN := Lib.hid (HSUM.out (by omega))
            have HS2 : Hid (∀ W, (Kept [] wc W ∨ ∃ V, Kept [] wc V ∧ V.grownBy W (Value.slice AA k cc).ownBlock) → W.cell? ⟨wr.heap.size, 0, none⟩ = some (.int .i64 4) ∧ W.cell? ⟨w1.heap.size, 4, none⟩ = some (.func (.func 94) #[] #[]) ∧ W.cell? ⟨w.heap.size + 1, 2, none⟩ = some (.slice (some ⟨pb, poff, none⟩) np pc) ∧ W.cell? ⟨pb, poff + k, none⟩ = some (.int .i64 pk)) := fun W hW => ⟨(HALL.out W hW).1, (HALL.out W hW).2.1 4 _ ((hfb 4).trans rfl), (HALL.out W hW).2.2⟩
            clear hfb
            go_wp2_with fail
            go_region_held3 (fun w' => w'.cell? ⟨wr.heap.size, 0, none⟩ = some (.int .i64 4) ∧ w'.cell? ⟨w1.heap.size, 4, none⟩ = some (.func (.func 94) #[] #[]) ∧ w'.cell? ⟨w.heap.size + 1, 2, none⟩ = some (.slice (some ⟨pb, poff, none⟩) np pc) ∧ w'.cell? ⟨pb, poff + k, none⟩ = some (.int .i64 pk)) (first | (refine HS2.out _ (.inl ?_); (repeat (first | exact Kept.refl _ _ | assumption | refine Kept.drewN ?_ _ | refine Kept.drew ?_ | refine Kept.alloc ?_ _)); done) | (refine HS2.out _ (.inr ⟨_, ?_, hgrow7⟩); (repeat (first | exact Kept.refl _ _ | assumption | refine Kept.drewN ?_ _ | refine Kept.drew ?_ | refine Kept.alloc ?_ _)); done)) (first
              | (go_at_call 94; refine (HFN.out _ (by (repeat (first | exact Kept.refl _ _ | assumption | refine Kept.drewN ?_ _ | refine Kept.drew ?_ | refine Kept.alloc ?_ _)))).mono ?_; rintro e w5 ⟨rfl, hk5⟩; have hk5' : Kept [] wc w5 := Kept.trans (by (repeat (first | exact Kept.refl _ _ | assumption | refine Kept.drewN ?_ _ | refine Kept.drew ?_ | refine Kept.alloc ?_ _))) hk5)
              | (go_at_call 68; refine (HMUL2.out _ _ (by (repeat (first | exact two_at (by (first | rfl | (simp; done) | (simp; omega))) | exact one_at (by (first | rfl | (simp; done) | (simp; omega))) | refine RdI.drew1 ?_ | refine RdI.drewN ?_ _)))).mono ?_; rintro e w6 ⟨rfl, rfl⟩)
              | (refine step_guard _ _ 27 (by rfl) ?_; refine step_append_lies _ (by rfl) _ _ 27 (by rfl) W0.heap.size 2 i0 (.int .i64 0) 1 8 Tryz.underlying27 hi0 hz0 hz1 hz2 (by rfl) (by decide) (.slice AA k cc) k (L.map (.int .i64)) (by rfl) (HOWNC.out _ (by (repeat (first | exact Kept.refl _ _ | assumption | refine Kept.drewN ?_ _ | refine Kept.drew ?_ | refine Kept.alloc ?_ _)))) ⟨w5.heap.size + 1, 0, none⟩ 1 1 [.int .i64 (g2 / 1024)] (by rfl) (by rfl) (by (repeat (first | exact cell_one_at _ _ _ _ (by (first | rfl | (simp; done) | (simp; omega))) | refine cells_drew ?_ | refine cells_drewN ?_))) (by simp [Value.oneCell']) (by decide) (by unfold maxLen; omega) (by omega) (by have := hk5'.size; have := hkc.size; simp; omega) (w5.heap.size + 1 + 1) (by (first | rfl | (simp; done) | (simp; omega))) ?_; intro gg cap w7 hown7 hgrow7 hat7 hlt7))
            all_goals
              have HK7 : Hid (Kept [] W0 w7) := Kept.grown (S := []) (a := W0) (Kept.trans (HK.out.trans hkc) (by (repeat (first | exact Kept.refl _ _ | assumption | refine Kept.drewN ?_ _ | refine Kept.drew ?_ | refine Kept.alloc ?_ _)))) hgrow7 (fun y hy => .inr (HGB.out y hy))
              have HOWN7 := Lib.hid hown7
              clear hown7 hgrow7 hat7 hlt7
              go_wp2_with fail
              go_roundw
              case rel => exact ⟨k + 1, L ++ [g2 / 1024], by omega, by go_num, by rw [List.length_append, HLL.out]; rfl, HGN.out, by rw [List.map_append, List.length_append, HLL.out]; exact HOWN7.out, HK7.out⟩
              case measure => simp [intOf]; omega
          · subst q
            have HFN := Lib.hid (HSUM.out (by omega))
            have HS2 : Hid (∀ W, (Kept [] wc W ∨ ∃ V, Kept [] wc V ∧ V.grownBy W (Value.slice AA k cc).ownBlock) → W.cell? ⟨wr.heap.size, 0, none⟩ = some (.int .i64 5) ∧ W.cell? ⟨w1.heap.size, 5, none⟩ = some (.func (.func 94) #[] #[]) ∧ W.cell? ⟨w.heap.size + 1, 2, none⟩ = some (.slice (some ⟨pb, poff, none⟩) np pc) ∧ W.cell? ⟨pb, poff + k, none⟩ = some (.int .i64 pk)) := fun W hW => ⟨(HALL.out W hW).1, (HALL.out W hW).2.1 5 _ ((hfb 5).trans rfl), (HALL.out W hW).2.2⟩
            clear hfb
            go_wp2_with fail
            go_region_held3 (fun w' => w'.cell? ⟨wr.heap.size, 0, none⟩ = some (.int .i64 5) ∧ w'.cell? ⟨w1.heap.size, 5, none⟩ = some (.func (.func 94) #[] #[]) ∧ w'.cell? ⟨w.heap.size + 1, 2, none⟩ = some (.slice (some ⟨pb, poff, none⟩) np pc) ∧ w'.cell? ⟨pb, poff + k, none⟩ = some (.int .i64 pk)) (first | (refine HS2.out _ (.inl ?_); (repeat (first | exact Kept.refl _ _ | assumption | refine Kept.drewN ?_ _ | refine Kept.drew ?_ | refine Kept.alloc ?_ _)); done) | (refine HS2.out _ (.inr ⟨_, ?_, hgrow7⟩); (repeat (first | exact Kept.refl _ _ | assumption | refine Kept.drewN ?_ _ | refine Kept.drew ?_ | refine Kept.alloc ?_ _)); done)) (first
              | (go_at_call 94; refine (HFN.out _ (by (repeat (first | exact Kept.refl _ _ | assumption | refine Kept.drewN ?_ _ | refine Kept.drew ?_ | refine Kept.alloc ?_ _)))).mono ?_; rintro e w5 ⟨rfl, hk5⟩; have hk5' : Kept [] wc w5 := Kept.trans (by (repeat (first | exact Kept.refl _ _ | assumption | refine Kept.drewN ?_ _ | refine Kept.drew ?_ | refine Kept.alloc ?_ _))) hk5)
              | (go_at_call 68; refine (HMUL2.out _ _ (by (repeat (first | exact two_at (by (first | rfl | (simp; done) | (simp; omega))) | exact one_at (by (first | rfl | (simp; done) | (simp; omega))) | refine RdI.drew1 ?_ | refine RdI.drewN ?_ _)))).mono ?_; rintro e w6 ⟨rfl, rfl⟩)
              | (refine step_guard _ _ 27 (by rfl) ?_; refine step_append_lies _ (by rfl) _ _ 27 (by rfl) W0.heap.size 2 i0 (.int .i64 0) 1 8 Tryz.underlying27 hi0 hz0 hz1 hz2 (by rfl) (by decide) (.slice AA k cc) k (L.map (.int .i64)) (by rfl) (HOWNC.out _ (by (repeat (first | exact Kept.refl _ _ | assumption | refine Kept.drewN ?_ _ | refine Kept.drew ?_ | refine Kept.alloc ?_ _)))) ⟨w5.heap.size + 1, 0, none⟩ 1 1 [.int .i64 (g2 / 1024)] (by rfl) (by rfl) (by (repeat (first | exact cell_one_at _ _ _ _ (by (first | rfl | (simp; done) | (simp; omega))) | refine cells_drew ?_ | refine cells_drewN ?_))) (by simp [Value.oneCell']) (by decide) (by unfold maxLen; omega) (by omega) (by have := hk5'.size; have := hkc.size; simp; omega) (w5.heap.size + 1 + 1) (by (first | rfl | (simp; done) | (simp; omega))) ?_; intro gg cap w7 hown7 hgrow7 hat7 hlt7))
            all_goals
              have HK7 : Hid (Kept [] W0 w7) := Kept.grown (S := []) (a := W0) (Kept.trans (HK.out.trans hkc) (by (repeat (first | exact Kept.refl _ _ | assumption | refine Kept.drewN ?_ _ | refine Kept.drew ?_ | refine Kept.alloc ?_ _)))) hgrow7 (fun y hy => .inr (HGB.out y hy))
              have HOWN7 := Lib.hid hown7
              clear hown7 hgrow7 hat7 hlt7
              go_wp2_with fail
              go_roundw
              case rel => exact ⟨k + 1, L ++ [g2 / 1024], by omega, by go_num, by rw [List.length_append, HLL.out]; rfl, HGN.out, by rw [List.map_append, List.length_append, HLL.out]; exact HOWN7.out, HK7.out⟩
              case measure => simp [intOf]; omega
      · have hkn : k = np := by omega
        subst hkn
        have hLR : Hid (L = R) := by show _ = _; rw [← HGO.out, Nat.sub_self]; rfl
        have hbl := HK1.out.size
        go_wp2_with fail
        go_ret2
        refine ⟨_, rfl, ?_, HK1.out.trans HK.out⟩
        rw [← hLR.out, HLL.out]
        exact rowBase HOWN.out hbl
  · have hz' : (ec != 0) = true := by rw [bne_iff_ne]; exact hz
    have HK1 := Lib.hid (HK0.out.trans hk1)
    go_wp2_with fail
    go_ret2
    have hR0 := HR.out
    rw [if_neg hz] at hR0
    subst hR0
    exact ⟨_, rfl, World.ownsRow_nil _ _ _ _, HK1.out⟩

end Go.Proofs.YtbaifjdealmckaaGreat
