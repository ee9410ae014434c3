/- At one place nothing goes over a way: the walk of CostOne. -/
import Derived.Test.YtiiiflckphgdiaaM7
import Derived.Test.YtiiiflckphgdiaaM3
import Derived.Test.YtiiiflckphgdiaaBK
set_option linter.unusedVariables false
set_option linter.unusedSimpArgs false
set_option linter.unnecessarySimpa false
namespace Go.Proofs.Ytiiiflckphgdiaa
open Go.RowKit Go.Shelf Tr
attribute [local go_sem] Oper.semAt_some

theorem plan_reads4 {w : World} {v : Array Value} {x : PlanD} (h : planR.K w x v.toList) : ∃ ov fv, v = #[ov, fv] ∧ Rds opR w ov x.1 ∧ Rds intsR w fv x.2 := by
  obtain ⟨ov, fv, he, h1, h2⟩ := RdP.of_rk h
  simp at he
  exact ⟨ov, fv, he, h1, h2⟩
theorem rates_reads4 {w : World} {v : Array Value} {r : RatesD} (h : ratesR.K w r v.toList) : ∃ sv tv pv, v = #[sv, tv, pv] ∧ Rds (Rk.int .i64) w sv r.1 ∧ Rds (Rk.int .i64) w tv r.2.1 ∧ Rds (Rk.int .i64) w pv r.2.2 := by
  obtain ⟨c1, c2, he, h1, c3, c4, he2, h2, h3⟩ := h
  obtain ⟨sv, rfl, k1⟩ := intsR_cells h1
  obtain ⟨tv, rfl, k2⟩ := intsR_cells h2
  obtain ⟨pv, rfl, k3⟩ := intsR_cells h3
  subst he2
  refine ⟨sv, tv, pv, ?_, k1, k2, k3⟩
  rw [← Array.toArray_toList (xs := v), he]
  rfl
/-- A row of numbers that was made is read as such. -/
theorem rds_of_own {w : World} {base : Nat} {e : TypeId} {v : Value} {n : Nat} {l : List Int} (h : w.ownsRow base e 1 v n (l.map (.int .i64))) (hn : n = l.length) (hw : ∀ x ∈ l, (Lit.int .i64 x).wf = true) : Rds (Rk.int .i64) w v l := by
  subst hn
  refine Rds.of_own (d := Rk.int .i64) (xs := l.map (.int .i64)) h (by decide) (fun i x hi => ⟨[.int .i64 x], ⟨rfl, hw x (List.mem_of_getElem? hi)⟩, fun j hj => ?_⟩)
  have : j = 0 := by have : (Rk.int .i64).sz = 1 := rfl; omega
  subst this
  rw [show i * (Rk.int .i64).sz + 0 = i by simp [Rk.int]]
  simp [hi]

theorem cell0_at {w : World} {b : Nat} {x : Value} {t : TypeId} (hb : b = w.heap.size) : (w.alloc (.cells #[x] t)).cell? ⟨b, 0, none⟩ = some x := by subst hb; exact (Blk.new w #[x] t).cell 0
theorem cell_drew {w : World} {a : Addr} {v : Option Value} (h : w.cell? a = v) : w.drew.cell? a = v := h
theorem cell_drewN {w : World} {a : Addr} {v : Option Value} {n : Nat} (h : w.cell? a = v) : (w.drewN n).cell? a = v := h
set_option maxRecDepth 100000 in
set_option maxHeartbeats 4000000 in
theorem one_any (qv ov fv sv tv pv : Value) (P : List Int) (x : PlanD) (r : RatesD) (k : Nat) (w : World) (hq : RdI w .i64 qv P) (ho : Rds opR w ov x.1) (hf : Rds intsR w fv x.2) (hF : fromLen x.2 ≤ 1048576)
    (hs : RdI w .i64 sv r.1) (ht : RdI w .i64 tv r.2.1) (hp : RdI w .i64 pv r.2.2) (hk : k ≤ 255) :
    Calls Try.prog 6 #[qv, .agg #[ov, fv], .agg #[sv, tv, pv], .int .u8 k] w fun e w' => e = .returned (.bool true) ∧ Kept [] w w' := by
  have HNEW := Lib.hid (fun (W : World) (hk : Kept [] w W) => new_any qv P W (hq.keep hk))
  have HCC := Lib.hid (fun (W : World) (hk : Kept [] w W) => costcheck_any ov fv sv tv pv x r W (ho.keep hk) (hf.keep hk) hF (hs.keep hk) (ht.keep hk) (hp.keep hk))
  have HTR : Hid (∀ (b : Nat) (W : World), Kept [] w W → treeErr P = 0 → TreeAt W b P → checkE x r = 0 → ∀ (z : Int) (av zv : Value), inB P.length z → RdI W .i64 av (List.replicate x.1.length z) → Rds (Rk.int .i64) W av (List.replicate x.1.length z) → RdI W .i64 zv (List.replicate r.1.length z) → Rds (Rk.int .i64) W zv (List.replicate r.1.length z) →
      Calls Try.prog 27 #[.pointer (some ⟨b, 0, none⟩), .agg #[ov, fv], .agg #[sv, tv, pv], av, zv] W fun e w' => e = .returned (.tuple #[.int .i64 0, .int .i64 0]) ∧ Kept [] W w') := fun b W hk he hta hc z av zv hz h1 h2 h3 h4 => by
    have := traffic_any b P ov fv sv tv pv av zv x r _ _ W hta (tree_of he) (ho.keep hk) (hf.keep hk) hF (hs.keep hk) (ht.keep hk) (hp.keep hk) h1 h2 h3 h4
    obtain ⟨e1, e2⟩ := one_place (tree_of he) hz hc
    rwa [e1, e2] at this
  have HPL : Hid (treeErr P = 0 → 1 ≤ P.length ∧ P.length ≤ 16) := fun h => ⟨(tree_of h).pos, (tree_of h).le⟩
  have HNN : Hid (checkE x r = 0 → (1 ≤ x.1.length ∧ x.1.length ≤ 32) ∧ 1 ≤ r.1.length ∧ r.1.length ≤ 12) := fun h => by
    obtain ⟨hpv, hro⟩ := checkE_zero h
    obtain ⟨h2, h32, hm, hp⟩ := plan_place hpv
    have hri := ratesOk_is hro
    exact ⟨⟨by omega, h32⟩, hri.1, hri.2.1⟩
  have HREP : Hid (∀ (z : Int) (q : Nat), 1 ≤ q → q ≤ 32 → ∀ (W : World) (b : Nat), W.cell? ⟨b, 0, none⟩ = some (.int .i64 z) → Calls Try.prog 26 #[.slice (some ⟨b, 0, none⟩) 1 1, .int .i64 q] W (IntsPost8 W (List.replicate q z))) := fun z q h1 h2 W b hb => repeati_any z b q W h1 h2 hb (cell_lt hb)
  obtain ⟨A1, c, rfl, hmA⟩ := ho.form
  obtain ⟨B, d, rfl, hmB⟩ := hf.form
  obtain ⟨SA, sc, rfl, hmS, -⟩ := hs
  obtain ⟨TA, tc, rfl, hmT, -⟩ := ht
  obtain ⟨PA, pc, rfl, hmP, -⟩ := hp
  obtain ⟨QA, qc, rfl, hmQ, -⟩ := hq
  obtain ⟨ec, hec⟩ : ∃ ec, checkE x r = ec := ⟨_, rfl⟩
  obtain ⟨et, het⟩ : ∃ et, treeErr P = et := ⟨_, rfl⟩
  unfold NewPost at HNEW
  rw [hec] at HCC HTR HNN
  rw [het] at HNEW HTR HPL
  obtain ⟨n, hn⟩ : ∃ n, x.1.length = n := ⟨_, rfl⟩
  obtain ⟨m, hm⟩ : ∃ m, x.2.length = m := ⟨_, rfl⟩
  obtain ⟨ns, hns⟩ : ∃ ns, r.1.length = ns := ⟨_, rfl⟩
  obtain ⟨nt, hnt⟩ : ∃ nt, r.2.1.length = nt := ⟨_, rfl⟩
  obtain ⟨np, hnp⟩ : ∃ np, r.2.2.length = np := ⟨_, rfl⟩
  obtain ⟨nq, hnq⟩ : ∃ nq, P.length = nq := ⟨_, rfl⟩
  rw [hn] at HCC HTR HNN ⊢
  rw [hm] at HCC HTR ⊢
  simp only [hns] at HCC HTR HNN ⊢
  simp only [hnt] at HCC HTR ⊢
  simp only [hnp] at HCC HTR ⊢
  rw [hnq] at HNEW HTR HPL ⊢
  clear hn hm hns hnt hnp hnq hec het hF ho hf hmA hmB hmS hmT hmP hmQ
  have HK0 := Lib.hid (((Kept.refl [] w).alloc (.cells #[.slice A1 n c, .slice B m d] 30)).alloc (.cells #[.slice SA ns sc, .slice TA nt tc, .slice PA np pc] 32))
  have HB0 : Hid (Blk ((w.alloc (.cells #[.slice A1 n c, .slice B m d] 30)).alloc (.cells #[.slice SA ns sc, .slice TA nt tc, .slice PA np pc] 32)) w.heap.size #[.slice A1 n c, .slice B m d] 30) := (Blk.new w _ _).alloc _
  have HB1 : Hid (Blk ((w.alloc (.cells #[.slice A1 n c, .slice B m d] 30)).alloc (.cells #[.slice SA ns sc, .slice TA nt tc, .slice PA np pc] 32)) (w.heap.size + 1) #[.slice SA ns sc, .slice TA nt tc, .slice PA np pc] 32) := by
    have := Blk.new (w.alloc (.cells #[.slice A1 n c, .slice B m d] 30)) #[.slice SA ns sc, .slice TA nt tc, .slice PA np pc] 32
    rwa [show (w.alloc (.cells #[.slice A1 n c, .slice B m d] 30)).heap.size = w.heap.size + 1 by simp] at this
  go_enter Try.func6, Try.ntmps6
  go_wp2_with fail
  obtain ⟨w0, hw0⟩ : ∃ w0, (w.alloc (.cells #[.slice A1 n c, .slice B m d] 30)).alloc (.cells #[.slice SA ns sc, .slice TA nt tc, .slice PA np pc] 32) = w0 := ⟨_, rfl⟩
  rw [hw0] at HK0 HB0 HB1 ⊢
  clear hw0
  have HBX : Hid (∀ W, Kept [] w0 W → W.cell? ⟨w.heap.size, 0, none⟩ = some (.slice A1 n c) ∧ W.cell? ⟨w.heap.size, 1, none⟩ = some (.slice B m d) ∧ W.cell? ⟨w.heap.size + 1, 0, none⟩ = some (.slice SA ns sc) ∧ W.cell? ⟨w.heap.size + 1, 1, none⟩ = some (.slice TA nt tc) ∧ W.cell? ⟨w.heap.size + 1, 2, none⟩ = some (.slice PA np pc)) := fun W hW => ⟨((HB0.out.kept hW (by simp)).cell 0).trans rfl, ((HB0.out.kept hW (by simp)).cell 1).trans rfl, ((HB1.out.kept hW (by simp)).cell 0).trans rfl, ((HB1.out.kept hW (by simp)).cell 1).trans rfl, ((HB1.out.kept hW (by simp)).cell 2).trans rfl⟩
  refine (HNEW.out _ HK0.out).mono ?_
  rintro e w1 ⟨k1, h1⟩
  have HK1 := Lib.hid k1
  have HK01 := Lib.hid (HK0.out.trans k1)
  clear k1 HNEW
  rcases h1 with ⟨hE, rfl⟩ | ⟨rfl, rfl, htr⟩
  · have hE' : (et != 0) = true := by rw [bne_iff_ne]; exact hE
    go_wp2_with fail
    refine (begun_any _).mono ?_
    rintro e w2 ⟨rfl, hk2⟩
    have HK2 := Lib.hid (HK01.out.trans hk2)
    clear hk2
    go_wp2_with fail
    refine (begun_any _).mono ?_
    rintro e w3 ⟨rfl, hk3⟩
    have HK3 := Lib.hid (HK2.out.trans hk3)
    clear hk3
    go_wp2_with fail
    go_ret
    exact ⟨rfl, HK3.out⟩
  · have HTA := Lib.hid htr
    clear htr
    obtain ⟨hq1, hq16⟩ := HPL.out rfl
    go_wp2_with fail
    refine (begun_any _).mono ?_
    rintro e w2 ⟨rfl, hk2⟩
    have HK2' := Lib.hid (HK1.out.trans hk2)
    have HK2 := Lib.hid (HK01.out.trans hk2)
    have HTA2 := Lib.hid (HTA.out.keep hk2)
    clear hk2
    obtain ⟨x0, x1, r0, r1, r2⟩ := HBX.out _ HK2'.out
    go_wp2_with fail
    refine (HCC.out _ HK2.out).mono ?_
    rintro e w3 ⟨rfl, hk3⟩
    have HK3' := Lib.hid (HK2'.out.trans hk3)
    have HK2 := Lib.hid (HK2.out.trans hk3)
    have HTA3 := Lib.hid (HTA2.out.keep hk3)
    clear hk3 x0 x1 r0 r1 r2
    obtain ⟨x0, x1, r0, r1, r2⟩ := HBX.out _ HK3'.out
    by_cases hz : ec = 0
    · subst hz
      obtain ⟨⟨hn1, hn32⟩, hs1, hs12⟩ := HNN.out rfl
      have hs12' : ns ≤ 32 := by omega
      have hnq1 : ¬ nq = 0 := by omega
      have hnq0 : ((nq : Int) == 0) = false := by rw [beq_eq_false_iff_ne]; omega
      go_wp2_with fail
      go_region_held3 (fun w' => w'.cell? ⟨w.heap.size, 0, none⟩ = some (.slice A1 n c)) (first | exact (HBX.out _ (HK3'.out.trans (by (repeat (first | exact Kept.refl _ _ | assumption | refine Kept.drewN ?_ _ | refine Kept.drew ?_ | refine Kept.alloc ?_ _))))).1 | exact (HBX.out _ (HK3'.out.trans hk4)).1 | exact (HBX.out _ (HK3'.out.trans (hk4.drewN _))).1) (first
        | (go_at_call 26; refine (HREP.out _ n hn1 hn32 _ _ (by (repeat (first | exact cell0_at (by first | rfl | (simp; done)) | refine cell_drew ?_ | refine cell_drewN ?_)))).mono ?_; rintro e w4 ⟨v4, rfl, o4, k4⟩; rw [List.length_replicate] at o4; obtain ⟨g4, c4, rfl, hc41, hc42⟩ := own_some o4 hn1; have hk4 : Kept [] w3 w4 := Kept.trans (by (repeat (first | exact Kept.refl _ _ | assumption | refine Kept.drewN ?_ _ | refine Kept.drew ?_ | refine Kept.alloc ?_ _))) k4))
      all_goals
        have HO4 := Lib.hid o4
        have HK4' := Lib.hid (HK3'.out.trans hk4)
        have HK34 := Lib.hid hk4
        have HTA4 := Lib.hid (HTA3.out.keep hk4)
        clear o4 k4 hk4 x0 x1 r0 r1 r2
        obtain ⟨z, hzz⟩ : ∃ z, z = (IntKind.i64.wrap (k : Int)).tmod (nq : Int) := ⟨_, rfl⟩
        rw [← hzz] at HO4
        have HZ : Hid (inB nq z) := by
          show inB nq z
          have e1 : IntKind.i64.wrap (k : Int) = k := by unfold IntKind.wrap; simp [IntKind.signed, IntKind.bits]; omega
          rw [hzz, e1, Int.tmod_eq_emod_of_nonneg (by omega)]
          exact ⟨Int.emod_nonneg _ (by omega), Int.emod_lt_of_pos _ (by omega)⟩
        have HW : Hid ((Lit.int .i64 z).wf = true) := by
          have h := HZ.out
          have hq : (nq : Int) ≤ 16 := by omega
          show (decide (_ ≤ z) && decide (z ≤ _)) = true
          rw [Bool.and_eq_true, decide_eq_true_eq, decide_eq_true_eq]
          exact ⟨Int.le_trans (by decide) h.1, Int.le_trans (Int.le_of_lt h.2) (Int.le_trans hq (by decide))⟩
        clear hzz
        have HRA := Lib.hid (RdI.of_own HO4.out).1
        have HRB := Lib.hid (rds_of_own HO4.out (by simp) (fun y hy => by rw [List.eq_of_mem_replicate hy]; exact HW.out))
        have HG : Hid (∀ W, Kept [] w4 W → W.cell? ⟨g4, 0, none⟩ = some (.int .i64 z)) := fun W hW => hW.cell (by simp) ((HO4.out.cells rfl 0 (.int .i64 z) (by rw [List.map_replicate, List.getElem?_replicate, if_pos (by omega)])))
        have HTC : Hid (∀ W, Kept [] w4 W → ∀ v base, W.ownsRow base 3 1 v ns ((List.replicate ns z).map (.int .i64)) → Calls Try.prog 27 #[.pointer (some ⟨w0.heap.size, 0, none⟩), .agg #[.slice A1 n c, .slice B m d], .agg #[.slice SA ns sc, .slice TA nt tc, .slice PA np pc], .slice (some ⟨g4, 0, none⟩) n c4, v] W fun e w' => e = .returned (.tuple #[.int .i64 0, .int .i64 0]) ∧ Kept [] W w') := fun W hW v base ho =>
          HTR.out w0.heap.size W (HK0.out.trans (HK4'.out.trans hW)) (by first | trivial | rfl) (HTA4.out.keep hW) (by first | trivial | rfl) z _ v HZ.out (HRA.out.keep hW) (HRB.out.keep hW) (RdI.of_own ho).1 (rds_of_own ho (by simp) (fun y hy => by rw [List.eq_of_mem_replicate hy]; exact HW.out))
        have HSX : Hid (∀ W, Kept [] w4 W → W.cell? ⟨w.heap.size, 0, none⟩ = some (.slice A1 n c) ∧ W.cell? ⟨w.heap.size, 1, none⟩ = some (.slice B m d) ∧ W.cell? ⟨w.heap.size + 1, 0, none⟩ = some (.slice SA ns sc) ∧ W.cell? ⟨w.heap.size + 1, 1, none⟩ = some (.slice TA nt tc) ∧ W.cell? ⟨w.heap.size + 1, 2, none⟩ = some (.slice PA np pc) ∧ W.cell? ⟨g4, 0, none⟩ = some (.int .i64 z)) := fun W hW => by
          obtain ⟨x0, x1, r0, r1, r2⟩ := HBX.out _ (HK4'.out.trans hW)
          exact ⟨x0, x1, r0, r1, r2, HG.out W hW⟩
        have hn0 : 0 < n := by omega
        have hn0' : (0 : Int) < (n : Int) := by omega
        go_wp2_with fail
        go_region_held3 (fun W => W.cell? ⟨w.heap.size, 0, none⟩ = some (.slice A1 n c) ∧ W.cell? ⟨w.heap.size, 1, none⟩ = some (.slice B m d) ∧ W.cell? ⟨w.heap.size + 1, 0, none⟩ = some (.slice SA ns sc) ∧ W.cell? ⟨w.heap.size + 1, 1, none⟩ = some (.slice TA nt tc) ∧ W.cell? ⟨w.heap.size + 1, 2, none⟩ = some (.slice PA np pc) ∧ W.cell? ⟨g4, 0, none⟩ = some (.int .i64 z)) (exact HSX.out _ (by (repeat (first | exact Kept.refl _ _ | assumption | refine Kept.drewN ?_ _ | refine Kept.drew ?_ | refine Kept.alloc ?_ _)))) (first
          | (go_at_call 26; refine (HREP.out _ ns hs1 hs12' _ _ (by (repeat (first | exact cell0_at (by first | rfl | (simp; done)) | refine cell_drew ?_ | refine cell_drewN ?_)))).mono ?_; rintro e w5 ⟨v5, rfl, o5, k5⟩; rw [List.length_replicate] at o5; obtain ⟨A5, c5, rfl⟩ := own_len o5; have hk5 : Kept [] w4 w5 := Kept.trans (by (repeat (first | exact Kept.refl _ _ | assumption | refine Kept.drewN ?_ _ | refine Kept.drew ?_ | refine Kept.alloc ?_ _))) k5)
          | (go_at_call 27; refine (HTC.out _ (by (repeat (first | exact Kept.refl _ _ | assumption | refine Kept.drewN ?_ _ | refine Kept.drew ?_ | refine Kept.alloc ?_ _))) _ _ (ownsRow_keep (S := []) o5 (by (repeat (first | exact Kept.refl _ _ | assumption | refine Kept.drewN ?_ _ | refine Kept.drew ?_ | refine Kept.alloc ?_ _))) (by simp))).mono ?_; rintro e w6 ⟨rfl, k6⟩; have hk6 : Kept [] w4 w6 := Kept.trans (by (repeat (first | exact Kept.refl _ _ | assumption | refine Kept.drewN ?_ _ | refine Kept.drew ?_ | refine Kept.alloc ?_ _))) k6))
        all_goals
          have HK6 : Hid (Kept [] w4 w6) := hk6
          clear hk6
          go_wp2_with fail
          go_ret
          exact ⟨rfl, HK0.out.trans (HK4'.out.trans HK6.out)⟩
    · have hz' : (ec != 0) = true := by rw [bne_iff_ne]; exact hz
      go_wp2_with fail
      refine (begun_any _).mono ?_
      rintro e w4 ⟨rfl, hk3⟩
      have HK3 := Lib.hid (HK2.out.trans hk3)
      clear hk3
      go_wp2_with fail
      go_ret
      exact ⟨rfl, HK3.out⟩

theorem costOne_any (w : World) (A : Option Addr) (n cap : Nat) (P : List Int) (wP : (Rk.slice (Rk.int .i64)).K w P [.slice A n cap]) (v : Array Value) (x : PlanD) (wx : planR.K w x v.toList) (bx : planW x + 1 ≤ 1048576) (u : Array Value) (r : RatesD) (wr : ratesR.K w r u.toList) (k : Int) (wk : (Lit.int .u8 k).wf = true) :
    Calls Try.prog 6 #[.slice A n cap, .agg v, .agg u, .int .u8 k] w fun e w' => e = .returned (.bool true) ∧ Below w.heap.size w w' := by
  obtain ⟨ov, fv, rfl, ho, hf⟩ := plan_reads4 wx
  obtain ⟨sv, tv, pv, rfl, hs, ht, hp⟩ := rates_reads4 wr
  have h1 : 0 ≤ k ∧ k ≤ 255 := by
    have h : (decide (_ ≤ k) && decide (k ≤ _)) = true := wk
    rw [Bool.and_eq_true, decide_eq_true_eq, decide_eq_true_eq] at h
    exact ⟨h.1, h.2⟩
  obtain ⟨q, rfl⟩ := Int.eq_ofNat_of_zero_le h1.1
  exact (one_any _ ov fv sv tv pv P x r q w (RdI.of_rk wP) ho hf (planW_le bx) hs.ints ht.ints hp.ints (by omega)).mono fun e w' h => ⟨h.1, h.2.below⟩

end Go.Proofs.Ytiiiflckphgdiaa
