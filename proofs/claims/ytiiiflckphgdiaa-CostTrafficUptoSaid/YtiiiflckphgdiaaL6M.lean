/- What goes over all ways, and an operator's part of it: the walk of CostTraffic. -/
import Derived.Test.YtiiiflckphgdiaaMM
import Derived.Test.YtiiiflckphgdiaaBK
set_option linter.unusedVariables false
set_option linter.unusedSimpArgs false
set_option linter.unnecessarySimpa false
namespace Go.Proofs.Ytiiiflckphgdiaa
open Go.RowKit Go.Shelf Tr
attribute [local go_sem] Oper.semAt_some

theorem plan_reads6 {w : World} {v : Array Value} {x : PlanD} (h : planR.K w x v.toList) : ∃ ov fv, v = #[ov, fv] ∧ Rds opR w ov x.1 ∧ Rds intsR w fv x.2 := by
  obtain ⟨ov, fv, he, h1, h2⟩ := RdP.of_rk h
  simp at he
  exact ⟨ov, fv, he, h1, h2⟩
theorem rates_reads6 {w : World} {v : Array Value} {r : RatesD} (h : ratesR.K w r v.toList) : ∃ sv tv pv, v = #[sv, tv, pv] ∧ Rds (Rk.int .i64) w sv r.1 ∧ Rds (Rk.int .i64) w tv r.2.1 ∧ Rds (Rk.int .i64) w pv r.2.2 := by
  obtain ⟨c1, c2, he, h1, c3, c4, he2, h2, h3⟩ := h
  obtain ⟨sv, rfl, k1⟩ := intsR_cells h1
  obtain ⟨tv, rfl, k2⟩ := intsR_cells h2
  obtain ⟨pv, rfl, k3⟩ := intsR_cells h3
  subst he2
  refine ⟨sv, tv, pv, ?_, k1, k2, k3⟩
  rw [← Array.toArray_toList (xs := v), he]
  rfl
theorem ints_reads6 {w : World} {A : Option Addr} {n c : Nat} {l : List Int} (h : (Rk.slice (Rk.int .i64)).K w l [.slice A n c]) : Rds (Rk.int .i64) w (.slice A n c) l := by
  obtain ⟨v, he, hr⟩ := intsR_cells h
  simp only [List.cons.injEq, and_true] at he
  rw [he]
  exact hr
set_option maxRecDepth 100000 in
set_option maxHeartbeats 1000000 in
theorem traffic_nil (xo xf rs rt rp av sv : Value) (w : World) :
    Calls Try.prog 27 #[.pointer none, .agg #[xo, xf], .agg #[rs, rt, rp], av, sv] w fun e w' => e = .returned (.tuple #[.int .i64 0, .int .i64 2]) ∧ Kept [] w w' := by
  have HNM := Lib.hid (fun W : World => newmodel_nil (.agg #[xo, xf]) (.agg #[rs, rt, rp]) av sv xo xf rs rt rp W rfl rfl)
  have HK := Lib.hid (((Kept.refl [] w).alloc (.cells #[xo, xf] 30)).alloc (.cells #[rs, rt, rp] 32))
  go_enter Try.func27, Try.ntmps27
  go_wp2_with fail
  refine (HNM.out _).mono ?_
  rintro e w1 ⟨rfl, k1⟩
  have HK1 := Lib.hid (HK.out.trans k1)
  clear k1
  go_wp2_with fail
  go_ret2
  exact ⟨rfl, HK1.out⟩

set_option maxRecDepth 100000 in
set_option maxHeartbeats 4000000 in
theorem traffics_any (qv ov fv sv tv pv av zv : Value) (P : List Int) (x : PlanD) (r : RatesD) (A S : List Int) (op h : Int) (w : World) (hq : RdI w .i64 qv P) (ho : Rds opR w ov x.1) (hf : Rds intsR w fv x.2) (hF : fromLen x.2 ≤ 1048576)
    (hs : RdI w .i64 sv r.1) (ht : RdI w .i64 tv r.2.1) (hp : RdI w .i64 pv r.2.2) (har : Rds (Rk.int .i64) w av A) (hzr : Rds (Rk.int .i64) w zv S) (hh : (Lit.int .i64 h).wf = true) :
    Calls Try.prog 7 #[qv, .agg #[ov, fv], .agg #[sv, tv, pv], av, .int .i64 op, .int .i64 h, zv] w fun e w' => e = .returned (.bool true) ∧ Kept [] w w' := by
  have HNEW := Lib.hid (fun (W : World) (hk : Kept [] w W) => new_any qv P W (hq.keep hk))
  have HRNEW := Lib.hid (fun (W : World) (hk : Kept [] w W) => rnew_any qv P W (hq.keep hk))
  have HT1 := Lib.hid (fun (b : Nat) (W : World) (hk : Kept [] w W) (he : treeErr P = 0) (hta : TreeAt W b P) =>
    traffic_any b P ov fv sv tv pv av zv x r A S W hta (tree_of he) (ho.keep hk) (hf.keep hk) hF (hs.keep hk) (ht.keep hk) (hp.keep hk) (har.ints.keep hk) (har.keep hk) (hzr.ints.keep hk) (hzr.keep hk))
  have HP1 := Lib.hid (fun (b : Nat) (W : World) (hk : Kept [] w W) (he : treeErr P = 0) (hta : TreeAt W b P) =>
    part_any b P ov fv sv tv pv av zv x r A S op h W hta (tree_of he) (ho.keep hk) (hf.keep hk) hF (hs.keep hk) (ht.keep hk) (hp.keep hk) (har.ints.keep hk) (har.keep hk) (hzr.ints.keep hk) (hzr.keep hk) hh)
  have HT2 := Lib.hid (fun (b : Nat) (tvv : Value) (W : World) (hk : Kept [] w W) (he : treeErr P = 0) (hta : RT W b tvv P) =>
    rtraffic_any b tvv P ov fv sv tv pv av zv x r A S W hta (tree_of he) (ho.keep hk) (hf.keep hk) hF (hs.keep hk) (ht.keep hk) (hp.keep hk) (har.ints.keep hk) (hzr.ints.keep hk))
  have HP2 := Lib.hid (fun (b : Nat) (tvv : Value) (W : World) (hk : Kept [] w W) (he : treeErr P = 0) (hta : RT W b tvv P) =>
    rpart_any b tvv P ov fv sv tv pv av zv x r A S op h W hta (tree_of he) (ho.keep hk) (hf.keep hk) hF (hs.keep hk) (ht.keep hk) (hp.keep hk) (har.ints.keep hk) (hzr.ints.keep hk))
  obtain ⟨A1, c, rfl, hmA⟩ := ho.form
  obtain ⟨B, d, rfl, hmB⟩ := hf.form
  obtain ⟨SA, sc, rfl, hmS, -⟩ := hs
  obtain ⟨TA, tc, rfl, hmT, -⟩ := ht
  obtain ⟨PA, pc, rfl, hmP, -⟩ := hp
  obtain ⟨QA, qc, rfl, hmQ, -⟩ := hq
  obtain ⟨AA, ac, rfl, hmAA⟩ := har.form
  obtain ⟨ZA, zc, rfl, hmZ⟩ := hzr.form
  obtain ⟨et, het⟩ : ∃ et, treeErr P = et := ⟨_, rfl⟩
  obtain ⟨E, hE⟩ : ∃ E, modelE P.length x r A S = E := ⟨_, rfl⟩
  obtain ⟨F, hFE⟩ : ∃ F, partE P.length x r A S op h = F := ⟨_, rfl⟩
  obtain ⟨va, hva⟩ : ∃ va, trafV P x r A S = va := ⟨_, rfl⟩
  obtain ⟨vb, hvb⟩ : ∃ vb, partV P x r A S op h = vb := ⟨_, rfl⟩
  unfold NewPost at HNEW
  unfold RNewPost at HRNEW
  rw [het] at HNEW HRNEW HT1 HP1 HT2 HP2
  rw [hE, hva] at HT1 HT2
  rw [hFE, hvb] at HP1 HP2
  obtain ⟨n, hn⟩ : ∃ n, x.1.length = n := ⟨_, rfl⟩
  obtain ⟨m, hm⟩ : ∃ m, x.2.length = m := ⟨_, rfl⟩
  obtain ⟨ns, hns⟩ : ∃ ns, r.1.length = ns := ⟨_, rfl⟩
  obtain ⟨nt, hnt⟩ : ∃ nt, r.2.1.length = nt := ⟨_, rfl⟩
  obtain ⟨np, hnp⟩ : ∃ np, r.2.2.length = np := ⟨_, rfl⟩
  obtain ⟨nq, hnq⟩ : ∃ nq, P.length = nq := ⟨_, rfl⟩
  obtain ⟨la, hla⟩ : ∃ la, A.length = la := ⟨_, rfl⟩
  obtain ⟨ls, hls⟩ : ∃ ls, S.length = ls := ⟨_, rfl⟩
  rw [hn, hm] at HT1 HP1 HT2 HP2 ⊢
  simp only [hns, hnt, hnp] at HT1 HP1 HT2 HP2 ⊢
  rw [hnq] at HNEW HRNEW ⊢
  rw [hla, hls] at HT1 HP1 HT2 HP2 ⊢
  clear hn hm hns hnt hnp hnq hla hls het hE hFE hva hvb hF ho hf har hzr hh hmA hmB hmS hmT hmP hmQ hmAA hmZ
  have HK0 := Lib.hid (((Kept.refl [] w).alloc (.cells #[.slice A1 n c, .slice B m d] 30)).alloc (.cells #[.slice SA ns sc, .slice TA nt tc, .slice PA np pc] 32))
  have HB0 : Hid (Blk ((w.alloc (.cells #[.slice A1 n c, .slice B m d] 30)).alloc (.cells #[.slice SA ns sc, .slice TA nt tc, .slice PA np pc] 32)) w.heap.size #[.slice A1 n c, .slice B m d] 30) := (Blk.new w _ _).alloc _
  have HB1 : Hid (Blk ((w.alloc (.cells #[.slice A1 n c, .slice B m d] 30)).alloc (.cells #[.slice SA ns sc, .slice TA nt tc, .slice PA np pc] 32)) (w.heap.size + 1) #[.slice SA ns sc, .slice TA nt tc, .slice PA np pc] 32) := by
    have := Blk.new (w.alloc (.cells #[.slice A1 n c, .slice B m d] 30)) #[.slice SA ns sc, .slice TA nt tc, .slice PA np pc] 32
    rwa [show (w.alloc (.cells #[.slice A1 n c, .slice B m d] 30)).heap.size = w.heap.size + 1 by simp] at this
  go_enter Try.func7, Try.ntmps7
  go_wp2_with fail
  obtain ⟨w0, hw0⟩ : ∃ w0, (w.alloc (.cells #[.slice A1 n c, .slice B m d] 30)).alloc (.cells #[.slice SA ns sc, .slice TA nt tc, .slice PA np pc] 32) = w0 := ⟨_, rfl⟩
  rw [hw0] at HK0 HB0 HB1 ⊢
  clear hw0
  have HBX : Hid (∀ W, Kept [] w0 W → W.cell? ⟨w.heap.size, 0, none⟩ = some (.slice A1 n c) ∧ W.cell? ⟨w.heap.size, 1, none⟩ = some (.slice B m d) ∧ W.cell? ⟨w.heap.size + 1, 0, none⟩ = some (.slice SA ns sc) ∧ W.cell? ⟨w.heap.size + 1, 1, none⟩ = some (.slice TA nt tc) ∧ W.cell? ⟨w.heap.size + 1, 2, none⟩ = some (.slice PA np pc)) := fun W hW => ⟨((HB0.out.kept hW (by simp)).cell 0).trans rfl, ((HB0.out.kept hW (by simp)).cell 1).trans rfl, ((HB1.out.kept hW (by simp)).cell 0).trans rfl, ((HB1.out.kept hW (by simp)).cell 1).trans rfl, ((HB1.out.kept hW (by simp)).cell 2).trans rfl⟩
  refine (HNEW.out _ HK0.out).mono ?_
  rintro e w1 ⟨k1, h1⟩
  have HK1 := Lib.hid k1
  clear k1 HNEW
  rcases h1 with ⟨hE, rfl⟩ | ⟨rfl, rfl, htr⟩
  · have hE' : (et != 0) = true := by rw [bne_iff_ne]; exact hE
    go_wp2_with fail
    refine (HRNEW.out _ (HK0.out.trans HK1.out)).mono ?_
    rintro e w2 ⟨k2, h2⟩
    have HK2 := Lib.hid (HK1.out.trans k2)
    clear k2 HRNEW
    rcases h2 with ⟨_, rfl⟩ | ⟨h3, _⟩
    · go_wp2_with fail
      refine (begun_any _).mono ?_
      rintro e w3 ⟨rfl, hk3⟩
      have HK3 := Lib.hid (HK2.out.trans hk3)
      clear hk3
      go_wp2_with fail
      refine (begun_any _).mono ?_
      rintro e w4 ⟨rfl, hk4⟩
      have HK4 := Lib.hid (HK3.out.trans hk4)
      clear hk4
      go_wp2_with fail
      go_ret
      exact ⟨rfl, HK0.out.trans HK4.out⟩
    · exact absurd h3 hE
  · have HTA := Lib.hid htr
    clear htr
    go_wp2_with fail
    refine (HRNEW.out _ (HK0.out.trans HK1.out)).mono ?_
    rintro e w2 ⟨k2, h2⟩
    have HK2 := Lib.hid (HK1.out.trans k2)
    have HTA2 := Lib.hid (HTA.out.keep k2)
    clear k2 HRNEW
    rcases h2 with ⟨h3, _⟩ | ⟨_, rb, tvv, rfl, hrt⟩
    · exact absurd (by first | trivial | rfl) h3
    · have HRT2 := Lib.hid hrt
      clear hrt
      go_wp2_with fail
      refine (begun_any _).mono ?_
      rintro e w3 ⟨rfl, k3⟩
      have HK3 := Lib.hid (HK2.out.trans k3)
      have HTA3 := Lib.hid (HTA2.out.keep k3)
      have HRT3 := Lib.hid (HRT2.out.keep k3)
      clear k3
      obtain ⟨x0, x1, r0, r1, r2⟩ := HBX.out _ HK3.out
      go_wp2_with fail
      refine (HT1.out _ _ (HK0.out.trans HK3.out) (by first | trivial | rfl) HTA3.out).mono ?_
      rintro e w4 ⟨rfl, k4⟩
      have HK4 := Lib.hid (HK3.out.trans k4)
      have HTA4 := Lib.hid (HTA3.out.keep k4)
      have HRT4 := Lib.hid (HRT3.out.keep k4)
      clear k4
      clear x0 x1 r0 r1 r2
      obtain ⟨x0, x1, r0, r1, r2⟩ := HBX.out _ HK4.out
      go_wp2_with fail
      refine (HT2.out _ _ _ (HK0.out.trans HK4.out) (by first | trivial | rfl) HRT4.out).mono ?_
      rintro e w5 ⟨rfl, k5⟩
      have HK5 := Lib.hid (HK4.out.trans k5)
      have HTA5 := Lib.hid (HTA4.out.keep k5)
      have HRT5 := Lib.hid (HRT4.out.keep k5)
      clear k5
      clear x0 x1 r0 r1 r2
      obtain ⟨x0, x1, r0, r1, r2⟩ := HBX.out _ HK5.out
      go_wp2_with fail
      refine (HP1.out _ _ (HK0.out.trans HK5.out) (by first | trivial | rfl) HTA5.out).mono ?_
      rintro e w6 ⟨rfl, k6⟩
      have HK6 := Lib.hid (HK5.out.trans k6)
      have HRT6 := Lib.hid (HRT5.out.keep k6)
      clear k6
      clear x0 x1 r0 r1 r2
      obtain ⟨x0, x1, r0, r1, r2⟩ := HBX.out _ HK6.out
      go_wp2_with fail
      refine (HP2.out _ _ _ (HK0.out.trans HK6.out) (by first | trivial | rfl) HRT6.out).mono ?_
      rintro e w7 ⟨rfl, k7⟩
      have HK7 := Lib.hid (HK6.out.trans k7)
      clear k7
      clear x0 x1 r0 r1 r2
      obtain ⟨x0, x1, r0, r1, r2⟩ := HBX.out _ HK7.out
      go_wp2_with fail
      refine (traffic_nil _ _ _ _ _ _ _ _).mono ?_
      rintro e w8 ⟨rfl, k8⟩
      have HK8 := Lib.hid (HK7.out.trans k8)
      clear k8 x0 x1 r0 r1 r2
      go_wp2_with fail
      go_ret
      exact ⟨rfl, HK0.out.trans HK8.out⟩
theorem costTraffic_any (w : World) (A : Option Addr) (n cap : Nat) (P : List Int) (wP : (Rk.slice (Rk.int .i64)).K w P [.slice A n cap]) (v : Array Value) (x : PlanD) (wx : planR.K w x v.toList) (bx : planW x + 1 ≤ 1048576) (u : Array Value) (r : RatesD) (wr : ratesR.K w r u.toList)
    (B : Option Addr) (nB capB : Nat) (T : List Int) (wT : (Rk.slice (Rk.int .i64)).K w T [.slice B nB capB]) (op : Int) (wo : (Lit.int .i64 op).wf = true) (h : Int) (wh : (Lit.int .i64 h).wf = true) (D : Option Addr) (nD capD : Nat) (S : List Int) (wS : (Rk.slice (Rk.int .i64)).K w S [.slice D nD capD]) :
    Calls Try.prog 7 #[.slice A n cap, .agg v, .agg u, .slice B nB capB, .int .i64 op, .int .i64 h, .slice D nD capD] w fun e w' => e = .returned (.bool true) ∧ Below w.heap.size w w' := by
  obtain ⟨ov, fv, rfl, ho, hf⟩ := plan_reads6 wx
  obtain ⟨sv, tv, pv, rfl, hs, ht, hp⟩ := rates_reads6 wr
  exact (traffics_any _ ov fv sv tv pv _ _ P x r T S op h w (RdI.of_rk wP) ho hf (planW_le bx) hs.ints ht.ints hp.ints (ints_reads6 wT) (ints_reads6 wS) wh).mono fun e w' h => ⟨h.1, h.2.below⟩

end Go.Proofs.Ytiiiflckphgdiaa
