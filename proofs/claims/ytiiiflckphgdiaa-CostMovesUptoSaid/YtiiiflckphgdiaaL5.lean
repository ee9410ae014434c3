/- An operator that is moved changes the whole by as much as its own part: the walk of CostMoves. -/
import Derived.Test.YtiiiflckphgdiaaM11
import Derived.Test.YtiiiflckphgdiaaM9
import Derived.Test.YtiiiflckphgdiaaBK
set_option linter.unusedVariables false
set_option linter.unusedSimpArgs false
set_option linter.unnecessarySimpa false
namespace Go.Proofs.Ytiiiflckphgdiaa
open Go.RowKit Go.Shelf Tr
attribute [local go_sem] Oper.semAt_some

theorem plan_reads5 {w : World} {v : Array Value} {x : PlanD} (h : planR.K w x v.toList) : ∃ ov fv, v = #[ov, fv] ∧ Rds opR w ov x.1 ∧ Rds intsR w fv x.2 := by
  obtain ⟨ov, fv, he, h1, h2⟩ := RdP.of_rk h
  simp at he
  exact ⟨ov, fv, he, h1, h2⟩
theorem rates_reads5 {w : World} {v : Array Value} {r : RatesD} (h : ratesR.K w r v.toList) : ∃ sv tv pv, v = #[sv, tv, pv] ∧ Rds (Rk.int .i64) w sv r.1 ∧ Rds (Rk.int .i64) w tv r.2.1 ∧ Rds (Rk.int .i64) w pv r.2.2 := by
  obtain ⟨c1, c2, he, h1, c3, c4, he2, h2, h3⟩ := h
  obtain ⟨sv, rfl, k1⟩ := intsR_cells h1
  obtain ⟨tv, rfl, k2⟩ := intsR_cells h2
  obtain ⟨pv, rfl, k3⟩ := intsR_cells h3
  subst he2
  refine ⟨sv, tv, pv, ?_, k1, k2, k3⟩
  rw [← Array.toArray_toList (xs := v), he]
  rfl
/-- Numbers read in memory are int64s. -/
theorem wf_of {w : World} {v : Value} {l : List Int} (h : Rds (Rk.int .i64) w v l) : ∀ x ∈ l, (Lit.int .i64 x).wf = true := by
  intro x hx
  obtain ⟨i, hi⟩ := List.getElem?_of_mem hx
  obtain ⟨b, off, c, y, cs, he, hy, hE, hc⟩ := h.at (List.getElem?_eq_some_iff.1 hi).1
  rw [hi] at hy
  injection hy with hy
  subst hy
  exact hE.2

/-- What the law says of the numbers. -/
theorem moves_law {P : List Int} {x : PlanD} {r : RatesD} {A S : List Int} {op h : Int} (hE : modelE P.length x r A S = 0) (hF : partE P.length x r A S op h = 0) (hT : 1 ≤ P.length) :
    ∃ k : Nat, op = k ∧ k < x.1.length ∧ k < A.length ∧ partE P.length x r A S op (A.getD k 0) = 0 ∧ modelE P.length x r (A.set k h) S = 0 ∧
      (trafV P x r A S ≠ 9223372036854775807 → partV P x r A S op h ≠ 9223372036854775807 → partV P x r A S op (A.getD k 0) ≠ 9223372036854775807 → trafV P x r (A.set k h) S ≠ 9223372036854775807 →
        trafV P x r (A.set k h) S - trafV P x r A S = partV P x r A S op h - partV P x r A S op (A.getD k 0)) := by
  obtain ⟨hC, hA, hS, ha, hs⟩ := modelE_zero hE
  unfold partE at hF
  rw [if_pos hE] at hF
  have hF' : (decide (0 ≤ op) && decide (op < (x.1.length : Int)) && !outB P.length h) = true := by
    cases hq : (decide (0 ≤ op) && decide (op < (x.1.length : Int)) && !outB P.length h) with
    | true => rfl
    | false => rw [hq] at hF; simp at hF
  simp only [Bool.and_eq_true, decide_eq_true_eq, Bool.not_eq_true'] at hF'
  obtain ⟨⟨h0, h1⟩, h2⟩ := hF'
  obtain ⟨k, rfl⟩ := Int.eq_ofNat_of_zero_le h0
  have hk : k < x.1.length := by omega
  have hkA : k < A.length := by omega
  have hak : outB P.length (A.getD k 0) = false := by
    have := List.any_eq_false.1 ha (A.getD k 0) (by unfold List.getD; rw [List.getElem?_eq_getElem hkA]; exact List.getElem_mem hkA)
    simpa using this
  have hF1 : ∀ g, outB P.length g = false → partE P.length x r A S (k : Int) g = 0 := fun g hg => by
    unfold partE
    rw [if_pos hE, if_pos]
    rw [hg]
    simp
    omega
  have hE2 : modelE P.length x r (A.set k h) S = 0 := by
    unfold modelE placeE
    rw [if_pos hC, if_pos]
    have : (A.set k h).any (outB P.length) = false := by
      rw [List.any_eq_false]
      intro y hy
      rcases List.mem_or_eq_of_mem_set hy with hy | rfl
      · exact List.any_eq_false.1 ha y hy
      · rw [h2]; simp
    rw [this, hs]
    simp [hA, hS]
  refine ⟨k, rfl, hk, hkA, hF1 _ hak, hE2, fun t1 t2 t3 t4 => ?_⟩
  unfold trafV partV at *
  rw [if_pos hE] at t1 ⊢
  rw [if_pos (hF1 _ h2)] at t2 ⊢
  rw [if_pos (hF1 _ hak)] at t3 ⊢
  rw [if_pos hE2] at t4 ⊢
  rw [Int.toNat_natCast] at t2 t3 ⊢
  have n1 : ∀ B, ∀ y ∈ trafL P x r (outV x r) B S x.1.length, 0 ≤ y := fun B y hy => by
    unfold trafL at hy
    obtain ⟨o, _, hy⟩ := List.mem_flatMap.1 hy
    exact inV_nn _ _ _ _ _ _ _ _ y hy
  have n2 : ∀ g, ∀ y ∈ partL P x r (outV x r) A S k g, 0 ≤ y := fun g y hy => by
    unfold partL at hy
    rcases List.mem_append.1 hy with hy | hy
    · exact inV_nn _ _ _ _ _ _ _ _ y hy
    · obtain ⟨u, _, rfl⟩ := List.mem_map.1 hy
      exact wayV_nn _ _ _ _
  rw [addV_sm (n1 _) t1, addV_sm (n2 _) t2, addV_sm (n2 _) t3, addV_sm (n1 _) t4]
  exact moves_sm hC hA hk

set_option maxRecDepth 100000 in
set_option maxHeartbeats 4000000 in
theorem moves_any (qv ov fv sv tv pv av zv : Value) (P : List Int) (x : PlanD) (r : RatesD) (A S : List Int) (op h : Int) (w : World) (hq : RdI w .i64 qv P) (ho : Rds opR w ov x.1) (hf : Rds intsR w fv x.2) (hF : fromLen x.2 ≤ 1048576)
    (hs : RdI w .i64 sv r.1) (ht : RdI w .i64 tv r.2.1) (hp : RdI w .i64 pv r.2.2) (har : Rds (Rk.int .i64) w av A) (hzr : Rds (Rk.int .i64) w zv S) (hh : (Lit.int .i64 h).wf = true) :
    Calls Try.prog 8 #[qv, .agg #[ov, fv], .agg #[sv, tv, pv], av, .int .i64 op, .int .i64 h, zv] w fun e w' => e = .returned (.bool true) ∧ Kept [] w w' := by
  have HNEW := Lib.hid (fun (W : World) (hk : Kept [] w W) => new_any qv P W (hq.keep hk))
  have HTR : Hid (∀ (b : Nat) (W : World) (v : Value) (A' : List Int), Kept [] w W → treeErr P = 0 → TreeAt W b P → RdI W .i64 v A' → Rds (Rk.int .i64) W v A' →
      Calls Try.prog 27 #[.pointer (some ⟨b, 0, none⟩), .agg #[ov, fv], .agg #[sv, tv, pv], v, zv] W fun e w' => e = .returned (.tuple #[.int .i64 (trafV P x r A' S), .int .i64 (modelE P.length x r A' S)]) ∧ Kept [] W w') := fun b W v A' hk he hta h1 h2 =>
    traffic_any b P ov fv sv tv pv v zv x r A' S W hta (tree_of he) (ho.keep hk) (hf.keep hk) hF (hs.keep hk) (ht.keep hk) (hp.keep hk) h1 h2 (hzr.ints.keep hk) (hzr.keep hk)
  have HPT : Hid (∀ (b : Nat) (W : World) (g : Int), Kept [] w W → treeErr P = 0 → TreeAt W b P → (Lit.int .i64 g).wf = true →
      Calls Try.prog 30 #[.pointer (some ⟨b, 0, none⟩), .agg #[ov, fv], .agg #[sv, tv, pv], av, .int .i64 op, .int .i64 g, zv] W fun e w' => e = .returned (.tuple #[.int .i64 (partV P x r A S op g), .int .i64 (partE P.length x r A S op g)]) ∧ Kept [] W w') := fun b W g hk he hta hg =>
    part_any b P ov fv sv tv pv av zv x r A S op g W hta (tree_of he) (ho.keep hk) (hf.keep hk) hF (hs.keep hk) (ht.keep hk) (hp.keep hk) (har.ints.keep hk) (har.keep hk) (hzr.ints.keep hk) (hzr.keep hk) hg
  have HCL := Lib.hid (fun (W : World) (hk : Kept [] w W) => clonei_any av A W (har.ints.keep hk))
  have HPL : Hid (treeErr P = 0 → 1 ≤ P.length) := fun h => (tree_of h).pos
  have HLAW := Lib.hid (@moves_law P x r A S op h)
  have HWF := Lib.hid (wf_of har)
  have HAR := Lib.hid har
  have HAI := Lib.hid har.ints
  have HWH := Lib.hid hh
  have HA32 : Hid (modelE P.length x r A S = 0 → A.length ≤ 32) := fun h => by
    obtain ⟨e1, e2, -, -, -⟩ := modelE_zero h
    have := (plan_place (checkE_zero e1).1).2.1
    omega
  have HTB : Hid (∀ B, 0 ≤ trafV P x r B S ∧ trafV P x r B S ≤ 9223372036854775807) := fun B => by
    unfold trafV; split
    · exact addGo_bd _ 0 (by omega) (by omega)
    · omega
  have HPB : Hid (∀ g, 0 ≤ partV P x r A S op g ∧ partV P x r A S op g ≤ 9223372036854775807) := fun g => by
    unfold partV; split
    · exact addGo_bd _ 0 (by omega) (by omega)
    · omega
  obtain ⟨A1, c, rfl, hmA⟩ := ho.form
  obtain ⟨B, d, rfl, hmB⟩ := hf.form
  obtain ⟨SA, sc, rfl, hmS, -⟩ := hs
  obtain ⟨TA, tc, rfl, hmT, -⟩ := ht
  obtain ⟨PA, pc, rfl, hmP, -⟩ := hp
  obtain ⟨QA, qc, rfl, hmQ, -⟩ := hq
  obtain ⟨AA, ac, rfl, hmAA⟩ := har.form
  obtain ⟨ZA, zc, rfl, hmZ⟩ := hzr.form
  obtain ⟨et, het⟩ : ∃ et, treeErr P = et := ⟨_, rfl⟩
  obtain ⟨E, hE⟩ : ∃ E, modelE P.length x r A S = E := ⟨_, rfl⟩
  obtain ⟨F, hFE⟩ : ∃ F, partE P.length x r A S op h = F := ⟨_, rfl⟩
  obtain ⟨va, hva⟩ : ∃ va, trafV P x r A S = va := ⟨_, rfl⟩
  obtain ⟨vb, hvb⟩ : ∃ vb, partV P x r A S op h = vb := ⟨_, rfl⟩
  have HT1 : Hid (∀ (b : Nat) (W : World), Kept [] w W → et = 0 → TreeAt W b P → Calls Try.prog 27 #[.pointer (some ⟨b, 0, none⟩), .agg #[.slice A1 x.1.length c, .slice B x.2.length d], .agg #[.slice SA r.1.length sc, .slice TA r.2.1.length tc, .slice PA r.2.2.length pc], .slice AA A.length ac, .slice ZA S.length zc] W fun e w' => e = .returned (.tuple #[.int .i64 va, .int .i64 E]) ∧ Kept [] W w') := fun b W hk he hta => by
    have := HTR.out b W _ A hk (het.trans he) hta (HAI.out.keep hk) (HAR.out.keep hk)
    rwa [hva, hE] at this
  have HP1 : Hid (∀ (b : Nat) (W : World), Kept [] w W → et = 0 → TreeAt W b P → Calls Try.prog 30 #[.pointer (some ⟨b, 0, none⟩), .agg #[.slice A1 x.1.length c, .slice B x.2.length d], .agg #[.slice SA r.1.length sc, .slice TA r.2.1.length tc, .slice PA r.2.2.length pc], .slice AA A.length ac, .int .i64 op, .int .i64 h, .slice ZA S.length zc] W fun e w' => e = .returned (.tuple #[.int .i64 vb, .int .i64 F]) ∧ Kept [] W w') := fun b W hk he hta => by
    have := HPT.out b W h hk (het.trans he) hta HWH.out
    rwa [hvb, hFE] at this
  unfold NewPost at HNEW
  rw [het] at HNEW HTR HPT HPL
  rw [hE] at HLAW HA32
  rw [hFE, hva, hvb] at HLAW
  have hba := HTB.out A
  have hbb := HPB.out h
  rw [hva] at hba
  rw [hvb] at hbb
  obtain ⟨n, hn⟩ : ∃ n, x.1.length = n := ⟨_, rfl⟩
  obtain ⟨m, hm⟩ : ∃ m, x.2.length = m := ⟨_, rfl⟩
  obtain ⟨ns, hns⟩ : ∃ ns, r.1.length = ns := ⟨_, rfl⟩
  obtain ⟨nt, hnt⟩ : ∃ nt, r.2.1.length = nt := ⟨_, rfl⟩
  obtain ⟨np, hnp⟩ : ∃ np, r.2.2.length = np := ⟨_, rfl⟩
  obtain ⟨nq, hnq⟩ : ∃ nq, P.length = nq := ⟨_, rfl⟩
  obtain ⟨la, hla⟩ : ∃ la, A.length = la := ⟨_, rfl⟩
  obtain ⟨ls, hls⟩ : ∃ ls, S.length = ls := ⟨_, rfl⟩
  rw [hn] at HTR HPT HT1 HP1 HLAW ⊢
  rw [hm] at HTR HPT HT1 HP1 ⊢
  simp only [hns] at HTR HPT HT1 HP1 ⊢
  simp only [hnt] at HTR HPT HT1 HP1 ⊢
  simp only [hnp] at HTR HPT HT1 HP1 ⊢
  rw [hnq] at HNEW HPL ⊢
  rw [hla] at HPT HT1 HP1 HCL HLAW HAI HA32 ⊢
  rw [hls] at HTR HPT HT1 HP1 ⊢
  have HLA := Lib.hid hla
  have HNQ := Lib.hid hnq
  clear hn hm hns hnt hnp hnq hla hls het hE hFE hva hvb hF ho hf har hzr hh hmA hmB hmS hmT hmP hmQ hmAA hmZ
  have HK0 := Lib.hid (((Kept.refl [] w).alloc (.cells #[.slice A1 n c, .slice B m d] 30)).alloc (.cells #[.slice SA ns sc, .slice TA nt tc, .slice PA np pc] 32))
  have HB0 : Hid (Blk ((w.alloc (.cells #[.slice A1 n c, .slice B m d] 30)).alloc (.cells #[.slice SA ns sc, .slice TA nt tc, .slice PA np pc] 32)) w.heap.size #[.slice A1 n c, .slice B m d] 30) := (Blk.new w _ _).alloc _
  have HB1 : Hid (Blk ((w.alloc (.cells #[.slice A1 n c, .slice B m d] 30)).alloc (.cells #[.slice SA ns sc, .slice TA nt tc, .slice PA np pc] 32)) (w.heap.size + 1) #[.slice SA ns sc, .slice TA nt tc, .slice PA np pc] 32) := by
    have := Blk.new (w.alloc (.cells #[.slice A1 n c, .slice B m d] 30)) #[.slice SA ns sc, .slice TA nt tc, .slice PA np pc] 32
    rwa [show (w.alloc (.cells #[.slice A1 n c, .slice B m d] 30)).heap.size = w.heap.size + 1 by simp] at this
  go_enter Try.func8, Try.ntmps8
  go_wp2_with fail
  obtain ⟨w0, hw0⟩ : ∃ w0, (w.alloc (.cells #[.slice A1 n c, .slice B m d] 30)).alloc (.cells #[.slice SA ns sc, .slice TA nt tc, .slice PA np pc] 32) = w0 := ⟨_, rfl⟩
  rw [hw0] at HK0 HB0 HB1 ⊢
  clear hw0
  have HBX : Hid (∀ W, Kept [] w0 W → W.cell? ⟨w.heap.size, 0, none⟩ = some (.slice A1 n c) ∧ W.cell? ⟨w.heap.size, 1, none⟩ = some (.slice B m d) ∧ W.cell? ⟨w.heap.size + 1, 0, none⟩ = some (.slice SA ns sc) ∧ W.cell? ⟨w.heap.size + 1, 1, none⟩ = some (.slice TA nt tc) ∧ W.cell? ⟨w.heap.size + 1, 2, none⟩ = some (.slice PA np pc)) := fun W hW => ⟨((HB0.out.kept hW (by simp)).cell 0).trans rfl, ((HB0.out.kept hW (by simp)).cell 1).trans rfl, ((HB1.out.kept hW (by simp)).cell 0).trans rfl, ((HB1.out.kept hW (by simp)).cell 1).trans rfl, ((HB1.out.kept hW (by simp)).cell 2).trans rfl⟩
  refine (HNEW.out _ HK0.out).mono ?_
  rintro e w1 ⟨k1, h1⟩
  have HK1 := Lib.hid k1
  clear k1 HNEW
  rcases h1 with ⟨hE, rfl⟩ | ⟨rfl, rfl, htr⟩
  · have hE' : (et != 0) = true := by rw [bne_iff_ne]; exact hE
    go_wp2_with fail
    refine (begun_any _).mono ?_
    rintro e w2 ⟨rfl, hk2⟩
    have HK2 := Lib.hid (HK1.out.trans hk2)
    clear hk2
    go_wp2_with fail
    refine (begun_any _).mono ?_
    rintro e w9 ⟨rfl, hk9⟩
    have HK9 := Lib.hid (HK2.out.trans hk9)
    clear hk9
    go_wp2_with fail
    go_ret
    exact ⟨rfl, HK0.out.trans HK9.out⟩
  · have hq1 := HPL.out rfl
    go_wp2_with fail
    refine (begun_any _).mono ?_
    rintro e w2 ⟨rfl, hk2⟩
    have HK2 := Lib.hid (HK1.out.trans hk2)
    have HTA2 := Lib.hid (htr.keep hk2)
    clear hk2 htr
    obtain ⟨x0, x1, r0, r1, r2⟩ := HBX.out _ HK2.out
    go_wp2_with fail
    refine (HT1.out _ _ (HK0.out.trans HK2.out) (by first | trivial | rfl) HTA2.out).mono ?_
    rintro e w3 ⟨rfl, hk3⟩
    have HK3 := Lib.hid (HK2.out.trans hk3)
    have HTA3 := Lib.hid (HTA2.out.keep hk3)
    clear hk3
    clear x0 x1 r0 r1 r2
    obtain ⟨x0, x1, r0, r1, r2⟩ := HBX.out _ HK3.out
    go_wp2_with fail
    refine (HP1.out _ _ (HK0.out.trans HK3.out) (by first | trivial | rfl) HTA3.out).mono ?_
    rintro e w4 ⟨rfl, hk4⟩
    have HK8 := Lib.hid (HK3.out.trans hk4)
    have HTA4 := Lib.hid (HTA3.out.keep hk4)
    clear hk4
    clear x0 x1 r0 r1 r2
    obtain ⟨x0, x1, r0, r1, r2⟩ := HBX.out _ HK8.out
    by_cases hE0 : E = 0
    · subst hE0
      by_cases hF0 : F = 0
      · subst hF0
        obtain ⟨k, rfl, hkn, hkA, hE2, hE3, hlaw⟩ := HLAW.out rfl rfl (by rw [HNQ.out]; exact hq1)
        have hA32 := HA32.out rfl
        obtain ⟨ba, oa, ca, a, he, hya, hca0⟩ := RdI.at HAI.out (i := k) (by rw [HLA.out]; exact hkA)
        injection he with he1 he5 he3
        subst he1 he3
        have hga : A.getD k 0 = a := by unfold List.getD; rw [hya]; rfl
        rw [hga] at hE2 hlaw
        have hwa := HWF.out a (List.mem_of_getElem? hya)
        have hbc := HPB.out a
        have hbd := HTB.out (A.set k h)
        have hSL : (A.set k h).length = la := by rw [List.length_set]; exact HLA.out
        obtain ⟨vc, hvc⟩ : ∃ vc, partV P x r A S (k : Int) a = vc := ⟨_, rfl⟩
        obtain ⟨vd, hvd⟩ : ∃ vd, trafV P x r (A.set k h) S = vd := ⟨_, rfl⟩
        have HP2 : Hid (∀ (W : World), Kept [] w4 W → Calls Try.prog 30 #[.pointer (some ⟨w0.heap.size, 0, none⟩), .agg #[.slice A1 n c, .slice B m d], .agg #[.slice SA ns sc, .slice TA nt tc, .slice PA np pc], .slice (some ⟨ba, oa, none⟩) la ac, .int .i64 k, .int .i64 a, .slice ZA ls zc] W fun e w' => e = .returned (.tuple #[.int .i64 vc, .int .i64 0]) ∧ Kept [] W w') := fun W hk => by
          have := HPT.out w0.heap.size W a (HK0.out.trans (HK8.out.trans hk)) (by first | trivial | rfl) (HTA4.out.keep hk) hwa
          rwa [hvc, hE2] at this
        have HT2 : Hid (∀ (W : World) (v : Value), Kept [] w4 W → RdI W .i64 v (A.set k h) → Rds (Rk.int .i64) W v (A.set k h) → Calls Try.prog 27 #[.pointer (some ⟨w0.heap.size, 0, none⟩), .agg #[.slice A1 n c, .slice B m d], .agg #[.slice SA ns sc, .slice TA nt tc, .slice PA np pc], v, .slice ZA ls zc] W fun e w' => e = .returned (.tuple #[.int .i64 vd, .int .i64 0]) ∧ Kept [] W w') := fun W v hk h1 h2 => by
          have := HTR.out w0.heap.size W v _ (HK0.out.trans (HK8.out.trans hk)) (by first | trivial | rfl) (HTA4.out.keep hk) h1 h2
          rwa [hvd, hE3] at this
        rw [hvc, hvd] at hlaw
        rw [hvc] at hbc
        rw [hvd] at hbd
        have HLW := Lib.hid hlaw
        have HSL := Lib.hid hSL
        have HWS : Hid (∀ y ∈ A.set k h, (Lit.int .i64 y).wf = true) := fun y hy => by
          rcases List.mem_or_eq_of_mem_set hy with hy | rfl
          · exact HWF.out y hy
          · exact HWH.out
        have hca4 := (HK0.out.trans HK8.out).cell (by simp) hca0
        have HSX : Hid (∀ W, Kept [] w4 W → W.cell? ⟨w.heap.size, 0, none⟩ = some (.slice A1 n c) ∧ W.cell? ⟨w.heap.size, 1, none⟩ = some (.slice B m d) ∧ W.cell? ⟨w.heap.size + 1, 0, none⟩ = some (.slice SA ns sc) ∧ W.cell? ⟨w.heap.size + 1, 1, none⟩ = some (.slice TA nt tc) ∧ W.cell? ⟨w.heap.size + 1, 2, none⟩ = some (.slice PA np pc) ∧ W.cell? ⟨ba, oa + k, none⟩ = some (.int .i64 a)) := fun W hW => by
          obtain ⟨x0, x1, r0, r1, r2⟩ := HBX.out _ (HK8.out.trans hW)
          exact ⟨x0, x1, r0, r1, r2, hW.cell (by simp) hca4⟩
        have hk0' : (0 : Int) ≤ (k : Int) := by omega
        have hkl' : (k : Int) < (la : Int) := by omega
        have hla1 : 0 < la := by omega
        have hbig : la * 8 ≤ 140737488351232 := by omega
        clear hE2 hE3 hlaw hvc hvd hSL hga hwa hya he5 hca0 hca4 x0 x1 r0 r1 r2 HP1 HT1 HPT HTR HLAW
        go_wp2_with fail
        go_region_held3 (fun W => W.cell? ⟨w.heap.size, 0, none⟩ = some (.slice A1 n c) ∧ W.cell? ⟨w.heap.size, 1, none⟩ = some (.slice B m d) ∧ W.cell? ⟨w.heap.size + 1, 0, none⟩ = some (.slice SA ns sc) ∧ W.cell? ⟨w.heap.size + 1, 1, none⟩ = some (.slice TA nt tc) ∧ W.cell? ⟨w.heap.size + 1, 2, none⟩ = some (.slice PA np pc) ∧ W.cell? ⟨ba, oa + k, none⟩ = some (.int .i64 a)) (exact HSX.out _ (by (repeat (first | exact Kept.refl _ _ | assumption | refine Kept.drewN ?_ _ | refine Kept.drew ?_ | refine Kept.alloc ?_ _)))) (first
          | (go_at_call 30; refine (HP2.out _ (by (repeat (first | exact Kept.refl _ _ | assumption | refine Kept.drewN ?_ _ | refine Kept.drew ?_ | refine Kept.alloc ?_ _)))).mono ?_; rintro e w6 ⟨rfl, k6⟩; have hk6 : Kept [] w4 w6 := Kept.trans (by (repeat (first | exact Kept.refl _ _ | assumption | refine Kept.drewN ?_ _ | refine Kept.drew ?_ | refine Kept.alloc ?_ _))) k6))
        all_goals
          have HK6 : Hid (Kept [] w4 w6) := hk6
          clear hk6 k6
          go_wp2_with fail
          refine (HCL.out _ (HK0.out.trans (HK8.out.trans HK6.out)) hbig).mono ?_
          rintro e w7 ⟨v7, rfl, o7, k7⟩
          rw [HLA.out] at o7
          obtain ⟨g7, c7, rfl, hc71, hc72⟩ := own_some o7 hla1
          have f7 := o7.frozenAt k
          obtain ⟨u7, hu7⟩ : ∃ u7, A[k]? = some u7 := ⟨_, List.getElem?_eq_getElem (by rw [HLA.out]; exact hkA)⟩
          have e7 : w7.cell? ⟨g7, k, none⟩ = some (.int .i64 u7) := by rw [o7.cellAt k (by omega), List.getElem?_map, hu7]; rfl
          clear hu7
          have HO8 := Lib.hid ((o7.stored k (.int .i64 h)).1)
          have HK7 := Lib.hid (HK6.out.trans k7)
          have hlt7 := (o7.lt g7 rfl).2
          have hge7 := (o7.lt g7 rfl).1
          have HK78 : Hid (Kept [] w4 (w7.setCell ⟨g7, k, none⟩ (.int .i64 h))) := HK7.out.setCell (.inr (by have := HK6.out.size; show _ ≤ g7; omega)) _
          clear o7 k7
          have HOS : Hid ((w7.setCell ⟨g7, k, none⟩ (.int .i64 h)).ownsRow w6.heap.size 3 1 (.slice (some ⟨g7, 0, none⟩) la c7) la ((A.set k h).map (.int .i64))) := by
            show World.ownsRow _ _ _ _ _ _ _
            rw [List.map_set]
            exact HO8.out
          have HR8 := Lib.hid (RdI.of_own HOS.out).1
          have HRD8 := Lib.hid (rds_own HOS.out HSL.out.symm HWS.out)
          obtain ⟨z0, z1, z2, z3, z4, -⟩ := HSX.out _ HK7.out
          have hlt0 := HB0.out.lt
          have hlt1 := HB1.out.lt
          have hs04 := (HK8.out.trans HK6.out).size
          have hne1 : ¬ g7 = w.heap.size := by omega
          have hne2 : ¬ g7 = w.heap.size + 1 := by omega
          have hne3 : ¬ w.heap.size = g7 := by omega
          have hne4 : ¬ w.heap.size + 1 = g7 := by omega
          go_wp2_with fail
          refine (HT2.out _ _ HK78.out HR8.out HRD8.out).mono ?_
          rintro e w9 ⟨rfl, k9⟩
          have HK9 : Hid (Kept [] w w9) := (HK0.out.trans HK8.out).trans (HK78.out.trans k9)
          clear k9 z0 z1 z2 z3 z4
          by_cases ta : va = 9223372036854775807
          · have ta' : (va == 9223372036854775807) = true := by rw [beq_iff_eq]; exact ta
            go_wp2_with fail
            go_ret
            exact ⟨rfl, HK9.out⟩
          · have ta' : (va == 9223372036854775807) = false := by rw [beq_eq_false_iff_ne]; exact ta
            by_cases tb : vb = 9223372036854775807
            · have tb' : (vb == 9223372036854775807) = true := by rw [beq_iff_eq]; exact tb
              go_wp2_with fail
              go_ret
              exact ⟨rfl, HK9.out⟩
            · have tb' : (vb == 9223372036854775807) = false := by rw [beq_eq_false_iff_ne]; exact tb
              by_cases tc' : vc = 9223372036854775807
              · have tc'' : (vc == 9223372036854775807) = true := by rw [beq_iff_eq]; exact tc'
                go_wp2_with fail
                go_ret
                exact ⟨rfl, HK9.out⟩
              · have tc'' : (vc == 9223372036854775807) = false := by rw [beq_eq_false_iff_ne]; exact tc'
                by_cases td : vd = 9223372036854775807
                · have td' : (vd == 9223372036854775807) = true := by rw [beq_iff_eq]; exact td
                  go_wp2_with fail
                  go_ret
                  exact ⟨rfl, HK9.out⟩
                · have td' : (vd == 9223372036854775807) = false := by rw [beq_eq_false_iff_ne]; exact td
                  have HD := Lib.hid (HLW.out ta tb tc' td)
                  clear ta tb tc' td
                  go_wp2_with fail
                  go_ret
                  refine ⟨?_, HK9.out⟩
                  rw [HD.out]
                  simp
      · have hF' : (F != 0) = true := by rw [bne_iff_ne]; exact hF0
        go_wp2_with fail
        go_ret
        exact ⟨rfl, HK0.out.trans HK8.out⟩
    · have hE' : (E != 0) = true := by rw [bne_iff_ne]; exact hE0
      go_wp2_with fail
      go_ret
      exact ⟨rfl, HK0.out.trans HK8.out⟩

theorem ints_reads {w : World} {A : Option Addr} {n c : Nat} {l : List Int} (h : (Rk.slice (Rk.int .i64)).K w l [.slice A n c]) : Rds (Rk.int .i64) w (.slice A n c) l := by
  obtain ⟨v, he, hr⟩ := intsR_cells h
  simp only [List.cons.injEq, and_true] at he
  rw [he]
  exact hr
theorem costMoves_any (w : World) (A : Option Addr) (n cap : Nat) (P : List Int) (wP : (Rk.slice (Rk.int .i64)).K w P [.slice A n cap]) (v : Array Value) (x : PlanD) (wx : planR.K w x v.toList) (bx : planW x + 1 ≤ 1048576) (u : Array Value) (r : RatesD) (wr : ratesR.K w r u.toList)
    (B : Option Addr) (nB capB : Nat) (T : List Int) (wT : (Rk.slice (Rk.int .i64)).K w T [.slice B nB capB]) (op : Int) (wo : (Lit.int .i64 op).wf = true) (h : Int) (wh : (Lit.int .i64 h).wf = true) (D : Option Addr) (nD capD : Nat) (S : List Int) (wS : (Rk.slice (Rk.int .i64)).K w S [.slice D nD capD]) :
    Calls Try.prog 8 #[.slice A n cap, .agg v, .agg u, .slice B nB capB, .int .i64 op, .int .i64 h, .slice D nD capD] w fun e w' => e = .returned (.bool true) ∧ Below w.heap.size w w' := by
  obtain ⟨ov, fv, rfl, ho, hf⟩ := plan_reads5 wx
  obtain ⟨sv, tv, pv, rfl, hs, ht, hp⟩ := rates_reads5 wr
  exact (moves_any _ ov fv sv tv pv _ _ P x r T S op h w (RdI.of_rk wP) ho hf (planW_le bx) hs.ints ht.ints hp.ints (ints_reads wT) (ints_reads wS) wh).mono fun e w' h => ⟨h.1, h.2.below⟩

end Go.Proofs.Ytiiiflckphgdiaa
