/- What an operator costs, if it stands at a broker: the program's Part. -/
import Derived.Test.YtiiiflckphgdiaaM8
set_option linter.unusedVariables false
set_option linter.unusedSimpArgs false
set_option linter.unnecessarySimpa false
namespace Go.Proofs.Ytiiiflckphgdiaa
open Go.RowKit Go.Shelf Tr
attribute [local go_sem] Oper.semAt_some

def partL (P : List Int) (x : PlanD) (r : RatesD) (O A S : List Int) (k : Nat) (h : Int) : List Int :=
  inV P x r O A S k h ++ (usesGo k 0 x.2).map (fun u => wayV P (O.getD k 0) h (A.getD u.1 0))
def partE (np : Nat) (x : PlanD) (r : RatesD) (A S : List Int) (op h : Int) : Int :=
  if modelE np x r A S = 0 then (if (decide (0 ≤ op) && decide (op < (x.1.length : Int))) && !outB np h then 0 else 1) else modelE np x r A S
def partV (P : List Int) (x : PlanD) (r : RatesD) (A S : List Int) (op h : Int) : Int :=
  if partE P.length x r A S op h = 0 then addV (partL P x r (outV x r) A S op.toNat h) else 0

theorem usesRow_fst (k : Nat) (i : Int) : ∀ (l : List Int) (j : Nat), ∀ u ∈ usesRow k i j l, u.1 = k
  | [], j, u, h => by simp [usesRow] at h
  | f :: l, j, u, h => by
    rw [usesRow] at h
    split at h
    · rcases List.mem_cons.1 h with rfl | h
      · rfl
      · exact usesRow_fst k i l _ u h
    · exact usesRow_fst k i l _ u h
theorem usesGo_fst (i : Int) : ∀ (F : List (List Int)) (k : Nat), ∀ u ∈ usesGo i k F, u.1 < k + F.length
  | [], k, u, h => by simp [usesGo] at h
  | row :: F, k, u, h => by
    rw [usesGo] at h
    rcases List.mem_append.1 h with h | h
    · rw [usesRow_fst k i row _ u h]; simp
    · have := usesGo_fst i F (k + 1) u h
      simp; omega

theorem one_own {W : World} {h : Int} {g : Nat} {t : TypeId} (hg : g = W.heap.size) : (W.alloc (.cells #[.int .i64 h] t)).ownsRow W.heap.size t 1 (.slice (some ⟨g, 0, none⟩) 1 1) 1 ([h].map (.int .i64)) := by
  subst hg
  refine ⟨rfl, .inr ⟨W.heap.size, 1, #[.int .i64 h], rfl, Nat.le_refl _, Blk.new W _ _, Nat.le_refl _, by unfold maxLen; omega, by simp, rfl⟩⟩
theorem rds_own {w : World} {base : Nat} {e : TypeId} {v : Value} {n : Nat} {l : List Int} (h : w.ownsRow base e 1 v n (l.map (.int .i64))) (hn : n = l.length) (hw : ∀ x ∈ l, (Lit.int .i64 x).wf = true) : Rds (Rk.int .i64) w v l := by
  subst hn
  refine Rds.of_own (d := Rk.int .i64) (xs := l.map (.int .i64)) h (by decide) (fun i x hi => ⟨[.int .i64 x], ⟨rfl, hw x (List.mem_of_getElem? hi)⟩, fun j hj => ?_⟩)
  have : j = 0 := by have : (Rk.int .i64).sz = 1 := rfl; omega
  subst this
  rw [show i * (Rk.int .i64).sz + 0 = i by simp [Rk.int]]
  simp [hi]

set_option maxRecDepth 100000 in
set_option maxHeartbeats 4000000 in
theorem part_any (b : Nat) (P : List Int) (ov fv sv tv pv av zv : Value) (x : PlanD) (r : RatesD) (A S : List Int) (op h : Int) (w : World) (hTA : TreeAt w b P) (hT : Tree P)
    (ho : Rds opR w ov x.1) (hf : Rds intsR w fv x.2) (hF : fromLen x.2 ≤ 1048576) (hs : RdI w .i64 sv r.1) (ht : RdI w .i64 tv r.2.1) (hp : RdI w .i64 pv r.2.2)
    (ha : RdI w .i64 av A) (har : Rds (Rk.int .i64) w av A) (hz : RdI w .i64 zv S) (hzr : Rds (Rk.int .i64) w zv S) (hh : (Lit.int .i64 h).wf = true) :
    Calls Try.prog 30 #[.pointer (some ⟨b, 0, none⟩), .agg #[ov, fv], .agg #[sv, tv, pv], av, .int .i64 op, .int .i64 h, zv] w fun e w' => e = .returned (.tuple #[.int .i64 (partV P x r A S op h), .int .i64 (partE P.length x r A S op h)]) ∧ Kept [] w w' := by
  obtain ⟨i0, hi0, hz0, hz1, hz2⟩ := info_parts info64
  have HNM := Lib.hid (fun (W : World) (hk : Kept [] w W) => newmodel_any b P ov fv sv tv pv av zv x r A S W (hTA.keep hk) hT.pos (ho.keep hk) (hf.keep hk) hF (hs.keep hk) (ht.keep hk) (hp.keep hk) (ha.keep hk) (har.keep hk) (hz.keep hk) (hzr.keep hk))
  have HIN : Hid (∀ (W : World) (mb : Nat) (uv : Value), Kept [] w W → Blk W mb (mdC b ov fv sv tv pv av zv uv) 105 → RdI W .i64 uv (outV x r) → modelE P.length x r A S = 0 → ∀ (k : Nat), k < x.1.length →
      Calls Try.prog 49 #[.pointer (some ⟨mb, 0, none⟩), .int .i64 k, .int .i64 h] W (IntsPost W (inV P x r (outV x r) A S k h))) := fun W mb uv hk hb hu hE k hlt => by
    obtain ⟨e1, e2, e3, -, -⟩ := modelE_zero hE
    exact in_any mb b P x r (outV x r) A S ov fv sv tv pv av zv uv k h W ⟨hb, hTA.keep hk, ho.keep hk, hf.keep hk, hs.keep hk, ha.keep hk, hz.keep hk, hu⟩ hT e1 hlt (outV_len x r) e2 e3 hF
  have HUS : Hid (∀ (W : World), Kept [] w W → modelE P.length x r A S = 0 → ∀ (k : Nat), k < x.1.length → Calls Try.prog 54 #[.agg #[ov, fv], .int .i64 k] W (UsesPost W (usesGo k 0 x.2))) := fun W hk hE k hlt => by
    obtain ⟨e1, -, -, -, -⟩ := modelE_zero hE
    exact plan_uses ov fv x k W (ho.keep hk) (hf.keep hk) hF hlt (checkE_zero e1).1
  have HLEN : Hid (modelE P.length x r A S = 0 → ∀ (k : Nat), k < x.1.length → (inV P x r (outV x r) A S k h).length ≤ 1048576 ∧ (usesGo k 0 x.2).length ≤ 1048576 ∧ ∀ u ∈ usesGo k 0 x.2, u.1 < x.1.length) := fun hE k hlt => by
    obtain ⟨e1, e2, e3, -, -⟩ := modelE_zero hE
    obtain ⟨hpv, hro⟩ := checkE_zero e1
    have hri := ratesOk_is hro
    have hm := (plan_place hpv).2.2.1
    refine ⟨(inV_len P x r (outV x r) A S k h hpv e3 hri.1 hri.2.1 hlt hF).2, Nat.le_trans (usesGo_le k x.2 0) hF, fun u hu => ?_⟩
    have := usesGo_fst k x.2 0 u hu
    omega
  have HAL : Hid (modelE P.length x r A S = 0 → A.length = x.1.length ∧ (outV x r).length = x.1.length ∧ x.1.length ≤ 32) := fun hE => by
    obtain ⟨e1, e2, e3, -, -⟩ := modelE_zero hE
    obtain ⟨hpv, hro⟩ := checkE_zero e1
    exact ⟨e2, outV_len x r, (plan_place hpv).2.1⟩
  have HBC := Lib.hid (fun (W : World) (v : Value) (hk : Kept [] w W) (h1 : RdI W .i64 v [h]) (h2 : Rds (Rk.int .i64) W v [h]) => broker_any b P v [h] W (hTA.keep hk) h1 h2)
  have HWY : Hid (∀ (W : World) (mb : Nat) (uv : Value), Kept [] w W → Blk W mb (mdC b ov fv sv tv pv av zv uv) 105 → ∀ n a : Int, Calls Try.prog 55 #[.pointer (some ⟨mb, 0, none⟩), .int .i64 n, .int .i64 h, .int .i64 a] W fun e w' => e = .returned (.int .i64 (wayV P n h a)) ∧ Kept [] W w') := fun W mb uv hk hb n a =>
    way_any mb b P n h a W (hTA.keep hk) hT (hb.cell 0)
  have HA := Lib.hid ha
  have HHH := Lib.hid hh
  obtain ⟨A1, c, rfl, hmA⟩ := ho.form
  obtain ⟨B, d, rfl, hmB⟩ := hf.form
  obtain ⟨SA, sc, rfl, hmS, -⟩ := hs
  obtain ⟨TA, tc, rfl, hmT, -⟩ := ht
  obtain ⟨PA, pc, rfl, hmP, -⟩ := hp
  obtain ⟨AA, ac, rfl, hmAA, -⟩ := ha
  obtain ⟨ZA, zc, rfl, hmZ, -⟩ := hz
  obtain ⟨F, hFE⟩ : ∃ F, partE P.length x r A S op h = F := ⟨_, rfl⟩
  obtain ⟨V, hV⟩ : ∃ V, partV P x r A S op h = V := ⟨_, rfl⟩
  rw [hFE, hV]
  unfold partV at hV
  rw [hFE] at hV
  unfold partE at hFE
  obtain ⟨qh, hqh⟩ : ∃ qh, outB P.length h = qh := ⟨_, rfl⟩
  have HQ : Hid ([h].any (outB P.length) = qh) := by show _ = _; rw [← hqh]; simp
  rw [hqh] at hFE
  rw [HQ.out] at HBC
  obtain ⟨E, hE⟩ : ∃ E, modelE P.length x r A S = E := ⟨_, rfl⟩
  rw [hE] at HNM HIN HUS HLEN HAL hFE
  have HV := Lib.hid hV
  have HFE := Lib.hid hFE
  obtain ⟨O, hO⟩ : ∃ O, outV x r = O := ⟨_, rfl⟩
  rw [hO] at HNM HIN HLEN HAL HV
  obtain ⟨n, hn⟩ : ∃ n, x.1.length = n := ⟨_, rfl⟩
  obtain ⟨m, hm⟩ : ∃ m, x.2.length = m := ⟨_, rfl⟩
  obtain ⟨ns, hns⟩ : ∃ ns, r.1.length = ns := ⟨_, rfl⟩
  obtain ⟨nt, hnt⟩ : ∃ nt, r.2.1.length = nt := ⟨_, rfl⟩
  obtain ⟨np, hnp⟩ : ∃ np, r.2.2.length = np := ⟨_, rfl⟩
  obtain ⟨la, hla⟩ : ∃ la, A.length = la := ⟨_, rfl⟩
  obtain ⟨ls, hls⟩ : ∃ ls, S.length = ls := ⟨_, rfl⟩
  obtain ⟨lo, hlo⟩ : ∃ lo, O.length = lo := ⟨_, rfl⟩
  rw [hn] at HNM HIN HUS HLEN HAL HFE hmA ⊢
  rw [hm] at HNM HIN HUS HWY hmB ⊢
  rw [hn] at HWY
  simp only [hns] at HNM HIN HWY hmS ⊢
  simp only [hnt] at HNM HIN HWY hmT ⊢
  simp only [hnp] at HNM HIN HWY hmP ⊢
  rw [hla] at HNM HIN HAL HA HWY hmAA ⊢
  rw [hls] at HNM HIN HWY hmZ ⊢
  rw [hlo] at HAL
  have HLA := Lib.hid hla
  have HLO := Lib.hid hlo
  clear hV hFE hqh hO hn hm hns hnt hnp hla hls hlo hE hF ho hf hTA har hzr hT hh
  have HK0 := Lib.hid (((Kept.refl [] w).alloc (.cells #[.slice A1 n c, .slice B m d] 30)).alloc (.cells #[.slice SA ns sc, .slice TA nt tc, .slice PA np pc] 32))
  have HB0 : Hid (Blk ((w.alloc (.cells #[.slice A1 n c, .slice B m d] 30)).alloc (.cells #[.slice SA ns sc, .slice TA nt tc, .slice PA np pc] 32)) w.heap.size #[.slice A1 n c, .slice B m d] 30) := (Blk.new w _ _).alloc _
  go_enter Try.func30, Try.ntmps30
  go_wp2_with fail
  refine (HNM.out _ HK0.out).mono ?_
  rintro e w1 ⟨k1, h1⟩
  have HK1 := Lib.hid (HK0.out.trans k1)
  have HB1 := Lib.hid (HB0.out.kept k1 (by simp))
  clear k1 HB0
  rcases h1 with ⟨hE, rfl⟩ | ⟨rfl, mb, uv, rfl, hmb, hblk, hrd⟩
  · have hE' : (E != 0) = true := by rw [bne_iff_ne]; exact hE
    have hFE : Hid (F = E) := by show _ = _; rw [← HFE.out, if_neg hE]
    have hV : Hid (V = 0) := by show _ = _; rw [← HV.out, if_neg (by rw [hFE.out]; exact hE)]
    go_wp2_with fail
    go_ret2
    exact ⟨by rw [hV.out, hFE.out]; rfl, HK1.out⟩
  · rw [if_pos rfl] at HFE
    obtain ⟨hla, hlo, hn32⟩ := HAL.out rfl
    subst hla hlo
    have HBK := Lib.hid hblk
    have HRD := Lib.hid hrd
    have c0 := HB1.out.cell 0
    have c1 := HB1.out.cell 1
    simp at c0 c1
    clear hblk hrd HNM HAL
    by_cases hop0 : op < 0
    · have hFE : Hid (F = 1) := by show _ = _; rw [← HFE.out]; simp; intro h1; omega
      have hV : Hid (V = 0) := by show _ = _; rw [← HV.out, if_neg (by rw [hFE.out]; decide)]
      go_wp2_with fail
      go_ret2
      exact ⟨by rw [hV.out, hFE.out]; rfl, HK1.out⟩
    · obtain ⟨k, rfl⟩ := Int.eq_ofNat_of_zero_le (by omega : 0 ≤ op)
      rw [Int.toNat_natCast] at HV
      by_cases hkn : (lo : Int) ≤ (k : Int)
      · have hFE : Hid (F = 1) := by show _ = _; rw [← HFE.out]; simp; intro h1; omega
        have hV : Hid (V = 0) := by show _ = _; rw [← HV.out, if_neg (by rw [hFE.out]; decide)]
        go_wp2_with fail
        go_ret2
        exact ⟨by rw [hV.out, hFE.out]; rfl, HK1.out⟩
      · have hk : k < lo := by omega
        go_wp2_with fail
        refine (HBC.out _ _ (HK1.out.alloc _) (one_at rfl) (rds_own (one_own rfl) rfl (fun y hy => by rw [List.mem_singleton.1 hy]; exact HHH.out))).mono ?_
        rintro e w2 ⟨rfl, k2⟩
        have HK2 := Lib.hid ((HK1.out.alloc (.cells #[.int .i64 h] 3)).trans k2)
        have HK12 := Lib.hid (((Kept.refl [] w1).alloc (.cells #[.int .i64 h] 3)).trans k2)
        clear k2
        cases qh with
        | true =>
          have hFE : Hid (F = 1) := by show _ = _; rw [← HFE.out]; simp
          have hV : Hid (V = 0) := by show _ = _; rw [← HV.out, if_neg (by rw [hFE.out]; decide)]
          rw [show (!true) = false from rfl]
          go_wp2_with fail
          go_ret2
          exact ⟨by rw [hV.out, hFE.out]; rfl, HK2.out⟩
        | false =>
          have hFE : Hid (F = 0) := by show _ = _; rw [← HFE.out, if_pos (by simp; omega)]
          rw [if_pos hFE.out] at HV
          rw [show (!false) = true from rfl]
          have c0 := HK12.out.cell (by simp) c0
          have c1 := HK12.out.cell (by simp) c1
          have HBK2 := Lib.hid (HBK.out.kept HK12.out (by simp))
          have HRD2 := Lib.hid (HRD.out.keep HK12.out)
          obtain ⟨bu, ou, cu, s0, rfl, hs0, hcu0⟩ := RdI.at HRD2.out (i := k) (by rw [HLO.out]; exact hk)
          have HC := Lib.hid (HIN.out w2 mb _ HK2.out HBK2.out HRD2.out (by first | trivial | rfl) k hk)
          obtain ⟨hl1, hl2, hl3⟩ := HLEN.out (by first | trivial | rfl) k hk
          have HUC := Lib.hid (fun (W : World) (hW : Kept [] w W) => HUS.out W hW (by first | trivial | rfl) k hk)
          unfold partL at HV
          obtain ⟨J, hJ⟩ : ∃ J, inV P x r O A S k h = J := ⟨_, rfl⟩
          obtain ⟨U, hU⟩ : ∃ U, usesGo k 0 x.2 = U := ⟨_, rfl⟩
          rw [hJ, hU] at HV
          rw [hJ] at HC hl1
          rw [hU] at HUC hl2 hl3
          obtain ⟨lj, hlj⟩ : ∃ lj, J.length = lj := ⟨_, rfl⟩
          obtain ⟨lu, hlu⟩ : ∃ lu, U.length = lu := ⟨_, rfl⟩
          rw [hlj] at hl1
          rw [hlu] at hl2
          have HLJ := Lib.hid hlj
          have HLU := Lib.hid hlu
          have HL3 := Lib.hid hl3
          obtain ⟨g, hg⟩ : ∃ g, g = (fun u : UseD => wayV P (O.getD k 0) h (A.getD u.1 0)) := ⟨_, rfl⟩
          rw [← hg] at HV
          have HG : Hid (∀ (u : UseD) (a : Int), A[u.1]? = some a → wayV P s0 h a = g u) := fun u a h2 => by
            rw [hg]; simp only [List.getD, hs0, h2, Option.getD]
          have HS0 := Lib.hid hs0
          have HCU := Lib.hid hcu0
          rw [HLO.out] at HBK2
          clear hJ hU hlj hlu hl3 hg hs0 hcu0 HIN HLEN HUS HBC
          go_wp2_with fail
          refine HC.out.mono ?_
          rintro e w3 ⟨v3, rfl, o3, k3⟩
          rw [HLJ.out] at o3
          obtain ⟨JA, jc, rfl⟩ := own_len o3
          have HO3 := Lib.hid o3
          have HK3 := Lib.hid (HK2.out.trans k3)
          have c0 := k3.cell (by simp) c0
          have c1 := k3.cell (by simp) c1
          have HK23 := Lib.hid k3
          clear o3 k3
          go_wp2_with fail
          refine (HUC.out _ HK3.out).mono ?_
          rintro e w4 ⟨v4, rfl, o4, k4⟩
          rw [HLU.out] at o4
          obtain ⟨UA, uc, rfl⟩ := own_len o4
          have HO4 := Lib.hid o4
          have HK4 := Lib.hid (HK3.out.trans k4)
          have HK24 := Lib.hid (HK23.out.trans k4)
          have HK34 := Lib.hid k4
          have HO34 := Lib.hid (ownsRow_keep HO3.out k4 (by simp))
          have HBK4 := Lib.hid (HBK2.out.kept HK24.out (by simp))
          have HRD4 := Lib.hid (HRD2.out.keep HK24.out)
          clear o4 k4
          go_wp2_with fail
          have HJB : Hid (∀ y, (Value.slice JA lj jc).ownBlock = some y → w2.heap.size ≤ y ∧ y < w3.heap.size) := fun y hy => ⟨(HO3.out.lt y hy).1, (HO3.out.lt y hy).2⟩
          have HNB : Hid (∀ q, (q < w2.heap.size ∨ w3.heap.size ≤ q) → q ∉ (Value.slice JA lj jc).ownBlock.toList) := fun q hq hm => by
            have hy : (Value.slice JA lj jc).ownBlock = some q := by simpa using hm
            have := HJB.out q hy
            omega
          have HSZ : Hid (w3.heap.size ≤ w4.heap.size ∧ w2.heap.size ≤ w3.heap.size ∧ w1.heap.size ≤ w2.heap.size) := ⟨HK34.out.size, HK23.out.size, HK12.out.size⟩
          go_loopw [18, 57] (fun o jj wr => ∃ (j : Nat), j ≤ lu ∧ jj = .int .i64 j ∧ wr.ownsRow w2.heap.size 2 1 o (lj + j) ((J ++ (U.take j).map g).map (.int .i64)) ∧ (∀ y, o.ownBlock = some y → y ∈ (Value.slice JA lj jc).ownBlock.toList ∨ w4.heap.size ≤ y) ∧ Kept (Value.slice JA lj jc).ownBlock.toList w4 wr) (fun _ jj _ => lu - (intOf jj).toNat)
          case atStart => exact ⟨0, by omega, rfl, by simpa using HO34.out, fun y hy => .inl (by rw [hy]; simp), Kept.refl _ _⟩
          case round =>
            obtain ⟨j, hj, rfl, hown, hob, hK⟩ := hrel
            obtain ⟨BA, cc, rfl⟩ := own_len hown
            have HOWN := Lib.hid hown
            have HOB := Lib.hid hob
            have HGB : Hid (∀ x, (Value.slice BA (lj + j) cc).ownBlock = some x → w2.heap.size ≤ x) := fun x hx => (hown.lt x hx).1
            have HK := Lib.hid hK
            have hszr := hK.size
            clear hown hob hK
            by_cases hlt : j < lu
            · obtain ⟨⟨ua, ub⟩, hu⟩ : ∃ u, U[j]? = some u := ⟨_, List.getElem?_eq_getElem (by rw [HLU.out]; exact hlt)⟩
              obtain ⟨hu1, hu2⟩ := cellsU_get U j _ hu
              obtain ⟨g4, c4, he, hc41, hc42⟩ := own_some HO4.out (by omega)
              injection he with he1 he2 he3
              subst he1 he3
              have hd : ∀ i, (⟨g4, 0, none⟩ : Addr).add i = ⟨g4, i, none⟩ := fun i => by unfold Addr.add; split <;> simp_all
              have e1 := HO4.out.cells rfl _ _ hu1
              have e2 := HO4.out.cells rfl _ _ hu2
              have hg4 := (HO4.out.lt g4 rfl).1
              rw [hd] at e1 e2
              have d0 := HK.out.cell (HNB.out _ (.inr hg4)) e1
              have d1 := HK.out.cell (HNB.out _ (.inr hg4)) e2
              have hua := HL3.out _ (List.mem_of_getElem? hu)
              obtain ⟨ba, oa, ca, a, he, hya, hca0⟩ := RdI.at HA.out (i := ua) (by rw [HLA.out]; exact hua)
              injection he with he1 he5 he3
              subst he1 he3
              have HTK : Hid (U.take (j + 1) = U.take j ++ [(ua, ub)]) := by
                show _ = _
                obtain ⟨q1, q2⟩ := List.getElem?_eq_some_iff.1 hu
                rw [List.take_succ_eq_append_getElem q1, q2]
              have HGY : Hid (wayV P s0 h a = g (ua, ub)) := HG.out (ua, ub) a hya
              clear hu hu1 hu2 he2 he5 hd hya e1 e2
              have HK2r : Hid (Kept [] w2 wr) := Kept.after HK24.out HK.out (fun y hy => (HJB.out y (by simpa using hy)).1)
              have HFX : Hid (∀ W, Kept (Value.slice BA (lj + j) cc).ownBlock.toList (wr.alloc (.cells #[.int .i64 ua, .int .i64 ub] 102)) W → W.cell? ⟨mb, 8, none⟩ = some (.slice (some ⟨bu, ou, none⟩) lo cu) ∧ W.cell? ⟨bu, ou + k, none⟩ = some (.int .i64 s0) ∧ W.cell? ⟨wr.heap.size, 0, none⟩ = some (.int .i64 ua) ∧ W.cell? ⟨ba, oa + ua, none⟩ = some (.int .i64 a)) := fun W hW => by
                have nb : ∀ q, q < w2.heap.size ∨ wr.heap.size ≤ q → q ∉ (Value.slice BA (lj + j) cc).ownBlock.toList := fun q hq hm => by
                  have hy : (Value.slice BA (lj + j) cc).ownBlock = some q := by simpa using hm
                  have h1 := HOWN.out.lt q hy
                  omega
                have c8 := HBK2.out.cell 8
                simp at c8
                have m8 := (HK2r.out.alloc (.cells #[.int .i64 ua, .int .i64 ub] 102)).cell (by simp) c8
                have mu := (HK2r.out.alloc (.cells #[.int .i64 ua, .int .i64 ub] 102)).cell (by simp) HCU.out
                have ma := ((HK2.out.trans HK2r.out).alloc (.cells #[.int .i64 ua, .int .i64 ub] 102)).cell (by simp) hca0
                have mw := HK2.out.cell (by simp) hca0
                have mx : (wr.alloc (.cells #[.int .i64 ua, .int .i64 ub] 102)).cell? ⟨wr.heap.size, 0, none⟩ = some (.int .i64 ua) := ((Blk.new wr #[.int .i64 ua, .int .i64 ub] 102).cell 0).trans rfl
                exact ⟨hW.cell (nb _ (.inl (cell_lt c8))) m8, hW.cell (nb _ (.inl (cell_lt HCU.out))) mu, hW.cell (nb _ (.inr (Nat.le_refl _))) mx, hW.cell (nb _ (.inl (cell_lt mw))) ma⟩
              have HS : Hid (∀ W, Kept [] (wr.alloc (.cells #[.int .i64 ua, .int .i64 ub] 102)) W → W.cell? ⟨mb, 8, none⟩ = some (.slice (some ⟨bu, ou, none⟩) lo cu) ∧ W.cell? ⟨bu, ou + k, none⟩ = some (.int .i64 s0) ∧ W.cell? ⟨wr.heap.size, 0, none⟩ = some (.int .i64 ua) ∧ W.cell? ⟨ba, oa + ua, none⟩ = some (.int .i64 a)) := fun W hW => HFX.out W hW.nil
              have HSG : Hid (∀ W, (∃ V, Kept [] (wr.alloc (.cells #[.int .i64 ua, .int .i64 ub] 102)) V ∧ V.grownBy W (Value.slice BA (lj + j) cc).ownBlock) → W.cell? ⟨mb, 8, none⟩ = some (.slice (some ⟨bu, ou, none⟩) lo cu) ∧ W.cell? ⟨bu, ou + k, none⟩ = some (.int .i64 s0) ∧ W.cell? ⟨wr.heap.size, 0, none⟩ = some (.int .i64 ua) ∧ W.cell? ⟨ba, oa + ua, none⟩ = some (.int .i64 a)) := fun W ⟨V, hV, hg⟩ =>
                HFX.out W (hV.nil.grown hg (fun y hy => .inl (by rw [hy]; simp)))
              obtain ⟨y, hyy⟩ : ∃ y, g (ua, ub) = y := ⟨_, rfl⟩
              rw [hyy] at HGY
              have HY := Lib.hid hyy
              have HW : Hid (∀ W, Kept [] (wr.alloc (.cells #[.int .i64 ua, .int .i64 ub] 102)) W → Calls Try.prog 55 #[.pointer (some ⟨mb, 0, none⟩), .int .i64 s0, .int .i64 h, .int .i64 a] W fun e w' => e = .returned (.int .i64 y) ∧ Kept [] W w') := fun W hW => by
                have h2 := (HK2r.out.alloc (.cells #[.int .i64 ua, .int .i64 ub] 102)).trans hW
                have := HWY.out W mb _ (HK2.out.trans h2) (HBK2.out.kept h2 (by simp)) s0 a
                rwa [HGY.out] at this
              have HOWNC : Hid (∀ W, Kept [] (wr.alloc (.cells #[.int .i64 ua, .int .i64 ub] 102)) W → W.ownsRow w2.heap.size 2 1 (.slice BA (lj + j) cc) (lj + j) ((J ++ (U.take j).map g).map (.int .i64))) := fun W hk => ownsRow_keep (HOWN.out.alloc _) hk (by simp)
              have hsw : (wr.alloc (.cells #[.int .i64 ua, .int .i64 ub] 102)).heap.size = wr.heap.size + 1 := by simp
              have HSW := Lib.hid hsw
              have hk0' : (0 : Int) ≤ (k : Int) := by omega
              have hkl' : (k : Int) < (lo : Int) := by omega
              have hu0' : (0 : Int) ≤ (ua : Int) := by omega
              have hul' : (ua : Int) < (lo : Int) := by omega
              have hsz5 := HSZ.out
              clear hyy hsw
              go_wp2_with fail
              obtain ⟨wq, hwq⟩ : ∃ wq, wr.alloc (.cells #[.int .i64 ua, .int .i64 ub] 102) = wq := ⟨_, rfl⟩
              rw [hwq] at HS HSG HW HOWNC HSW ⊢
              have HKQ : Hid (Kept (Value.slice JA lj jc).ownBlock.toList w4 wq) := by show Kept _ _ _; rw [← hwq]; exact HK.out.alloc _
              have hsq : wq.heap.size = wr.heap.size + 1 := HSW.out
              clear hwq
              go_region_held3 (fun W => W.cell? ⟨mb, 8, none⟩ = some (.slice (some ⟨bu, ou, none⟩) lo cu) ∧ W.cell? ⟨bu, ou + k, none⟩ = some (.int .i64 s0) ∧ W.cell? ⟨wr.heap.size, 0, none⟩ = some (.int .i64 ua) ∧ W.cell? ⟨ba, oa + ua, none⟩ = some (.int .i64 a)) (first | (refine HS.out _ ?_; (repeat (first | exact Kept.refl _ _ | assumption | refine Kept.drewN ?_ _ | refine Kept.drew ?_ | refine Kept.alloc ?_ _)); done) | (refine HSG.out _ ⟨_, ?_, hgrow7⟩; (repeat (first | exact Kept.refl _ _ | assumption | refine Kept.drewN ?_ _ | refine Kept.drew ?_ | refine Kept.alloc ?_ _)); done)) (first
                | (go_at_call 55; refine (HW.out _ (by (repeat (first | exact Kept.refl _ _ | assumption | refine Kept.drewN ?_ _ | refine Kept.drew ?_ | refine Kept.alloc ?_ _)))).mono ?_; rintro e w5 ⟨rfl, hk5⟩; have hk5' : Kept [] wq w5 := Kept.trans (by (repeat (first | exact Kept.refl _ _ | assumption | refine Kept.drewN ?_ _ | refine Kept.drew ?_ | refine Kept.alloc ?_ _))) hk5)
                | (refine step_guard _ _ 22 (by rfl) ?_; refine step_append_lies _ (by rfl) _ _ 22 (by rfl) w2.heap.size 2 i0 (.int .i64 0) 1 8 Try.underlying22 hi0 hz0 hz1 hz2 (by rfl) (by decide) (.slice BA (lj + j) cc) (lj + j) _ (by rfl) (HOWNC.out _ (by (repeat (first | exact Kept.refl _ _ | assumption | refine Kept.drewN ?_ _ | refine Kept.drew ?_ | refine Kept.alloc ?_ _)))) ⟨w5.heap.size, 0, none⟩ 1 1 [.int .i64 y] (by rfl) (by rfl) (by (repeat (first | exact cell_one_at _ _ _ _ (by (first | rfl | (simp; done) | (simp; omega))) | refine cells_drew ?_ | refine cells_drewN ?_))) (by simp [Value.oneCell']) (by decide) (by unfold maxLen; omega) (by omega) (by have := hk5'.size; simp; omega) (w5.heap.size + 1) (by (first | rfl | (simp; done) | (simp; omega))) ?_; intro gg cap w7 hown7 hgrow7 hat7 hlt7))
              all_goals
                have HK7 : Hid (Kept (Value.slice JA lj jc).ownBlock.toList w4 w7) := Kept.grown (Kept.trans HKQ.out (Kept.nil (by (repeat (first | exact Kept.refl _ _ | assumption | refine Kept.drewN ?_ _ | refine Kept.drew ?_ | refine Kept.alloc ?_ _))))) hgrow7 (fun y hy => HOB.out y hy)
                have HOB7 : Hid (∀ y, (Value.slice (some ⟨gg, 0, none⟩) (lj + j + 1) cap).ownBlock = some y → y ∈ (Value.slice JA lj jc).ownBlock.toList ∨ w4.heap.size ≤ y) := fun y hy => by
                  have hy' : gg = y := by simpa [Value.ownBlock] using hy
                  subst hy'
                  rcases hat7 with h | h
                  · exact HOB.out _ h
                  · exact .inr (by have := hk5'.size; omega)
                have HOWN7 := Lib.hid hown7
                clear hown7 hgrow7 hat7 hlt7
                go_wp2_with fail
                go_roundw
                case rel => exact ⟨j + 1, by omega, by go_num, by have h7 := HOWN7.out; have hy := HY.out; rw [HTK.out]; simp only [List.map_append, List.map_cons, List.map_nil, hy, List.append_assoc, Nat.add_assoc] at h7 ⊢; exact h7, HOB7.out, HK7.out⟩
                case measure => simp [intOf]; omega
            · have hjm : j = lu := by omega
              subst hjm
              have HLL : Hid ((J ++ (U.take j).map g) = J ++ U.map g) := by show _ = _; rw [List.take_of_length_le (by rw [HLU.out]; omega)]
              have hadd : Hid (∀ W, W = wr → Calls Try.prog 10 #[.slice BA (lj + j) cc] W fun e w' => e = .returned (.int .i64 V) ∧ W = w') := fun W hW => by
                subst hW
                have := add_any _ _ _ (RdI.of_own HOWN.out).1
                rwa [HLL.out, HV.out] at this
              go_wp2_with fail
              refine (hadd.out _ rfl).mono ?_
              rintro e w6 ⟨rfl, rfl⟩
              go_wp2_with fail
              go_ret2
              exact ⟨by rw [hFE.out]; rfl, Kept.after HK4.out HK.out (fun y hy => by have h1 := (HJB.out y (by simpa using hy)).1; have := HK2.out.size; omega)⟩

end Go.Proofs.Ytiiiflckphgdiaa
