/- What a placing costs: the program's Traffic. -/
import Derived.Test.YtiiiflckphgdiaaM5
import Derived.Test.YtiiiflckphgdiaaP25
import Derived.Test.YtiiiflckphgdiaaP26
set_option linter.unusedVariables false
set_option linter.unusedSimpArgs false
set_option linter.unnecessarySimpa false
namespace Go.Proofs.Ytiiiflckphgdiaa
open Go.RowKit Go.Shelf Tr
attribute [local go_sem] Oper.semAt_some

theorem inV_len (P : List Int) (x : PlanD) (r : RatesD) (O A S : List Int) (k : Nat) (h : Int) (hpl : planV x = true) (hls : S.length = r.1.length) (hr1 : 1 ≤ r.1.length) (hr : r.1.length ≤ 12) (hk : k < x.1.length) (hF : fromLen x.2 ≤ 1048576) :
    1 ≤ (inV P x r O A S k h).length ∧ (inV P x r O A S k h).length ≤ 1048576 := by
  obtain ⟨_, _, hm, hp⟩ := plan_place hpl
  unfold inV
  split
  · have h1 := srcV_le P h r.1 S
    refine ⟨?_, by omega⟩
    cases hr0 : r.1 with
    | nil => rw [hr0] at hr1; simp at hr1
    | cons n ns =>
      cases hs0 : S with
      | nil => rw [hs0] at hls; simp at hls; omega
      | cons a ys => simp [srcV]
  · have h1 := (place_is (hp k hk)).one
    have h2 : x.2[k]? = some x.2[k] := List.getElem?_eq_getElem (by omega)
    have h3 := row_fromLen h2
    rw [rowAt_of h2] at h1 ⊢
    simp
    omega

theorem ratesOk_12 {n : Nat} {r : RatesD} (h : ratesOk n r = true) : r.1.length ≤ 12 := (ratesOk_is h).2.1

theorem in_any (mb b : Nat) (P : List Int) (x : PlanD) (r : RatesD) (O A S : List Int) (ov fv sv tv pv av zv uv : Value) (k : Nat) (h : Int) (w : World) (hM : MdAt w mb b P x r O A S ov fv sv tv pv av zv uv) (hT : Tree P)
    (hC : checkE x r = 0) (hk : k < x.1.length) (hO : O.length = x.1.length) (hA : A.length = x.1.length) (hS : S.length = r.1.length) (hF : fromLen x.2 ≤ 1048576) :
    Calls Try.prog 49 #[.pointer (some ⟨mb, 0, none⟩), .int .i64 k, .int .i64 h] w (IntsPost w (inV P x r O A S k h)) := by
  obtain ⟨hpv, hro⟩ := checkE_zero hC
  obtain ⟨h2, h32, hm, hp⟩ := plan_place hpv
  have hri := ratesOk_is hro
  by_cases h1 : (opAt x k).1 = 1
  · exact in_term mb b P x r O A S ov fv sv tv pv av zv uv k h w hM hT hk h1 hS (by omega)
  · refine in_else mb b P x r O A S ov fv sv tv pv av zv uv k h w hM hT hk h1 hm hO hA h32 hF (fun f hf => ?_)
    have h3 := (place_is (hp k hk)).low h1 f hf
    have h4 := (place_is (hp k hk)).below f hf
    omega

def trafL (P : List Int) (x : PlanD) (r : RatesD) (O A S : List Int) (k : Nat) : List Int := (List.range k).flatMap (fun op => inV P x r O A S op (A.getD op 0))
def trafV (P : List Int) (x : PlanD) (r : RatesD) (A S : List Int) : Int := if modelE P.length x r A S = 0 then addV (trafL P x r (outV x r) A S x.1.length) else 0

theorem placeE_zero {la n ls ns : Nat} {qa qs : Bool} (h : placeE la n ls ns qa qs = 0) : la = n ∧ ls = ns ∧ qa = false ∧ qs = false := by
  unfold placeE at h
  split at h
  · rename_i h1
    simp only [Bool.and_eq_true, decide_eq_true_eq, Bool.not_eq_true'] at h1
    exact ⟨h1.1, h1.2.1, h1.2.2.1, h1.2.2.2⟩
  · cases h
theorem modelE_zero {np : Nat} {x : PlanD} {r : RatesD} {A S : List Int} (h : modelE np x r A S = 0) : checkE x r = 0 ∧ A.length = x.1.length ∧ S.length = r.1.length ∧ A.any (outB np) = false ∧ S.any (outB np) = false := by
  unfold modelE at h
  split at h
  · rename_i h1
    obtain ⟨h2, h3, h4, h5⟩ := placeE_zero h
    exact ⟨h1, h2, h3, h4, h5⟩
  · rename_i h1; exact absurd h h1

set_option maxRecDepth 100000 in
set_option maxHeartbeats 4000000 in
theorem traffic_any (b : Nat) (P : List Int) (ov fv sv tv pv av zv : Value) (x : PlanD) (r : RatesD) (A S : List Int) (w : World) (hTA : TreeAt w b P) (hT : Tree P)
    (ho : Rds opR w ov x.1) (hf : Rds intsR w fv x.2) (hF : fromLen x.2 ≤ 1048576) (hs : RdI w .i64 sv r.1) (ht : RdI w .i64 tv r.2.1) (hp : RdI w .i64 pv r.2.2)
    (ha : RdI w .i64 av A) (har : Rds (Rk.int .i64) w av A) (hz : RdI w .i64 zv S) (hzr : Rds (Rk.int .i64) w zv S) :
    Calls Try.prog 27 #[.pointer (some ⟨b, 0, none⟩), .agg #[ov, fv], .agg #[sv, tv, pv], av, zv] w fun e w' => e = .returned (.tuple #[.int .i64 (trafV P x r A S), .int .i64 (modelE P.length x r A S)]) ∧ Kept [] w w' := by
  obtain ⟨i0, hi0, hz0, hz1, hz2⟩ := info_parts info64
  have HNM := Lib.hid (fun (W : World) (hk : Kept [] w W) => newmodel_any b P ov fv sv tv pv av zv x r A S W (hTA.keep hk) hT.pos (ho.keep hk) (hf.keep hk) hF (hs.keep hk) (ht.keep hk) (hp.keep hk) (ha.keep hk) (har.keep hk) (hz.keep hk) (hzr.keep hk))
  have HIN : Hid (∀ (W : World) (mb : Nat) (uv : Value), Kept [] w W → Blk W mb (mdC b ov fv sv tv pv av zv uv) 105 → RdI W .i64 uv (outV x r) → modelE P.length x r A S = 0 → ∀ (k : Nat) (h : Int), k < x.1.length →
      Calls Try.prog 49 #[.pointer (some ⟨mb, 0, none⟩), .int .i64 k, .int .i64 h] W (IntsPost W (inV P x r (outV x r) A S k h))) := fun W mb uv hk hb hu hE k h hlt => by
    obtain ⟨e1, e2, e3, -, -⟩ := modelE_zero hE
    exact in_any mb b P x r (outV x r) A S ov fv sv tv pv av zv uv k h W ⟨hb, hTA.keep hk, ho.keep hk, hf.keep hk, hs.keep hk, ha.keep hk, hz.keep hk, hu⟩ hT e1 hlt (outV_len x r) e2 e3 hF
  have HLEN : Hid (modelE P.length x r A S = 0 → ∀ (k : Nat) (h : Int), k < x.1.length → 1 ≤ (inV P x r (outV x r) A S k h).length ∧ (inV P x r (outV x r) A S k h).length ≤ 1048576) := fun hE k h hlt => by
    obtain ⟨e1, e2, e3, -, -⟩ := modelE_zero hE
    obtain ⟨hpv, hro⟩ := checkE_zero e1
    have hri := ratesOk_is hro
    exact inV_len P x r (outV x r) A S k h hpv e3 hri.1 hri.2.1 hlt hF
  have HAL : Hid (modelE P.length x r A S = 0 → A.length = x.1.length ∧ x.1.length ≤ 32) := fun hE => by
    obtain ⟨e1, e2, e3, -, -⟩ := modelE_zero hE
    obtain ⟨hpv, hro⟩ := checkE_zero e1
    exact ⟨e2, (plan_place hpv).2.1⟩
  have HA := Lib.hid ha
  obtain ⟨A1, c, rfl, hmA⟩ := ho.form
  obtain ⟨B, d, rfl, hmB⟩ := hf.form
  obtain ⟨SA, sc, rfl, hmS, -⟩ := hs
  obtain ⟨TA, tc, rfl, hmT, -⟩ := ht
  obtain ⟨PA, pc, rfl, hmP, -⟩ := hp
  obtain ⟨AA, ac, rfl, hmAA, -⟩ := ha
  obtain ⟨ZA, zc, rfl, hmZ, -⟩ := hz
  obtain ⟨E, hE⟩ : ∃ E, modelE P.length x r A S = E := ⟨_, rfl⟩
  obtain ⟨V, hV⟩ : ∃ V, trafV P x r A S = V := ⟨_, rfl⟩
  rw [hV]
  unfold trafV at hV
  rw [hE] at HNM HIN HLEN HAL hV ⊢
  obtain ⟨I, hI⟩ : ∃ I, I = (fun op : Nat => inV P x r (outV x r) A S op (A.getD op 0)) := ⟨_, rfl⟩
  have HI : Hid (∀ (k : Nat) (a : Int), A[k]? = some a → inV P x r (outV x r) A S k a = I k) := fun k a h => by rw [hI]; simp only [List.getD, h, Option.getD]
  obtain ⟨Tl, hTl⟩ : ∃ Tl, Tl = (fun k : Nat => (List.range k).flatMap I) := ⟨_, rfl⟩
  have HT0 : Hid (Tl 0 = []) := by show _ = _; rw [hTl]; rfl
  have HTS : Hid (∀ k, Tl (k + 1) = Tl k ++ I k) := fun k => by rw [hTl]; simp [List.range_succ]
  have hV2 : V = if E = 0 then addV (Tl x.1.length) else 0 := by rw [← hV, hTl, hI]; rfl
  obtain ⟨O, hO⟩ : ∃ O, outV x r = O := ⟨_, rfl⟩
  rw [hO] at HNM HIN HLEN HI
  obtain ⟨n, hn⟩ : ∃ n, x.1.length = n := ⟨_, rfl⟩
  obtain ⟨m, hm⟩ : ∃ m, x.2.length = m := ⟨_, rfl⟩
  obtain ⟨ns, hns⟩ : ∃ ns, r.1.length = ns := ⟨_, rfl⟩
  obtain ⟨nt, hnt⟩ : ∃ nt, r.2.1.length = nt := ⟨_, rfl⟩
  obtain ⟨np, hnp⟩ : ∃ np, r.2.2.length = np := ⟨_, rfl⟩
  obtain ⟨la, hla⟩ : ∃ la, A.length = la := ⟨_, rfl⟩
  obtain ⟨ls, hls⟩ : ∃ ls, S.length = ls := ⟨_, rfl⟩
  rw [hn] at HNM HIN HLEN HAL hV2 hmA ⊢
  rw [hm] at HNM HIN hmB ⊢
  simp only [hns] at HNM HIN hmS ⊢
  simp only [hnt] at HNM HIN hmT ⊢
  simp only [hnp] at HNM HIN hmP ⊢
  rw [hla] at HNM HIN HAL HA hmAA ⊢
  rw [hls] at HNM HIN hmZ ⊢
  have HV := Lib.hid hV2
  have HLA := Lib.hid hla
  clear hV hV2 hI hTl hO hn hm hns hnt hnp hla hls hE hF ho hf hTA har hzr hT
  have HK0 := Lib.hid (((Kept.refl [] w).alloc (.cells #[.slice A1 n c, .slice B m d] 30)).alloc (.cells #[.slice SA ns sc, .slice TA nt tc, .slice PA np pc] 32))
  have HB0 : Hid (Blk ((w.alloc (.cells #[.slice A1 n c, .slice B m d] 30)).alloc (.cells #[.slice SA ns sc, .slice TA nt tc, .slice PA np pc] 32)) w.heap.size #[.slice A1 n c, .slice B m d] 30) := (Blk.new w _ _).alloc _
  go_enter Try.func27, Try.ntmps27
  go_wp2_with fail
  refine (HNM.out _ HK0.out).mono ?_
  rintro e w1 ⟨k1, h1⟩
  have HK1 := Lib.hid (HK0.out.trans k1)
  have HB1 := Lib.hid (HB0.out.kept k1 (by simp))
  clear k1 HB0
  rcases h1 with ⟨hE, rfl⟩ | ⟨rfl, mb, uv, rfl, hmb, hblk, hrd⟩
  · have hE' : (E != 0) = true := by rw [bne_iff_ne]; exact hE
    have hV : Hid (V = 0) := by show _ = _; rw [HV.out, if_neg hE]
    go_wp2_with fail
    go_ret2
    exact ⟨by rw [hV.out]; rfl, HK1.out⟩
  · have hV : Hid (V = addV (Tl n)) := by show _ = _; rw [HV.out, if_pos rfl]
    obtain ⟨hla, hn32⟩ := HAL.out rfl
    subst hla
    have HBK := Lib.hid hblk
    have HRD := Lib.hid hrd
    have c0 := HB1.out.cell 0
    simp at c0
    have HINC : Hid (∀ (W : World), Kept [] w1 W → ∀ (k : Nat) (a : Int), k < la → A[k]? = some a → Calls Try.prog 49 #[.pointer (some ⟨mb, 0, none⟩), .int .i64 k, .int .i64 a] W (IntsPost W (I k))) := fun W hW k a hk ha => by
      have := HIN.out W mb uv (HK1.out.trans hW) (HBK.out.kept hW (by simp)) (HRD.out.keep hW) rfl k a hk
      rwa [HI.out k a ha] at this
    have HLI : Hid (∀ (k : Nat) (a : Int), k < la → A[k]? = some a → 1 ≤ (I k).length ∧ (I k).length ≤ 1048576) := fun k a hk ha => by
      have := HLEN.out rfl k a hk
      rwa [HI.out k a ha] at this
    clear hblk hrd HNM HIN HLEN HI HAL
    go_wp2_with fail
    go_loopw [14, 31] (fun o ii wr => ∃ (k : Nat), k ≤ la ∧ ii = .int .i64 k ∧ (Tl k).length ≤ k * 1048576 ∧ wr.ownsRow w1.heap.size 2 1 o (Tl k).length ((Tl k).map (.int .i64)) ∧ Kept [] w1 wr) (fun _ ii _ => la - (intOf ii).toNat)
    case atStart => exact ⟨0, by omega, rfl, by rw [HT0.out]; simp, by rw [HT0.out]; exact World.ownsRow_nil _ _ _ _, Kept.refl _ _⟩
    case round =>
      obtain ⟨k, hk, rfl, hlen, hown, hK⟩ := hrel
      obtain ⟨ML, hML⟩ : ∃ ML, (Tl k).length = ML := ⟨_, rfl⟩
      rw [hML] at hown hlen
      obtain ⟨UA, uc, rfl⟩ := own_len hown
      have HOWN := Lib.hid hown
      have HML := Lib.hid hML
      have HK := Lib.hid hK
      have HGB : Hid (∀ x, (Value.slice UA ML uc).ownBlock = some x → w1.heap.size ≤ x) := fun x hx => (hown.lt x hx).1
      clear hown hK hML
      by_cases hlt : k < la
      · obtain ⟨bz, oz, c', a, he, hy, hca0⟩ := RdI.at HA.out (i := k) (by rw [HLA.out]; exact hlt)
        injection he with he1 he2 he3
        subst he1 he3
        have hca := (HK1.out.trans HK.out).cell (by simp) hca0
        obtain ⟨hl1, hl2⟩ := HLI.out k a hlt hy
        have HC := Lib.hid (HINC.out wr HK.out k a hlt hy)
        obtain ⟨J, hJ⟩ : ∃ J, I k = J := ⟨_, rfl⟩
        have HTN := Lib.hid (HTS.out k)
        rw [hJ] at HC hl1 hl2 HTN
        obtain ⟨lj, hlj⟩ : ∃ lj, J.length = lj := ⟨_, rfl⟩
        rw [hlj] at hl1 hl2
        have HLJ := Lib.hid hlj
        clear hy he2 hca0 hJ hlj
        go_wp2_with fail
        refine HC.out.mono ?_
        rintro e w5 ⟨v5, rfl, o5, k5⟩
        rw [HLJ.out] at o5
        obtain ⟨g5, c5, rfl, hc5, _⟩ := own_some o5 hl1
        have HO5 := Lib.hid o5
        have HK5 := Lib.hid (HK.out.trans k5)
        have hown5 := ownsRow_keep HOWN.out k5 (by simp)
        have hs5 := HK5.out.size
        clear o5 k5
        go_wp2_with (at_builtin; refine wpList_append_own_at _ rfl _ _ 22 rfl w1.heap.size 2 i0 (.int .i64 0) 1 8 Try.underlying22 hi0 hz0 hz1 hz2 rfl (by decide) _ ML _ rfl hown5 ⟨g5, 0, none⟩ lj c5 (J.map (.int .i64)) rfl (by rw [List.length_map, HLJ.out]; omega) (HO5.out.cells rfl) (by simp [Value.oneCell']) (by unfold maxLen; omega) (by omega) (by omega) ?_)
        intro v7 w7 hown7 hgrow7 _ _
        have HK7 : Hid (Kept [] w1 w7) := HK5.out.grown hgrow7 (fun y hy => .inr (HGB.out y hy))
        have HOWN7 : Hid (w7.ownsRow w1.heap.size 2 1 v7 (Tl (k + 1)).length ((Tl (k + 1)).map (.int .i64))) := by
          show w7.ownsRow _ _ _ _ _ _
          rw [HTN.out, List.length_append, List.map_append, HML.out, HLJ.out]
          exact hown7
        have HLN : Hid ((Tl (k + 1)).length ≤ (k + 1) * 1048576) := by show _ ≤ _; rw [HTN.out, List.length_append, HML.out, HLJ.out]; omega
        clear hown7 hgrow7 hown5
        go_wp2_with fail
        go_roundw
        case rel => exact ⟨k + 1, by omega, by go_num, HLN.out, HOWN7.out, HK7.out⟩
        case measure => simp [intOf]; omega
      · have hkn : k = la := by omega
        subst hkn
        have hadd : Hid (∀ W, W = wr → Calls Try.prog 10 #[.slice UA ML uc] W fun e w' => e = .returned (.int .i64 V) ∧ W = w') := fun W hW => by
          subst hW
          have := add_any _ _ _ (RdI.of_own HOWN.out).1
          rwa [← hV.out] at this
        go_wp2_with fail
        refine (hadd.out _ rfl).mono ?_
        rintro e w6 ⟨rfl, rfl⟩
        go_wp2_with fail
        go_ret2
        exact ⟨rfl, HK1.out.trans HK.out⟩

end Go.Proofs.Ytiiiflckphgdiaa
