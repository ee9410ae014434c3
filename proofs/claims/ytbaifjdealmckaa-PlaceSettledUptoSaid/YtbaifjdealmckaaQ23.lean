/- Settled: the walk of PlaceSettled. -/
import Derived.Test.YtbaifjdealmckaaQ21
set_option linter.unusedVariables false
set_option linter.unusedSimpArgs false
set_option linter.unnecessarySimpa false
namespace Go.Proofs.Ytbaifjdealmckaa
open Go.RowKit Go.Shelf Tr
attribute [local go_sem] Oper.semAt_some

theorem equal_kepts (u v : Value) (xs : List Int) (w : World) (hx : RdI w .i64 u xs) (hy : RdI w .i64 v xs) : Calls Try.prog 8 #[u, v] w fun e w' => e = .returned (.bool true) ∧ Kept [] w w' := by
  have := equal_any .i64 u v xs xs w hx hy
  rw [decide_eq_true rfl] at this
  exact this.mono fun e w' ⟨h1, h2⟩ => ⟨h1, Kept.of_drawn h2⟩
set_option maxRecDepth 100000 in
set_option maxHeartbeats 4000000 in
theorem settled_any (qv ov fv sv tv pv zv av : Value) (P : List Int) (x : PlanD) (r : RatesD) (S A : List Int) (w : World) (hg : Gr w qv ov fv sv tv pv zv P x r S) (ha : Rds (Rk.int .i64) w av A) :
    Calls Try.prog 5 #[.agg (grC qv ov fv sv tv pv zv), av] w fun e w' => e = .returned (.bool true) ∧ Kept [] w w' := by
  have HTS := Lib.hid (fun (W : World) (hk : Kept [] w W) => trees_any qv ov fv sv tv pv zv P W (hg.keep hk).q.ints)
  have HSM := Lib.hid (fun (W : World) (hk : Kept [] w W) => small_any qv ov fv sv tv pv zv x r W (hg.keep hk).pr)
  have HIM := Lib.hid (fun (tb : Nat) (W : World) (hk : Kept [] w W) (he : treeErr P = 0) (ht : TreeAt W tb P) => improve_any tb P ov fv sv tv pv av zv x r A S W ht (tree_of he) (hg.keep hk).pr (ha.keep hk) (hg.keep hk).z)
  have HLN := Lib.hid (fun (tb : Nat) (W : World) (ht : TreeAt W tb P) => len_some tb P.length _ W ht)
  have HCL := Lib.hid (fun (W : World) (hk : Kept [] w W) => clonei_any av A W (ha.keep hk).ints)
  have HTR : Hid (∀ (tb : Nat) (v : Value) (L : List Int) (W : World), Kept [] w W → treeErr P = 0 → TreeAt W tb P → Rds (Rk.int .i64) W v L → Good P x r S L → Calls Try.prog 17 #[.pointer (some ⟨tb, 0, none⟩), .agg #[ov, fv], .agg #[sv, tv, pv], v, zv] W fun e w' => e = .returned (.tuple #[.int .i64 (trafV P x r L S), .int .i64 0]) ∧ Kept [] W w') := fun tb v L W hk he ht hv hG => by
    have h2 := (hg.keep hk).pr
    have := traffic_any tb P ov fv sv tv pv v zv x r L S W ht (tree_of he) h2.o h2.f h2.F h2.s h2.t h2.p hv.ints hv (hg.keep hk).z.ints (hg.keep hk).z
    rwa [hG.model] at this
  have HGA : Hid (treeErr P = 0 → lookE P x r A S 0 = 0 → Good P x r S A ∧ A.length = x.1.length ∧ 2 ≤ x.1.length ∧ x.1.length ≤ 32 ∧ 1 ≤ P.length ∧ P.length ≤ 16 ∧ (impV P x r S A).2 ≤ 32 ∧ ((impV P x r S A).2 = 0 → (impV P x r S A).1 = A) ∧
      ((impV P x r S A).2 = 0 → smallB x r = true → ∀ k, k + 1 < x.1.length → ∀ b : Nat, b < P.length → trafV P x r A S ≤ trafV P x r (A.set k (b : Int)) S ∧ Good P x r S (A.set k (b : Int)) ∧ ∀ y ∈ A.set k (b : Int), (Lit.int .i64 y).wf = true)) := fun he hl => by
    have hT := tree_of he
    have hG := (lookE_zero hl).1
    have hf := hG.facts
    unfold impV
    rw [if_pos hl]
    refine ⟨hG, hf.2.2.1, hf.1, hf.2.1, hT.pos, hT.le, ?_, fun h0 => (imp_none _ h0).1, fun h0 hs k hk b hb => ?_⟩
    · have := impG_moved (P := P) (x := x) (r := r) (S := S) (A := A) x.1.length
      omega
    · have hp := hG.put hk (show inB P.length (b : Int) by unfold inB; omega)
      exact ⟨settled_law hT hG (smallB_is hs) h0 k hk b hb, hp, hp.wf hT⟩
  obtain ⟨et, het⟩ : ∃ et, treeErr P = et := ⟨_, rfl⟩
  rw [het] at HTS HIM HTR HGA
  obtain ⟨E, hE⟩ : ∃ E, lookE P x r A S 0 = E := ⟨_, rfl⟩
  rw [hE] at HIM HGA
  obtain ⟨q, hq⟩ : ∃ q, impV P x r S A = q := ⟨_, rfl⟩
  rw [hq] at HIM HGA
  obtain ⟨L, m⟩ := q
  obtain ⟨sb, hsb⟩ : ∃ b, smallB x r = b := ⟨_, rfl⟩
  rw [hsb] at HSM HGA
  dsimp only at HGA
  obtain ⟨c0, hc0⟩ : ∃ c, trafV P x r A S = c := ⟨_, rfl⟩
  rw [hc0] at HGA
  have HC0 := Lib.hid hc0
  obtain ⟨n, hn⟩ : ∃ n, x.1.length = n := ⟨_, rfl⟩
  obtain ⟨np, hnp⟩ : ∃ np, P.length = np := ⟨_, rfl⟩
  rw [hn, hnp] at HGA
  rw [hnp] at HLN
  have HAV := Lib.hid ha
  obtain ⟨AA, ac, rfl, hmA⟩ := ha.form
  obtain ⟨na, hna⟩ : ∃ n, A.length = n := ⟨_, rfl⟩
  rw [hna] at HIM HAV HCL HGA ⊢
  have HNA := Lib.hid hna
  clear het hE hq hsb hc0 hn hnp ha hg hna hmA
  have HK0 := Lib.hid ((Kept.refl [] w).alloc (.cells (grC qv ov fv sv tv pv zv) 31))
  have HB := Lib.hid (Blk.new w (grC qv ov fv sv tv pv zv) 31)
  go_enter Try.func5, Try.ntmps5
  go_wp2_with fail
  obtain ⟨w0, hw0⟩ : ∃ w0, w.alloc (.cells (grC qv ov fv sv tv pv zv) 31) = w0 := ⟨_, rfl⟩
  rw [hw0] at HK0 HB ⊢
  clear hw0
  obtain ⟨a0, a1, a2, a3, a4, a5, a6⟩ := gr_cells HB.out
  refine (HTS.out _ HK0.out).mono ?_
  rintro e w1 ⟨k1, h1⟩
  have HK1 := Lib.hid k1
  clear k1 a0 a1 a2 a3 a4 a5 a6
  rcases h1 with ⟨hE, rfl⟩ | ⟨rfl, tb, rb, tvv, rfl, hta, -⟩
  · go_wp2_with fail
    refine (live_any _).mono ?_
    rintro e w2 ⟨rfl, k2⟩
    have HK2 := Lib.hid (HK1.out.trans k2)
    clear k2
    go_wp2_with fail
    go_ret
    exact ⟨rfl, HK0.out.trans HK2.out⟩
  · have HT1 := Lib.hid hta
    clear hta
    go_wp2_with fail
    refine (live_any _).mono ?_
    rintro e w2 ⟨rfl, k2⟩
    have HK2 := Lib.hid (HK1.out.trans k2)
    have HT2 := Lib.hid (HT1.out.keep k2)
    clear k2
    obtain ⟨a0, a1, a2, a3, a4, a5, a6⟩ := gr_cells (HB.out.kept HK2.out (by simp))
    go_wp2_with fail
    refine (HIM.out _ _ (HK0.out.trans HK2.out) (by first | trivial | rfl) HT2.out).mono ?_
    rintro e w3 ⟨v3, rfl, hv3, kq⟩
    dsimp only at hv3 ⊢
    have HV3 := Lib.hid hv3
    have HT3 := Lib.hid (HT2.out.keep kq)
    clear hv3
    have HK3 := Lib.hid (HK2.out.trans kq)
    clear kq a0 a1 a2 a3 a4 a5 a6
    obtain ⟨a0, a1, a2, a3, a4, a5, a6⟩ := gr_cells (HB.out.kept HK3.out (by simp))
    by_cases h1 : E = 0
    · subst h1
      obtain ⟨gA, hnn, hn2, hn32, hp1, hp16, hm32, hLA, hlaw⟩ := HGA.out (by first | trivial | rfl) rfl
      subst hnn
      have HgA := Lib.hid gA
      have HLA := Lib.hid hLA
      have HLAW := Lib.hid hlaw
      clear gA hLA hlaw HGA
      by_cases hm : m = 0
      · subst hm
        have HL0 : Hid (L = A) := HLA.out rfl
        have hm0 : decide ((0 : Int) < ((0 : Nat) : Int)) = false := rfl
        go_wp2_with fail
        refine (HSM.out _ (HK0.out.trans HK3.out)).mono ?_
        rintro e w4 ⟨rfl, kq⟩
        have HT4 := Lib.hid (HT3.out.keep kq)
        have HV4 : Hid (Rds (Rk.int .i64) w4 v3 A) := by have := HV3.out.keep kq; rwa [HL0.out] at this
        have HK4 := Lib.hid (HK3.out.trans kq)
        clear kq a0 a1 a2 a3 a4 a5 a6
        obtain ⟨a0, a1, a2, a3, a4, a5, a6⟩ := gr_cells (HB.out.kept HK4.out (by simp))
        cases sb with
        | false =>
          go_wp2_with fail
          refine (equal_kepts _ _ _ _ HV4.out.ints (HAV.out.keep (HK0.out.trans HK4.out)).ints).mono ?_
          rintro e w5 ⟨rfl, kq⟩
          have HK5 := Lib.hid (HK4.out.trans kq)
          clear kq a0 a1 a2 a3 a4 a5 a6
          go_wp2_with fail
          go_ret
          exact ⟨rfl, HK0.out.trans HK5.out⟩
        | true =>
          have HLW := Lib.hid (HLAW.out (by first | trivial | rfl) (by first | trivial | rfl))
          go_wp2_with fail
          refine (HTR.out tb _ A _ (HK0.out.trans HK4.out) (by first | trivial | rfl) HT4.out (HAV.out.keep (HK0.out.trans HK4.out)) HgA.out).mono ?_
          rintro e w5 ⟨rfl, kq⟩
          have HT5 := Lib.hid (HT4.out.keep kq)
          have HV5 := Lib.hid (HV4.out.keep kq)
          have HK5 := Lib.hid (HK4.out.trans kq)
          clear kq a0 a1 a2 a3 a4 a5 a6
          obtain ⟨a0, a1, a2, a3, a4, a5, a6⟩ := gr_cells (HB.out.kept HK5.out (by simp))
          rw [HC0.out]
          go_wp2_with fail
          refine (equal_kepts _ _ _ _ HV5.out.ints (HAV.out.keep (HK0.out.trans HK5.out)).ints).mono ?_
          rintro e w6 ⟨rfl, kq⟩
          have HT6 := Lib.hid (HT5.out.keep kq)
          have HK6 := Lib.hid (HK5.out.trans kq)
          clear kq a0 a1 a2 a3 a4 a5 a6
          obtain ⟨n1, hn1⟩ : ∃ n1, na = n1 + 1 := ⟨na - 1, by omega⟩
          subst hn1
          go_wp2_with fail
          go_loopw [88] (fun ii wr => ∃ (k : Nat), k ≤ n1 ∧ ii = .int .i64 k ∧ Kept [] w6 wr) (fun ii _ => n1 - (intOf ii).toNat)
          case atStart => exact ⟨0, by omega, rfl, Kept.refl _ _⟩
          case round =>
            obtain ⟨k, hk, rfl, hK⟩ := hrel
            have HK := Lib.hid hK
            clear hK
            by_cases hlt : k < n1
            · have hlt' : decide ((k : Int) < ((n1 + 1 : Nat) : Int) - 1) = true := by simp; omega
              go_wp2_with fail
              refine (HLN.out tb _ (HT6.out.keep HK.out)).mono ?_
              rintro e w7 ⟨rfl, rfl⟩
              go_wp2_with fail
              go_loopw [93] (fun ii w7 => ∃ (b : Nat), b ≤ np ∧ ii = .int .i64 b ∧ Kept [] w6 w7) (fun ii _ => np - (intOf ii).toNat)
              case atStart => exact ⟨0, by omega, rfl, HK.out⟩
              case round =>
                obtain ⟨b, hb, rfl, hK⟩ := hrel
                have HKr := Lib.hid hK
                have hsr := hK.size
                clear hK
                by_cases hlb : b < np
                · obtain ⟨hle, hgd, hwf⟩ := HLW.out k (by omega) b hlb
                  obtain ⟨c, hc⟩ : ∃ c, trafV P x r (A.set k (b : Int)) S = c := ⟨_, rfl⟩
                  rw [hc] at hle
                  have HC := Lib.hid hc
                  have HGD := Lib.hid hgd
                  have HWF := Lib.hid hwf
                  have hnl : decide (c < c0) = false := by simp; omega
                  clear hc hgd hwf hle
                  go_wp2_with fail
                  refine (HCL.out _ (HK0.out.trans (HK6.out.trans HKr.out)) (by omega)).mono ?_
                  rintro e w8 ⟨v8, rfl, o8, k8⟩
                  rw [HNA.out] at o8
                  obtain ⟨g8, c8, rfl, hc81, hc82⟩ := own_some o8 (by omega)
                  have f8 := o8.frozenAt k
                  obtain ⟨u8, hu8⟩ : ∃ u8, A[k]? = some u8 := ⟨_, List.getElem?_eq_getElem (by rw [HNA.out]; omega)⟩
                  have e8 : w8.cell? ⟨g8, k, none⟩ = some (.int .i64 u8) := by rw [o8.cellAt k (by omega), List.getElem?_map, hu8]; rfl
                  clear hu8
                  have HO9 := Lib.hid ((o8.stored k (.int .i64 (b : Int))).1)
                  have hge8 := (o8.lt g8 rfl).1
                  have HK89 : Hid (Kept [] w6 (w8.setCell ⟨g8, k, none⟩ (.int .i64 (b : Int)))) := (HKr.out.trans k8).setCell (.inr (by show _ ≤ g8; omega)) _
                  clear o8 k8
                  have HRD9 : Hid (Rds (Rk.int .i64) (w8.setCell ⟨g8, k, none⟩ (.int .i64 (b : Int))) (.slice (some ⟨g8, 0, none⟩) (n1 + 1) c8) (A.set k (b : Int))) := by
                    have h9 := HO9.out
                    rw [← List.map_set] at h9
                    exact rds_own h9 (by rw [List.length_set]; exact HNA.out.symm) HWF.out
                  have HB9 : Hid (Blk (w8.setCell ⟨g8, k, none⟩ (.int .i64 (b : Int))) w.heap.size (grC qv ov fv sv tv pv zv) 31) := HB.out.kept (HK6.out.trans HK89.out) (by simp)
                  obtain ⟨a0, a1, a2, a3, a4, a5, a6⟩ := gr_cells HB9.out
                  have hk1 : k < n1 + 1 := by omega
                  have hk1' : (k : Int) < ((n1 + 1 : Nat) : Int) := by omega
                  have hk0' : (0 : Int) ≤ (k : Int) := by omega
                  go_wp2_with fail
                  refine (HTR.out tb _ _ _ (HK0.out.trans (HK6.out.trans HK89.out)) (by first | trivial | rfl) (HT6.out.keep HK89.out) HRD9.out HGD.out).mono ?_
                  rintro e w9 ⟨rfl, k9⟩
                  rw [HC.out]
                  have HK9 := Lib.hid (HK89.out.trans k9)
                  clear k9 a0 a1 a2 a3 a4 a5 a6
                  go_wp2_with fail
                  go_roundw
                  case rel => exact ⟨b + 1, by omega, by go_num, HK9.out⟩
                  case measure => simp [intOf]; omega
                · have hbn : b = np := by omega
                  subst hbn
                  go_wp2_with fail
                  go_roundw
                  case rel => exact ⟨k + 1, by omega, by go_num, HKr.out⟩
                  case measure => simp [intOf]; omega
            · have hkn : k = n1 := by omega
              subst hkn
              have hlt' : decide ((k : Int) < ((k + 1 : Nat) : Int) - 1) = false := by simp
              go_wp2_with fail
              go_ret
              exact ⟨rfl, HK0.out.trans (HK6.out.trans HK.out)⟩
      · have hm0 : decide ((0 : Int) < ((m : Nat) : Int)) = true := by simp; omega
        have hm1 : 0 < m := by omega
        go_wp2_with fail
        go_ret
        exact ⟨rfl, HK0.out.trans HK3.out⟩
    · have h1' : (E != 0) = true := by rw [bne_iff_ne]; exact h1
      go_wp2_with fail
      go_ret
      exact ⟨rfl, HK0.out.trans HK3.out⟩
theorem placeSettled_any (w : World) (v : Array Value) (g : GroundD) (wg : groundR.K w g v.toList) (bg : groundW g + 1 ≤ 1048576) (A : Option Addr) (n cap : Nat) (T : List Int) (wT : (Rk.slice (Rk.int .i64)).K w T [.slice A n cap]) :
    Calls Try.prog 5 #[.agg v, .slice A n cap] w fun e w' => e = .returned (.bool true) ∧ Below w.heap.size w w' := by
  obtain ⟨qv, ov, fv, sv, tv, pv, zv, rfl, hg⟩ := ground_reads wg bg
  obtain ⟨v1, he1, h1⟩ := intsR_cells wT
  simp only [List.cons.injEq, and_true] at he1
  subst he1
  exact (settled_any qv ov fv sv tv pv zv _ _ _ _ _ T w hg h1).mono fun e w' h => ⟨h.1, h.2.below⟩

end Go.Proofs.Ytbaifjdealmckaa
