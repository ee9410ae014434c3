/- The program's model of a placing, made. -/
import Derived.Test.YtiiiflckphgdiaaM1
set_option linter.unusedVariables false
set_option linter.unusedSimpArgs false
set_option linter.unnecessarySimpa false
namespace Go.Proofs.Ytiiiflckphgdiaa
open Go.RowKit Go.Shelf Tr
attribute [local go_sem] Oper.semAt_some

/-- What is wrong with a placing. -/
def placeE (la n ls ns : Nat) (qa qs : Bool) : Int := if decide (la = n) && (decide (ls = ns) && (!qa && !qs)) then 0 else 1
def modelE (np : Nat) (x : PlanD) (r : RatesD) (A S : List Int) : Int :=
  if checkE x r = 0 then placeE A.length x.1.length S.length r.1.length (A.any (outB np)) (S.any (outB np)) else checkE x r
def ModelPost (w : World) (b : Nat) (E : Int) (O : List Int) (xo xf rs rt rp av sv : Value) : Ending → World → Prop := fun e w' => Kept [] w w' ∧
  ((E ≠ 0 ∧ e = .returned (.tuple #[.pointer none, .int .i64 E])) ∨
   (E = 0 ∧ ∃ mb ov, e = .returned (.tuple #[.pointer (some ⟨mb, 0, none⟩), .int .i64 0]) ∧ w.heap.size ≤ mb ∧ Blk w' mb (mdC b xo xf rs rt rp av sv ov) 105 ∧ RdI w' .i64 ov O))

theorem newmodel_nil (xv rv av sv : Value) (xo xf rs rt rp : Value) (w : World) (hx : xv = .agg #[xo, xf]) (hr : rv = .agg #[rs, rt, rp]) :
    Calls Try.prog 48 #[.pointer none, xv, rv, av, sv] w fun e w' => e = .returned (.tuple #[.pointer none, .int .i64 2]) ∧ Kept [] w w' := by
  subst hx hr
  have HK := Lib.hid (((Kept.refl [] w).alloc (.cells #[xo, xf] 30)).alloc (.cells #[rs, rt, rp] 32))
  go_enter Try.func48, Try.ntmps48
  go_wp2_with fail
  refine (len_nil _).mono ?_
  rintro e w' ⟨rfl, rfl⟩
  go_wp2_with fail
  go_ret2
  exact ⟨rfl, HK.out⟩

set_option maxRecDepth 100000 in
set_option maxHeartbeats 4000000 in
theorem newmodel_any (b : Nat) (P : List Int) (ov fv sv tv pv av zv : Value) (x : PlanD) (r : RatesD) (A S : List Int) (w : World) (hT : TreeAt w b P) (hP : 1 ≤ P.length)
    (ho : Rds opR w ov x.1) (hf : Rds intsR w fv x.2) (hF : fromLen x.2 ≤ 1048576) (hs : RdI w .i64 sv r.1) (ht : RdI w .i64 tv r.2.1) (hp : RdI w .i64 pv r.2.2)
    (ha : RdI w .i64 av A) (har : Rds (Rk.int .i64) w av A) (hz : RdI w .i64 zv S) (hzr : Rds (Rk.int .i64) w zv S) :
    Calls Try.prog 48 #[.pointer (some ⟨b, 0, none⟩), .agg #[ov, fv], .agg #[sv, tv, pv], av, zv] w (ModelPost w b (modelE P.length x r A S) (outV x r) ov fv sv tv pv av zv) := by
  have HOC := Lib.hid (fun (W : World) (hk : Kept [] w W) => out_any ov fv sv tv pv x r W (ho.keep hk) (hf.keep hk) hF (hs.keep hk) (ht.keep hk) (hp.keep hk))
  have HLC := Lib.hid (fun (W : World) (hk : Kept [] w W) => len_some b P.length _ W (hT.keep hk))
  have HAC := Lib.hid (fun (W : World) (hk : Kept [] w W) => broker_any b P av A W (hT.keep hk) (ha.keep hk) (har.keep hk))
  have HZC := Lib.hid (fun (W : World) (hk : Kept [] w W) => broker_any b P zv S W (hT.keep hk) (hz.keep hk) (hzr.keep hk))
  obtain ⟨A1, c, rfl, hmA⟩ := ho.form
  obtain ⟨B, d, rfl, hmB⟩ := hf.form
  obtain ⟨SA, sc, rfl, hmS, -⟩ := hs
  obtain ⟨TA, tc, rfl, hmT, -⟩ := ht
  obtain ⟨PA, pc, rfl, hmP, -⟩ := hp
  obtain ⟨AA, ac, rfl, hmAA, -⟩ := ha
  obtain ⟨ZA, zc, rfl, hmZ, -⟩ := hz
  obtain ⟨E, hEE⟩ : ∃ E, modelE P.length x r A S = E := ⟨_, rfl⟩
  rw [hEE]
  unfold modelE at hEE
  have HO := Lib.hid (rfl : (if checkE x r = 0 then outV x r else []) = (if checkE x r = 0 then outV x r else []))
  obtain ⟨ec, hec⟩ : ∃ ec, checkE x r = ec := ⟨_, rfl⟩
  rw [hec] at HOC hEE
  obtain ⟨O, hO⟩ : ∃ O, outV x r = O := ⟨_, rfl⟩
  rw [hO] at HOC ⊢
  obtain ⟨qa, hqa⟩ : ∃ qa, A.any (outB P.length) = qa := ⟨_, rfl⟩
  obtain ⟨qs, hqs⟩ : ∃ qs, S.any (outB P.length) = qs := ⟨_, rfl⟩
  rw [hqa] at HAC hEE
  rw [hqs] at HZC hEE
  obtain ⟨n, hn⟩ : ∃ n, x.1.length = n := ⟨_, rfl⟩
  obtain ⟨m, hm⟩ : ∃ m, x.2.length = m := ⟨_, rfl⟩
  obtain ⟨ns, hns⟩ : ∃ ns, r.1.length = ns := ⟨_, rfl⟩
  obtain ⟨nt, hnt⟩ : ∃ nt, r.2.1.length = nt := ⟨_, rfl⟩
  obtain ⟨np, hnp⟩ : ∃ np, r.2.2.length = np := ⟨_, rfl⟩
  obtain ⟨la, hla⟩ : ∃ la, A.length = la := ⟨_, rfl⟩
  obtain ⟨ls, hls⟩ : ∃ ls, S.length = ls := ⟨_, rfl⟩
  obtain ⟨k, hk⟩ : ∃ k, P.length = k := ⟨_, rfl⟩
  rw [hn] at hmA HOC hEE ⊢
  rw [hm] at hmB HOC ⊢
  simp only [hns] at hmS HOC hEE ⊢
  simp only [hnt] at hmT HOC ⊢
  simp only [hnp] at hmP HOC ⊢
  rw [hla] at hmAA HAC hEE ⊢
  rw [hls] at hmZ HZC hEE ⊢
  rw [hk] at HLC hP
  have HE := Lib.hid hEE
  have hk0 : ((k : Int) == 0) = false := by simp; omega
  clear hn hm hns hnt hnp hla hls hk hec hO hqa hqs hEE hF ho hf hT HO har hzr
  have HK0 := Lib.hid (((Kept.refl [] w).alloc (.cells #[.slice A1 n c, .slice B m d] 30)).alloc (.cells #[.slice SA ns sc, .slice TA nt tc, .slice PA np pc] 32))
  have HB0 : Hid (Blk ((w.alloc (.cells #[.slice A1 n c, .slice B m d] 30)).alloc (.cells #[.slice SA ns sc, .slice TA nt tc, .slice PA np pc] 32)) w.heap.size #[.slice A1 n c, .slice B m d] 30) := (Blk.new w _ _).alloc _
  have HB1 : Hid (Blk ((w.alloc (.cells #[.slice A1 n c, .slice B m d] 30)).alloc (.cells #[.slice SA ns sc, .slice TA nt tc, .slice PA np pc] 32)) (w.heap.size + 1) #[.slice SA ns sc, .slice TA nt tc, .slice PA np pc] 32) := by
    have := Blk.new (w.alloc (.cells #[.slice A1 n c, .slice B m d] 30)) #[.slice SA ns sc, .slice TA nt tc, .slice PA np pc] 32
    rwa [show (w.alloc (.cells #[.slice A1 n c, .slice B m d] 30)).heap.size = w.heap.size + 1 by simp] at this
  go_enter Try.func48, Try.ntmps48
  go_wp2_with fail
  obtain ⟨w0, hw0⟩ : ∃ w0, (w.alloc (.cells #[.slice A1 n c, .slice B m d] 30)).alloc (.cells #[.slice SA ns sc, .slice TA nt tc, .slice PA np pc] 32) = w0 := ⟨_, rfl⟩
  rw [hw0] at HK0 HB0 HB1 ⊢
  clear hw0
  have HBX : Hid (∀ W, Kept [] w0 W → W.cell? ⟨w.heap.size, 0, none⟩ = some (.slice A1 n c) ∧ W.cell? ⟨w.heap.size, 1, none⟩ = some (.slice B m d) ∧ W.cell? ⟨w.heap.size + 1, 0, none⟩ = some (.slice SA ns sc) ∧ W.cell? ⟨w.heap.size + 1, 1, none⟩ = some (.slice TA nt tc) ∧ W.cell? ⟨w.heap.size + 1, 2, none⟩ = some (.slice PA np pc)) := fun W hW => ⟨((HB0.out.kept hW (by simp)).cell 0).trans rfl, ((HB0.out.kept hW (by simp)).cell 1).trans rfl, ((HB1.out.kept hW (by simp)).cell 0).trans rfl, ((HB1.out.kept hW (by simp)).cell 1).trans rfl, ((HB1.out.kept hW (by simp)).cell 2).trans rfl⟩
  refine (HLC.out _ HK0.out).mono ?_
  rintro e w' ⟨rfl, rfl⟩
  obtain ⟨x0, x1, r0, r1, r2⟩ := HBX.out _ (Kept.refl [] w0)
  go_wp2_with fail
  refine (HOC.out _ HK0.out).mono ?_
  rintro e w1 ⟨v1, rfl, o1, k1⟩
  obtain ⟨OA, oc, rfl⟩ := own_len o1
  have HR1 := Lib.hid (RdI.of_own o1).1
  have HK1 := Lib.hid k1
  have HK01 := Lib.hid (HK0.out.trans k1)
  clear x0 x1 r0 r1 r2
  obtain ⟨x0, x1, r0, r1, r2⟩ := HBX.out _ HK1.out
  clear o1 k1
  by_cases hz : ec = 0
  · subst hz
    rw [if_pos rfl] at HE HR1
    rw [if_pos rfl]
    by_cases h1 : la = n
    · subst h1
      by_cases h2 : ls = ns
      · subst h2
        go_wp2_with fail
        refine (HAC.out _ HK01.out).mono ?_
        rintro e w2 ⟨rfl, k2⟩
        have HK2 := Lib.hid (HK01.out.trans k2)
        have HR2 := Lib.hid (HR1.out.keep k2)
        clear x0 x1 r0 r1 r2
        obtain ⟨x0, x1, r0, r1, r2⟩ := HBX.out _ (HK1.out.trans k2)
        have HK12 := Lib.hid (HK1.out.trans k2)
        clear k2
        cases qa with
        | true =>
          have hE : Hid (E = 1) := by show _ = _; rw [← HE.out]; simp [placeE]
          go_wp2_with fail
          go_ret2
          exact ⟨HK2.out, .inl ⟨by rw [hE.out]; decide, by rw [hE.out]; rfl⟩⟩
        | false =>
          rw [show (!false) = true from rfl]
          go_wp2_with fail
          refine (HZC.out _ HK2.out).mono ?_
          rintro e w3 ⟨rfl, k3⟩
          have HK3 := Lib.hid (HK2.out.trans k3)
          have HR3 := Lib.hid (HR2.out.keep k3)
          clear x0 x1 r0 r1 r2
          obtain ⟨x0, x1, r0, r1, r2⟩ := HBX.out _ (HK12.out.trans k3)
          clear k3
          cases qs with
          | true =>
            have hE : Hid (E = 1) := by show _ = _; rw [← HE.out]; simp [placeE]
            go_wp2_with fail
            go_ret2
            exact ⟨HK3.out, .inl ⟨by rw [hE.out]; decide, by rw [hE.out]; rfl⟩⟩
          | false =>
            rw [show (!false) = true from rfl]
            have hE : Hid (E = 0) := by show _ = _; rw [← HE.out]; simp [placeE]
            go_wp2_with fail
            go_ret2
            exact ⟨HK3.out.alloc _, .inr ⟨hE.out, _, _, rfl, HK3.out.size, Blk.new _ _ _, HR3.out.keep ((Kept.refl [] _).alloc _)⟩⟩
      · have h2' : ((ls : Int) != (ns : Int)) = true := by rw [bne_iff_ne]; omega
        have hE : Hid (E = 1) := by show _ = _; rw [← HE.out]; simp [placeE, h2]
        go_wp2_with fail
        go_ret2
        exact ⟨HK01.out, .inl ⟨by rw [hE.out]; decide, by rw [hE.out]; rfl⟩⟩
    · have h1' : ((la : Int) != (n : Int)) = true := by rw [bne_iff_ne]; omega
      have hE : Hid (E = 1) := by show _ = _; rw [← HE.out]; simp [placeE, h1]
      go_wp2_with fail
      go_ret2
      exact ⟨HK01.out, .inl ⟨by rw [hE.out]; decide, by rw [hE.out]; rfl⟩⟩
  · have hE : Hid (E = ec) := by show _ = _; rw [← HE.out, if_neg hz]
    have hz' : (ec != 0) = true := by simpa using hz
    go_wp2_with fail
    go_ret2
    exact ⟨HK01.out, .inl ⟨by rw [hE.out]; exact hz, by rw [hE.out]; rfl⟩⟩

end Go.Proofs.Ytiiiflckphgdiaa
