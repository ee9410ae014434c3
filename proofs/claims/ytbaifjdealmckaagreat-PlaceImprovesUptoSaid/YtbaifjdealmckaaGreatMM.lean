/- Texts put together: M1, M2, M4, M5, M6, M8, M10, M12, M13, M14, M15, M16, M17. -/
import Derived.Deep.RegionHeld3
import Derived.Test.YtbaifjdealmckaaGreatRows
import Derived.WalkKit
import Derived.WalkSpells
import Derived.WalkLawsBesides
import Derived.Deep.QuietTactic
import Derived.BigQuiet
import Derived.Lib.Hide
import Derived.BigRegion
import Derived.Shelf.Abstract
import Derived.Lib.ConvBytes
import Derived.Deep.AppendLies
import Derived.Deep.DrawnRows
import Derived.Deep.DeepCutAuto
import Derived.Deep.CutBlock
import Derived.Laws.EntriesVeiled
import Derived.Laws.CopyRow
import Derived.Laws.MakeOwn
import Derived.Deep.RegionLaw
import Derived.Laws.OwnMore
import Derived.StillTailTactics
import Derived.Laws.AppendOwnNone
import Derived.Deep.Slices
import Derived.ProofKit
import Derived.SizedLaws
import Derived.Lib.MinMax
import Derived.Deep.RegionWith
import Derived.Deep.DeepMust
import Derived.Maps.AppendAt
import Derived.Test.YtbaifjdealmckaaGreatP24
import Derived.Test.YtbaifjdealmckaaGreatP26
import Derived.Test.YtbaifjdealmckaaGreatP32
import Derived.Test.YtbaifjdealmckaaGreatTT
/- The program's model of a placing: which are brokers; what a way costs. -/
set_option linter.unusedVariables false
set_option linter.unusedSimpArgs false
set_option linter.unnecessarySimpa false
namespace Go.Proofs.YtbaifjdealmckaaGreat
open Go.RowKit Go.Shelf Tr
attribute [local go_sem] Oper.semAt_some

def outB (n : Nat) (i : Int) : Bool := decide (i < 0) || decide ((n : Int) ≤ i)
theorem TreeAt.keep {w w' : World} {b : Nat} {P : List Int} (h : TreeAt w b P) (k : Kept [] w w') : TreeAt w' b P := RawAt.keep h k
theorem TreeAt.lt {w : World} {b : Nat} {P : List Int} (h : TreeAt w b P) : b < w.heap.size := h.2.2.lt

set_option maxHeartbeats 1000000 in
theorem broker1_any (bx b : Nat) (P : List Int) (i : Int) (w : World) (h : TreeAt w b P) (hb : w.cell? ⟨bx, 0, none⟩ = some (.pointer (some ⟨b, 0, none⟩))) :
    Calls Tryz.prog 66 #[.int .i64 i, .pointer (some ⟨bx, 0, none⟩)] w fun e w' => e = .returned (.bool (outB P.length i)) ∧ w = w' := by
  by_cases h1 : i < 0
  · have e1 : outB P.length i = true := by unfold outB; simp [h1]
    rw [e1]
    clear e1
    go_enter Tryz.func66, Tryz.ntmps66
    go_wp2_with fail
    go_ret
    exact ⟨rfl, rfl⟩
  · have HE : Hid (outB P.length i = decide ((P.length : Int) ≤ i)) := by show _ = _; unfold outB; simp [h1]
    rw [HE.out]
    have HL := Lib.hid (len_some b P.length _ w h)
    clear h
    obtain ⟨n, hn⟩ : ∃ n, P.length = n := ⟨_, rfl⟩
    rw [hn] at HL ⊢
    clear hn HE
    go_enter Tryz.func66, Tryz.ntmps66
    go_wp2_with fail
    refine HL.out.mono ?_
    rintro e w' ⟨rfl, rfl⟩
    go_wp2_with fail
    go_ret
    exact ⟨rfl, rfl⟩

set_option maxRecDepth 100000 in
set_option maxHeartbeats 1000000 in
theorem broker_any (b : Nat) (P : List Int) (v : Value) (l : List Int) (w : World) (h : TreeAt w b P) (hx : RdI w .i64 v l) (hr : Rds (Rk.int .i64) w v l) :
    Calls Tryz.prog 41 #[.pointer (some ⟨b, 0, none⟩), v] w fun e w' => e = .returned (.bool (!l.any (outB P.length))) ∧ Kept [] w w' := by
  have HC := Lib.hid (fun (W : World) (hk : Kept [] w W) (hb : W.cell? ⟨w.heap.size, 0, none⟩ = some (.pointer (some ⟨b, 0, none⟩))) => contains_ints 66 #[.pointer (some ⟨w.heap.size, 0, none⟩)] (outB P.length) v l W (hr.keep hk) (fun _ _ => rfl)
    (fun W' x _ hk' => (broker1_any w.heap.size b P x W' (h.keep (hk.trans hk')) (hk'.cell (by simp) hb)).mono fun _ w1 ⟨he, hw⟩ => ⟨he, hw ▸ Kept.refl [] W'⟩))
  obtain ⟨A, c, rfl, hmA, -⟩ := hx
  obtain ⟨n, hn⟩ : ∃ n, l.length = n := ⟨_, rfl⟩
  rw [hn] at HC ⊢
  obtain ⟨q, hq⟩ : ∃ q, l.any (outB P.length) = q := ⟨_, rfl⟩
  rw [hq] at HC ⊢
  clear h hr hn hmA hq
  have HK := Lib.hid ((Kept.refl [] w).alloc (.cells #[.pointer (some ⟨b, 0, none⟩)] 32))
  have HB := Lib.hid ((Blk.new w #[.pointer (some ⟨b, 0, none⟩)] 32).cell 0)
  go_enter Tryz.func41, Tryz.ntmps41
  go_wp2_with fail
  refine (HC.out _ HK.out (HB.out.trans rfl)).mono ?_
  rintro e w' ⟨rfl, hk⟩
  have HK2 := Lib.hid (HK.out.trans hk)
  clear hk
  go_wp2_with fail
  go_ret
  exact ⟨rfl, HK2.out⟩

/-- A model's cells. -/
abbrev mdC (b : Nat) (xo xf rs rt rp av sv ov : Value) : Array Value := #[.pointer (some ⟨b, 0, none⟩), xo, xf, rs, rt, rp, av, sv, ov]
def wayV (P : List Int) (n a b : Int) : Int := mulV [n, distG P a b]

set_option maxHeartbeats 1000000 in
theorem way_any (mb b : Nat) (P : List Int) (n a c : Int) (w : World) (h : TreeAt w b P) (hT : Tree P) (hm : w.cell? ⟨mb, 0, none⟩ = some (.pointer (some ⟨b, 0, none⟩))) :
    Calls Tryz.prog 44 #[.pointer (some ⟨mb, 0, none⟩), .int .i64 n, .int .i64 a, .int .i64 c] w fun e w' => e = .returned (.int .i64 (wayV P n a c)) ∧ Kept [] w w' := by
  have HD := Lib.hid (dist_any b P a c w h hT)
  clear h hT
  unfold wayV
  obtain ⟨d, hd⟩ : ∃ d, distG P a c = d := ⟨_, rfl⟩
  rw [hd] at HD ⊢
  clear hd
  obtain ⟨q, hq⟩ : ∃ q, mulV [n, d] = q := ⟨_, rfl⟩
  have HQ := Lib.hid hq
  rw [hq]
  clear hq
  go_enter Tryz.func44, Tryz.ntmps44
  go_wp2_with fail
  refine HD.out.mono ?_
  rintro e w1 ⟨rfl, hk⟩
  have HK := Lib.hid hk
  clear hk
  go_wp2_with fail
  refine (mul_any _ _ _ two_built).mono ?_
  rintro e w2 ⟨rfl, rfl⟩
  rw [HQ.out]
  go_wp2_with fail
  go_ret
  exact ⟨rfl, HK.out.alloc _⟩

end Go.Proofs.YtbaifjdealmckaaGreat

/- The program's model of a placing, made. -/
set_option linter.unusedVariables false
set_option linter.unusedSimpArgs false
set_option linter.unnecessarySimpa false
namespace Go.Proofs.YtbaifjdealmckaaGreat
open Go.RowKit Go.Shelf Tr
attribute [local go_sem] Oper.semAt_some

/-- What is wrong with a placing. -/
def placeE (la n ls ns : Nat) (qa qs : Bool) : Int := if decide (la = n) && (decide (ls = ns) && (!qa && !qs)) then 0 else 1
def modelE (np : Nat) (x : PlanD) (r : RatesD) (A S : List Int) : Int :=
  if checkE x r = 0 then placeE A.length x.1.length S.length r.1.length (A.any (outB np)) (S.any (outB np)) else checkE x r
def ModelPost (w : World) (b : Nat) (E : Int) (O : List Int) (xo xf rs rt rp av sv : Value) : Ending → World → Prop := fun e w' => Kept [] w w' ∧
  ((E ≠ 0 ∧ e = .returned (.tuple #[.pointer none, .int .i64 E])) ∨
   (E = 0 ∧ ∃ mb ov, e = .returned (.tuple #[.pointer (some ⟨mb, 0, none⟩), .int .i64 0]) ∧ w.heap.size ≤ mb ∧ Blk w' mb (mdC b xo xf rs rt rp av sv ov) 103 ∧ RdI w' .i64 ov O))

theorem newmodel_nil (xv rv av sv : Value) (xo xf rs rt rp : Value) (w : World) (hx : xv = .agg #[xo, xf]) (hr : rv = .agg #[rs, rt, rp]) :
    Calls Tryz.prog 40 #[.pointer none, xv, rv, av, sv] w fun e w' => e = .returned (.tuple #[.pointer none, .int .i64 2]) ∧ Kept [] w w' := by
  subst hx hr
  have HK := Lib.hid (((Kept.refl [] w).alloc (.cells #[xo, xf] 26)).alloc (.cells #[rs, rt, rp] 29))
  go_enter Tryz.func40, Tryz.ntmps40
  go_wp2_with fail
  refine (len_nil _).mono ?_
  rintro e w' ⟨rfl, rfl⟩
  go_wp2_with fail
  go_ret2
  exact ⟨rfl, HK.out⟩

set_option maxRecDepth 100000 in
set_option maxHeartbeats 4000000 in
theorem newmodel_any (b : Nat) (P : List Int) (ov fv sv tv pv av zv : Value) (x : PlanD) (r : RatesD) (A S : List Int) (w : World) (hT : TreeAt w b P) (hP : 1 ≤ P.length)
    (ho : Rds opR w ov x.1) (hf : Rds intsR w fv x.2) (hF : fromLen x.2 ≤ 1048576) (hs : RdI w .i64 sv r.1) (ht : RdI w .i64 tv r.2.1) (hp : RdI w .i64 pv r.2.2)
    (ha : RdI w .i64 av A) (har : Rds (Rk.int .i64) w av A) (hz : RdI w .i64 zv S) (hzr : Rds (Rk.int .i64) w zv S) :
    Calls Tryz.prog 40 #[.pointer (some ⟨b, 0, none⟩), .agg #[ov, fv], .agg #[sv, tv, pv], av, zv] w (ModelPost w b (modelE P.length x r A S) (outV x r) ov fv sv tv pv av zv) := by
  have HOC := Lib.hid (fun (W : World) (hk : Kept [] w W) => out_any ov fv sv tv pv x r W (ho.keep hk) (hf.keep hk) hF (hs.keep hk) (ht.keep hk) (hp.keep hk))
  have HLC := Lib.hid (fun (W : World) (hk : Kept [] w W) => len_some b P.length _ W (hT.keep hk))
  have HAC := Lib.hid (fun (W : World) (hk : Kept [] w W) => broker_any b P av A W (hT.keep hk) (ha.keep hk) (har.keep hk))
  have HZC := Lib.hid (fun (W : World) (hk : Kept [] w W) => broker_any b P zv S W (hT.keep hk) (hz.keep hk) (hzr.keep hk))
  obtain ⟨A1, c, rfl, hmA⟩ := ho.form
  obtain ⟨B, d, rfl, hmB⟩ := hf.form
  obtain ⟨SA, sc, rfl, hmS, -⟩ := hs
  obtain ⟨TA, tc, rfl, hmT, -⟩ := ht
  obtain ⟨PA, pc, rfl, hmP, -⟩ := hp
  obtain ⟨AA, ac, rfl, hmAA, -⟩ := ha
  obtain ⟨ZA, zc, rfl, hmZ, -⟩ := hz
  obtain ⟨E, hEE⟩ : ∃ E, modelE P.length x r A S = E := ⟨_, rfl⟩
  rw [hEE]
  unfold modelE at hEE
  have HO := Lib.hid (rfl : (if checkE x r = 0 then outV x r else []) = (if checkE x r = 0 then outV x r else []))
  obtain ⟨ec, hec⟩ : ∃ ec, checkE x r = ec := ⟨_, rfl⟩
  rw [hec] at HOC hEE
  obtain ⟨O, hO⟩ : ∃ O, outV x r = O := ⟨_, rfl⟩
  rw [hO] at HOC ⊢
  obtain ⟨qa, hqa⟩ : ∃ qa, A.any (outB P.length) = qa := ⟨_, rfl⟩
  obtain ⟨qs, hqs⟩ : ∃ qs, S.any (outB P.length) = qs := ⟨_, rfl⟩
  rw [hqa] at HAC hEE
  rw [hqs] at HZC hEE
  obtain ⟨n, hn⟩ : ∃ n, x.1.length = n := ⟨_, rfl⟩
  obtain ⟨m, hm⟩ : ∃ m, x.2.length = m := ⟨_, rfl⟩
  obtain ⟨ns, hns⟩ : ∃ ns, r.1.length = ns := ⟨_, rfl⟩
  obtain ⟨nt, hnt⟩ : ∃ nt, r.2.1.length = nt := ⟨_, rfl⟩
  obtain ⟨np, hnp⟩ : ∃ np, r.2.2.length = np := ⟨_, rfl⟩
  obtain ⟨la, hla⟩ : ∃ la, A.length = la := ⟨_, rfl⟩
  obtain ⟨ls, hls⟩ : ∃ ls, S.length = ls := ⟨_, rfl⟩
  obtain ⟨k, hk⟩ : ∃ k, P.length = k := ⟨_, rfl⟩
  rw [hn] at hmA HOC hEE ⊢
  rw [hm] at hmB HOC ⊢
  simp only [hns] at hmS HOC hEE ⊢
  simp only [hnt] at hmT HOC ⊢
  simp only [hnp] at hmP HOC ⊢
  rw [hla] at hmAA HAC hEE ⊢
  rw [hls] at hmZ HZC hEE ⊢
  rw [hk] at HLC hP
  have HE := Lib.hid hEE
  have hk0 : ((k : Int) == 0) = false := by simp; omega
  clear hn hm hns hnt hnp hla hls hk hec hO hqa hqs hEE hF ho hf hT HO har hzr
  have HK0 := Lib.hid (((Kept.refl [] w).alloc (.cells #[.slice A1 n c, .slice B m d] 26)).alloc (.cells #[.slice SA ns sc, .slice TA nt tc, .slice PA np pc] 29))
  have HB0 : Hid (Blk ((w.alloc (.cells #[.slice A1 n c, .slice B m d] 26)).alloc (.cells #[.slice SA ns sc, .slice TA nt tc, .slice PA np pc] 29)) w.heap.size #[.slice A1 n c, .slice B m d] 26) := (Blk.new w _ _).alloc _
  have HB1 : Hid (Blk ((w.alloc (.cells #[.slice A1 n c, .slice B m d] 26)).alloc (.cells #[.slice SA ns sc, .slice TA nt tc, .slice PA np pc] 29)) (w.heap.size + 1) #[.slice SA ns sc, .slice TA nt tc, .slice PA np pc] 29) := by
    have := Blk.new (w.alloc (.cells #[.slice A1 n c, .slice B m d] 26)) #[.slice SA ns sc, .slice TA nt tc, .slice PA np pc] 29
    rwa [show (w.alloc (.cells #[.slice A1 n c, .slice B m d] 26)).heap.size = w.heap.size + 1 by simp] at this
  go_enter Tryz.func40, Tryz.ntmps40
  go_wp2_with fail
  obtain ⟨w0, hw0⟩ : ∃ w0, (w.alloc (.cells #[.slice A1 n c, .slice B m d] 26)).alloc (.cells #[.slice SA ns sc, .slice TA nt tc, .slice PA np pc] 29) = w0 := ⟨_, rfl⟩
  rw [hw0] at HK0 HB0 HB1 ⊢
  clear hw0
  have HBX : Hid (∀ W, Kept [] w0 W → W.cell? ⟨w.heap.size, 0, none⟩ = some (.slice A1 n c) ∧ W.cell? ⟨w.heap.size, 1, none⟩ = some (.slice B m d) ∧ W.cell? ⟨w.heap.size + 1, 0, none⟩ = some (.slice SA ns sc) ∧ W.cell? ⟨w.heap.size + 1, 1, none⟩ = some (.slice TA nt tc) ∧ W.cell? ⟨w.heap.size + 1, 2, none⟩ = some (.slice PA np pc)) := fun W hW => ⟨((HB0.out.kept hW (by simp)).cell 0).trans rfl, ((HB0.out.kept hW (by simp)).cell 1).trans rfl, ((HB1.out.kept hW (by simp)).cell 0).trans rfl, ((HB1.out.kept hW (by simp)).cell 1).trans rfl, ((HB1.out.kept hW (by simp)).cell 2).trans rfl⟩
  refine (HLC.out _ HK0.out).mono ?_
  rintro e w' ⟨rfl, rfl⟩
  obtain ⟨x0, x1, r0, r1, r2⟩ := HBX.out _ (Kept.refl [] w0)
  go_wp2_with fail
  refine (HOC.out _ HK0.out).mono ?_
  rintro e w1 ⟨v1, rfl, o1, k1⟩
  obtain ⟨OA, oc, rfl⟩ := own_len o1
  have HR1 := Lib.hid (RdI.of_own o1).1
  have HK1 := Lib.hid k1
  have HK01 := Lib.hid (HK0.out.trans k1)
  clear x0 x1 r0 r1 r2
  obtain ⟨x0, x1, r0, r1, r2⟩ := HBX.out _ HK1.out
  clear o1 k1
  by_cases hz : ec = 0
  · subst hz
    rw [if_pos rfl] at HE HR1
    rw [if_pos rfl]
    by_cases h1 : la = n
    · subst h1
      by_cases h2 : ls = ns
      · subst h2
        go_wp2_with fail
        refine (HAC.out _ HK01.out).mono ?_
        rintro e w2 ⟨rfl, k2⟩
        have HK2 := Lib.hid (HK01.out.trans k2)
        have HR2 := Lib.hid (HR1.out.keep k2)
        clear x0 x1 r0 r1 r2
        obtain ⟨x0, x1, r0, r1, r2⟩ := HBX.out _ (HK1.out.trans k2)
        have HK12 := Lib.hid (HK1.out.trans k2)
        clear k2
        cases qa with
        | true =>
          have hE : Hid (E = 1) := by show _ = _; rw [← HE.out]; simp [placeE]
          go_wp2_with fail
          go_ret2
          exact ⟨HK2.out, .inl ⟨by rw [hE.out]; decide, by rw [hE.out]; rfl⟩⟩
        | false =>
          rw [show (!false) = true from rfl]
          go_wp2_with fail
          refine (HZC.out _ HK2.out).mono ?_
          rintro e w3 ⟨rfl, k3⟩
          have HK3 := Lib.hid (HK2.out.trans k3)
          have HR3 := Lib.hid (HR2.out.keep k3)
          clear x0 x1 r0 r1 r2
          obtain ⟨x0, x1, r0, r1, r2⟩ := HBX.out _ (HK12.out.trans k3)
          clear k3
          cases qs with
          | true =>
            have hE : Hid (E = 1) := by show _ = _; rw [← HE.out]; simp [placeE]
            go_wp2_with fail
            go_ret2
            exact ⟨HK3.out, .inl ⟨by rw [hE.out]; decide, by rw [hE.out]; rfl⟩⟩
          | false =>
            rw [show (!false) = true from rfl]
            have hE : Hid (E = 0) := by show _ = _; rw [← HE.out]; simp [placeE]
            go_wp2_with fail
            go_ret2
            exact ⟨HK3.out.alloc _, .inr ⟨hE.out, _, _, rfl, HK3.out.size, Blk.new _ _ _, HR3.out.keep ((Kept.refl [] _).alloc _)⟩⟩
      · have h2' : ((ls : Int) != (ns : Int)) = true := by rw [bne_iff_ne]; omega
        have hE : Hid (E = 1) := by show _ = _; rw [← HE.out]; simp [placeE, h2]
        go_wp2_with fail
        go_ret2
        exact ⟨HK01.out, .inl ⟨by rw [hE.out]; decide, by rw [hE.out]; rfl⟩⟩
    · have h1' : ((la : Int) != (n : Int)) = true := by rw [bne_iff_ne]; omega
      have hE : Hid (E = 1) := by show _ = _; rw [← HE.out]; simp [placeE, h1]
      go_wp2_with fail
      go_ret2
      exact ⟨HK01.out, .inl ⟨by rw [hE.out]; decide, by rw [hE.out]; rfl⟩⟩
  · have hE : Hid (E = ec) := by show _ = _; rw [← HE.out, if_neg hz]
    have hz' : (ec != 0) = true := by simpa using hz
    go_wp2_with fail
    go_ret2
    exact ⟨HK01.out, .inl ⟨by rw [hE.out]; exact hz, by rw [hE.out]; rfl⟩⟩

end Go.Proofs.YtbaifjdealmckaaGreat

/- What an operator's inputs cost, if it stands at a broker: the program's in. -/
set_option linter.unusedVariables false
set_option linter.unusedSimpArgs false
set_option linter.unnecessarySimpa false
namespace Go.Proofs.YtbaifjdealmckaaGreat
open Go.RowKit Go.Shelf Tr
attribute [local go_sem] Oper.semAt_some

def srcV (P : List Int) (h : Int) : List Int → List Int → List Int
  | n :: ns, a :: ys => wayV P n a h :: srcV P h ns ys
  | _, _ => []
theorem srcV_le (P : List Int) (h : Int) : ∀ (a b : List Int), (srcV P h a b).length ≤ b.length
  | n :: ns, a :: ys => by have := srcV_le P h ns ys; simp [srcV]; omega
  | [], b => by simp [srcV]
  | _ :: _, [] => by simp [srcV]
def inV (P : List Int) (x : PlanD) (r : RatesD) (O A S : List Int) (k : Nat) (h : Int) : List Int :=
  if (opAt x k).1 = 1 then srcV P h r.1 S else (rowAt x k).map (fun f => wayV P (O.getD f.toNat 0) (A.getD f.toNat 0) h)

/-- A model in memory. -/
structure MdAt (w : World) (mb b : Nat) (P : List Int) (x : PlanD) (r : RatesD) (O A S : List Int) (ov fv sv tv pv av zv uv : Value) : Prop where
  blk : Blk w mb (mdC b ov fv sv tv pv av zv uv) 103
  tree : TreeAt w b P
  ops : Rds opR w ov x.1
  rows : Rds intsR w fv x.2
  src : RdI w .i64 sv r.1
  at_ : RdI w .i64 av A
  ats : RdI w .i64 zv S
  out : RdI w .i64 uv O
theorem MdAt.keep {w w' : World} {mb b : Nat} {P : List Int} {x : PlanD} {r : RatesD} {O A S : List Int} {ov fv sv tv pv av zv uv : Value} (h : MdAt w mb b P x r O A S ov fv sv tv pv av zv uv) (k : Kept [] w w') : MdAt w' mb b P x r O A S ov fv sv tv pv av zv uv :=
  ⟨h.blk.kept k (by simp), h.tree.keep k, h.ops.keep k, h.rows.keep k, h.src.keep k, h.at_.keep k, h.ats.keep k, h.out.keep k⟩

set_option maxRecDepth 100000 in
set_option maxHeartbeats 4000000 in
theorem in_term (mb b : Nat) (P : List Int) (x : PlanD) (r : RatesD) (O A S : List Int) (ov fv sv tv pv av zv uv : Value) (k : Nat) (h : Int) (w : World) (hM : MdAt w mb b P x r O A S ov fv sv tv pv av zv uv) (hT : Tree P)
    (hk : k < x.1.length) (h1 : (opAt x k).1 = 1) (hl : S.length = r.1.length) (hl2 : S.length ≤ 1048576) :
    Calls Tryz.prog 42 #[.pointer (some ⟨mb, 0, none⟩), .int .i64 k, .int .i64 h] w (IntsPost w (inV P x r O A S k h)) := by
  obtain ⟨i0, hi0, hz0, hz1, hz2⟩ := info_parts info64
  have HM := Lib.hid hM
  rw [inV, if_pos h1]
  have HWY := Lib.hid (fun (n a : Int) (W : World) (hW : Kept [] w W) => way_any mb b P n a h W (hM.tree.keep hW) hT ((hM.blk.kept hW (by simp)).cell 0))
  obtain ⟨b1, off, c, o, cs, he, hx, hE, hc⟩ := hM.ops.at hk
  obtain ⟨xv, cv, rfl, hrt, hrc, hz1', hz2'⟩ := opR_cells hE
  obtain ⟨o0, o1, o2, o3, o4, o5, o6⟩ := o
  have e0 := hc 0 (by decide)
  simp [opCells, show opR.sz = 7 from rfl] at e0
  have ho1 : o0 = 1 := by rw [opAt_of hx] at h1; exact h1
  subst ho1
  subst he
  obtain ⟨n, hn⟩ : ∃ n, x.1.length = n := ⟨_, rfl⟩
  rw [hn] at hk HM
  obtain ⟨ZA, zc, rfl, hmZ, -⟩ := hM.ats
  obtain ⟨SA, sc, rfl, hmS, -⟩ := hM.src
  obtain ⟨m, hm⟩ : ∃ m, S.length = m := ⟨_, rfl⟩
  rw [hm] at hl hl2 hmZ HM
  rw [← hl] at hmS HM
  have HLS := Lib.hid hl
  have HLZ := Lib.hid hm
  have c1 := (HM.out.blk).cell 1
  have c3 := (HM.out.blk).cell 3
  have c7 := (HM.out.blk).cell 7
  simp at c1 c3 c7
  have hgl := srcV_le P h r.1 S
  rw [hm] at hgl
  obtain ⟨G, hG⟩ : ∃ G, srcV P h r.1 S = G := ⟨_, rfl⟩
  rw [hG] at hgl ⊢
  have HG := Lib.hid hG
  have HGL : Hid (G.length ≤ 1048576) := by show _ ≤ _; omega
  clear hM h1 hx hE hc hrt hrc hz1' hz2' hn hl hm hgl hG
  go_enter Tryz.func42, Tryz.ntmps42
  go_wp2_with fail
  go_loopw [7, 27] (fun o jj wr => ∃ (j : Nat) (L : List Int), j ≤ m ∧ jj = .int .i64 j ∧ L ++ srcV P h (r.1.drop j) (S.drop j) = G ∧ wr.ownsRow w.heap.size 2 1 o L.length (L.map (.int .i64)) ∧ Kept [] w wr) (fun _ jj _ => m - (intOf jj).toNat)
  case atStart => exact ⟨0, [], by omega, rfl, by rw [List.drop_zero, List.drop_zero]; exact HG.out, World.ownsRow_nil _ _ _ _, Kept.refl _ _⟩
  case round =>
    obtain ⟨j, L, hj, rfl, hg, hown, hK⟩ := hrel
    have HGO := Lib.hid hg
    obtain ⟨AA, cc, rfl⟩ := own_len hown
    have HOWN := Lib.hid hown
    have HGB : Hid (∀ x, (Value.slice AA L.length cc).ownBlock = some x → w.heap.size ≤ x) := fun x hx => (hown.lt x hx).1
    have HK := Lib.hid hK
    have hsz2 := hK.size
    clear hg hown hK
    by_cases hlt : j < m
    · obtain ⟨bz, oz, c', a, he, hy, hca0⟩ := RdI.at HM.out.ats (i := j) (by rw [HLZ.out]; exact hlt)
      injection he with he1 he2 he3
      subst he1 he3
      obtain ⟨bs, os, c'', s, he, hy2, hcs0⟩ := RdI.at HM.out.src (i := j) (by rw [← HLS.out]; exact hlt)
      injection he with he1 he4 he3
      subst he1 he3
      have hca := HK.out.cell (by simp) hca0
      have hcs := HK.out.cell (by simp) hcs0
      have c1 := HK.out.cell (by simp) c1
      have c3 := HK.out.cell (by simp) c3
      have c7 := HK.out.cell (by simp) c7
      have HD1 := Lib.hid (drop_at hy)
      have HD2 := Lib.hid (drop_at hy2)
      obtain ⟨ML, hML⟩ : ∃ ML, L.length = ML := ⟨_, rfl⟩
      rw [hML] at HOWN HGB ⊢
      have HMLL := Lib.hid hML
      obtain ⟨y, hyy⟩ : ∃ y, wayV P s a h = y := ⟨_, rfl⟩
      have HW := Lib.hid (HWY.out s a wr HK.out)
      rw [hyy] at HW
      have HGN : Hid (L ++ y :: srcV P h (r.1.drop (j + 1)) (S.drop (j + 1)) = G) := by
        show _ = _
        rw [← HGO.out, HD1.out, HD2.out, srcV, hyy]
      have hML3 : ML < 1048576 := by
        have h1 := HGL.out
        rw [← HGN.out, List.length_append, List.length_cons, HMLL.out] at h1
        omega
      clear hy hy2 he2 he4 hca0 hcs0 hML hyy
      go_wp2_with fail
      refine HW.out.mono ?_
      rintro e w5 ⟨rfl, k5⟩
      have HK5 := Lib.hid (HK.out.trans k5)
      have hown5 := ownsRow_keep HOWN.out k5 (by simp)
      have hs5 := HK5.out.size
      clear k5
      go_wp2_with (at_builtin; refine wpList_append_own_at _ rfl _ _ 27 rfl w.heap.size 2 i0 (.int .i64 0) 1 8 Tryz.underlying27 hi0 hz0 hz1 hz2 rfl (by decide) _ ML (L.map (.int .i64)) rfl (hown5.alloc _) ⟨w5.heap.size, 0, none⟩ 1 1 [.int .i64 y] rfl rfl (cell_one_at _ _ _ _ rfl) (by simp [Value.oneCell']) (by unfold maxLen; omega) (by omega) (by simp; omega) ?_)
      intro v' w6 hown6 hgrow6 _ _
      have HK6 : Hid (Kept [] w w6) := (HK5.out.alloc _).grown hgrow6 (fun x hx => .inr (HGB.out x hx))
      have HOWN6 := Lib.hid hown6
      clear hown5 hown6 hgrow6
      go_wp2_with fail
      go_roundw
      case rel => exact ⟨j + 1, L ++ [y], by omega, by go_num, by rw [← HGN.out]; simp, by rw [List.map_append, List.length_append, HMLL.out]; exact HOWN6.out, HK6.out⟩
      case measure => simp [intOf]; omega
    · have HLG : Hid (L = G) := by
        show _ = _
        have := HGO.out
        rw [List.drop_eq_nil_of_le (show S.length ≤ j from by rw [HLZ.out]; omega)] at this
        rw [← this]
        cases r.1.drop j <;> simp [srcV]
      go_wp2_with fail
      go_ret
      refine ⟨_, rfl, ?_, HK.out⟩
      rw [← HLG.out]
      exact HOWN.out

end Go.Proofs.YtbaifjdealmckaaGreat

/- What an operator's inputs cost: an operator that is no term. -/
set_option linter.unusedVariables false
set_option linter.unusedSimpArgs false
set_option linter.unnecessarySimpa false
namespace Go.Proofs.YtbaifjdealmckaaGreat
open Go.RowKit Go.Shelf Tr
attribute [local go_sem] Oper.semAt_some

set_option maxRecDepth 100000 in
set_option maxHeartbeats 4000000 in
theorem in_else (mb b : Nat) (P : List Int) (x : PlanD) (r : RatesD) (O A S : List Int) (ov fv sv tv pv av zv uv : Value) (k : Nat) (h : Int) (w : World) (hM : MdAt w mb b P x r O A S ov fv sv tv pv av zv uv) (hT : Tree P)
    (hk : k < x.1.length) (h1 : ¬ (opAt x k).1 = 1) (hr : x.2.length = x.1.length) (hO : O.length = x.1.length) (hA : A.length = x.1.length) (hn32 : x.1.length ≤ 32) (hF : fromLen x.2 ≤ 1048576)
    (hrow : ∀ f ∈ rowAt x k, 0 ≤ f ∧ f < (x.1.length : Int)) :
    Calls Tryz.prog 42 #[.pointer (some ⟨mb, 0, none⟩), .int .i64 k, .int .i64 h] w (IntsPost w (inV P x r O A S k h)) := by
  obtain ⟨i0, hi0, hz0, hz1, hz2⟩ := info_parts info64
  have HM := Lib.hid hM
  rw [inV, if_neg h1]
  have HWY := Lib.hid (fun (n a : Int) (W : World) (hW : Kept [] w W) => way_any mb b P n a h W (hM.tree.keep hW) hT ((hM.blk.kept hW (by simp)).cell 0))
  obtain ⟨b1, off, c, o, cs, he, hx, hE, hc⟩ := hM.ops.at hk
  obtain ⟨xv, cv, rfl, hrt, hrc, hz1', hz2'⟩ := opR_cells hE
  obtain ⟨o0, o1, o2, o3, o4, o5, o6⟩ := o
  have e0 := hc 0 (by decide)
  simp [opCells, show opR.sz = 7 from rfl] at e0
  have ho1 : (o0 == 1) = false := by rw [beq_eq_false_iff_ne]; rw [opAt_of hx] at h1; exact h1
  subst he
  obtain ⟨b2, off2, c2, row, cs2, he, hx2, hE2, hc2⟩ := hM.rows.at (k := k) (by omega)
  obtain ⟨rv, rfl, hro⟩ := intsR_cells hE2
  have e00 := hc2 0 (by decide)
  simp only [show intsR.sz = 1 from rfl, Nat.mul_one, Nat.add_zero, List.getElem?_cons_zero] at e00
  have HROW := Lib.hid hro.ints
  obtain ⟨RA, rc, rfl, hrm⟩ := hro.form
  subst he
  rw [rowAt_of hx2] at hrow ⊢
  have hrl := Nat.le_trans (row_fromLen hx2) hF
  have HRW := Lib.hid hrow
  obtain ⟨n, hn⟩ : ∃ n, x.1.length = n := ⟨_, rfl⟩
  rw [hn] at hk HM hr hO hA hn32 HRW
  rw [hr] at HM
  obtain ⟨UA, uc, rfl, hmU, -⟩ := hM.out
  obtain ⟨AA, ac, rfl, hmA, -⟩ := hM.at_
  rw [hO] at hmU HM
  rw [hA] at hmA HM
  have HLO := Lib.hid hO
  have HLA := Lib.hid hA
  obtain ⟨m, hm⟩ : ∃ m, row.length = m := ⟨_, rfl⟩
  rw [hm] at hrl HROW hrm e00
  have HLM := Lib.hid hm
  unfold maxLen at hmU hmA
  have c1 := (HM.out.blk).cell 1
  have c2' := (HM.out.blk).cell 2
  have c6 := (HM.out.blk).cell 6
  have c8 := (HM.out.blk).cell 8
  simp at c1 c2' c6 c8
  obtain ⟨g, hg⟩ : ∃ g, g = (fun f : Int => wayV P (O.getD f.toNat 0) (A.getD f.toNat 0) h) := ⟨_, rfl⟩
  rw [← hg]
  have HG : Hid (∀ (f : Nat) (s a : Int), O[f]? = some s → A[f]? = some a → wayV P s a h = g (f : Int)) := fun f s a h1 h2 => by
    rw [hg]; simp only [Int.toNat_natCast, List.getD, h1, h2, Option.getD]
  clear hM h1 hx hE hc hrt hrc hz1' hz2' hx2 hE2 hc2 hro hn hr hO hA hm hrow hg hF
  go_enter Tryz.func42, Tryz.ntmps42
  go_wp2_with fail
  go_loopw [7, 58] (fun o jj wr => ∃ (j : Nat), j ≤ m ∧ jj = .int .i64 j ∧ wr.ownsRow w.heap.size 2 1 o j (((row.take j).map g).map (.int .i64)) ∧ Kept [] w wr) (fun _ jj _ => m - (intOf jj).toNat)
  case atStart => exact ⟨0, by omega, rfl, World.ownsRow_nil _ _ _ _, Kept.refl _ _⟩
  case round =>
    obtain ⟨j, hj, rfl, hown, hK⟩ := hrel
    obtain ⟨BA, cc, rfl⟩ := own_len hown
    have HOWN := Lib.hid hown
    have HGB : Hid (∀ x, (Value.slice BA j cc).ownBlock = some x → w.heap.size ≤ x) := fun x hx => (hown.lt x hx).1
    have HK := Lib.hid hK
    have hsz2 := hK.size
    clear hown hK
    by_cases hlt : j < m
    · obtain ⟨bz, oz, c', f, he, hy, hcf0⟩ := RdI.at HROW.out (i := j) (by rw [HLM.out]; exact hlt)
      injection he with he1 he2 he3
      subst he1 he3
      obtain ⟨hf0, hfn⟩ := HRW.out f (List.mem_of_getElem? hy)
      obtain ⟨q, rfl⟩ := Int.eq_ofNat_of_zero_le hf0
      have hqn : q < n := by omega
      obtain ⟨bu, ou, cu, s, he, hys, hcs0⟩ := RdI.at HM.out.out (i := q) (by rw [HLO.out]; exact hqn)
      injection he with he1 he4 he3
      subst he1 he3
      obtain ⟨ba, oa, ca, a, he, hya, hca0⟩ := RdI.at HM.out.at_ (i := q) (by rw [HLA.out]; exact hqn)
      injection he with he1 he5 he3
      subst he1 he3
      have hcf := HK.out.cell (by simp) hcf0
      have HS : Hid (∀ W, Kept [] wr W → W.cell? ⟨mb, 8, none⟩ = some (.slice (some ⟨bu, ou, none⟩) n uc) ∧ W.cell? ⟨mb, 6, none⟩ = some (.slice (some ⟨ba, oa, none⟩) n ac) ∧ W.cell? ⟨bu, ou + q, none⟩ = some (.int .i64 s) ∧ W.cell? ⟨ba, oa + q, none⟩ = some (.int .i64 a)) := fun W hW =>
        ⟨(HK.out.trans hW).cell (by simp) c8, (HK.out.trans hW).cell (by simp) c6, (HK.out.trans hW).cell (by simp) hcs0, (HK.out.trans hW).cell (by simp) hca0⟩
      have HSG : Hid (∀ W, (∃ V, Kept [] wr V ∧ V.grownBy W (Value.slice BA j cc).ownBlock) → W.cell? ⟨mb, 8, none⟩ = some (.slice (some ⟨bu, ou, none⟩) n uc) ∧ W.cell? ⟨mb, 6, none⟩ = some (.slice (some ⟨ba, oa, none⟩) n ac) ∧ W.cell? ⟨bu, ou + q, none⟩ = some (.int .i64 s) ∧ W.cell? ⟨ba, oa + q, none⟩ = some (.int .i64 a)) := fun W ⟨V, hV, hg⟩ => by
        have hh : Kept (Value.slice BA j cc).ownBlock.toList w W := ((HK.out.trans hV).nil).grown hg (fun y hy => .inl (by rw [hy]; simp))
        have nb : ∀ b, b < w.heap.size → b ∉ (Value.slice BA j cc).ownBlock.toList := fun b hb hm => by
          have hy : (Value.slice BA j cc).ownBlock = some b := by simpa using hm
          have h1 := HGB.out b hy
          omega
        exact ⟨hh.cell (nb _ (cell_lt c8)) c8, hh.cell (nb _ (cell_lt c6)) c6, hh.cell (nb _ (cell_lt hcs0)) hcs0, hh.cell (nb _ (cell_lt hca0)) hca0⟩
      obtain ⟨y, hyy⟩ : ∃ y, wayV P s a h = y := ⟨_, rfl⟩
      have HW := Lib.hid (fun (W : World) (hW : Kept [] wr W) => HWY.out s a W (HK.out.trans hW))
      rw [hyy] at HW
      have HY : Hid (g (q : Int) = y) := by show _ = _; rw [← hyy]; exact (HG.out q s a hys hya).symm
      have HTK : Hid (row.take (j + 1) = row.take j ++ [(q : Int)]) := by
        show _ = _
        obtain ⟨q1, q2⟩ := List.getElem?_eq_some_iff.1 hy
        rw [List.take_succ_eq_append_getElem q1, q2]
      have HOWNC : Hid (∀ W, Kept [] wr W → W.ownsRow w.heap.size 2 1 (.slice BA j cc) j (((row.take j).map g).map (.int .i64))) := fun W hk => ownsRow_keep HOWN.out hk (by simp)
      have hq0 : (0 : Int) ≤ (q : Int) := by omega
      have hqn' : (q : Int) < (n : Int) := by omega
      clear hy hys hya he2 he4 he5 hcs0 hca0 hcf0 hyy hfn hf0
      go_wp2_with fail
      go_region_held3 (fun w' => w'.cell? ⟨mb, 8, none⟩ = some (.slice (some ⟨bu, ou, none⟩) n uc) ∧ w'.cell? ⟨mb, 6, none⟩ = some (.slice (some ⟨ba, oa, none⟩) n ac) ∧ w'.cell? ⟨bu, ou + q, none⟩ = some (.int .i64 s) ∧ w'.cell? ⟨ba, oa + q, none⟩ = some (.int .i64 a)) (first | (refine HS.out _ ?_; (repeat (first | exact Kept.refl _ _ | assumption | refine Kept.drewN ?_ _ | refine Kept.drew ?_ | refine Kept.alloc ?_ _)); done) | (refine HSG.out _ ⟨_, ?_, hgrow7⟩; (repeat (first | exact Kept.refl _ _ | assumption | refine Kept.drewN ?_ _ | refine Kept.drew ?_ | refine Kept.alloc ?_ _)); done)) (first
        | (go_at_call 44; refine (HW.out _ (by (repeat (first | exact Kept.refl _ _ | assumption | refine Kept.drewN ?_ _ | refine Kept.drew ?_ | refine Kept.alloc ?_ _)))).mono ?_; rintro e w5 ⟨rfl, hk5⟩; have hk5' : Kept [] wr w5 := Kept.trans (by (repeat (first | exact Kept.refl _ _ | assumption | refine Kept.drewN ?_ _ | refine Kept.drew ?_ | refine Kept.alloc ?_ _))) hk5)
        | (refine step_guard _ _ 27 (by rfl) ?_; refine step_append_lies _ (by rfl) _ _ 27 (by rfl) w.heap.size 2 i0 (.int .i64 0) 1 8 Tryz.underlying27 hi0 hz0 hz1 hz2 (by rfl) (by decide) (.slice BA j cc) j _ (by rfl) (HOWNC.out _ (by (repeat (first | exact Kept.refl _ _ | assumption | refine Kept.drewN ?_ _ | refine Kept.drew ?_ | refine Kept.alloc ?_ _)))) ⟨w5.heap.size, 0, none⟩ 1 1 [.int .i64 y] (by rfl) (by rfl) (by (repeat (first | exact cell_one_at _ _ _ _ (by (first | rfl | (simp; done) | (simp; omega))) | refine cells_drew ?_ | refine cells_drewN ?_))) (by simp [Value.oneCell']) (by decide) (by unfold maxLen; omega) (by omega) (by have := hk5'.size; simp; omega) (w5.heap.size + 1) (by (first | rfl | (simp; done) | (simp; omega))) ?_; intro gg cap w7 hown7 hgrow7 hat7 hlt7))
      all_goals
        have HK7 : Hid (Kept [] w w7) := Kept.grown (S := []) (a := w) (Kept.trans HK.out (by (repeat (first | exact Kept.refl _ _ | assumption | refine Kept.drewN ?_ _ | refine Kept.drew ?_ | refine Kept.alloc ?_ _)))) hgrow7 (fun y hy => .inr (HGB.out y hy))
        have HOWN7 := Lib.hid hown7
        clear hown7 hgrow7 hat7 hlt7
        go_wp2_with fail
        go_roundw
        case rel => exact ⟨j + 1, by omega, by go_num, by rw [HTK.out, List.map_append, List.map_append, List.map_singleton, HY.out]; exact HOWN7.out, HK7.out⟩
        case measure => simp [intOf]; omega
    · have hjm : j = m := by omega
      subst hjm
      go_wp2_with fail
      go_ret
      refine ⟨_, rfl, ?_, HK.out⟩
      have := HOWN.out
      rw [List.take_of_length_le (by rw [HLM.out]; omega)] at this
      rw [List.length_map, HLM.out]
      exact this

end Go.Proofs.YtbaifjdealmckaaGreat

/- What a placing costs: the program's Traffic. -/
set_option linter.unusedVariables false
set_option linter.unusedSimpArgs false
set_option linter.unnecessarySimpa false
namespace Go.Proofs.YtbaifjdealmckaaGreat
open Go.RowKit Go.Shelf Tr
attribute [local go_sem] Oper.semAt_some

theorem inV_len (P : List Int) (x : PlanD) (r : RatesD) (O A S : List Int) (k : Nat) (h : Int) (hpl : planV x = true) (hls : S.length = r.1.length) (hr1 : 1 ≤ r.1.length) (hr : r.1.length ≤ 12) (hk : k < x.1.length) (hF : fromLen x.2 ≤ 1048576) :
    1 ≤ (inV P x r O A S k h).length ∧ (inV P x r O A S k h).length ≤ 1048576 := by
  obtain ⟨_, _, hm, hp⟩ := plan_place hpl
  unfold inV
  split
  · have h1 := srcV_le P h r.1 S
    refine ⟨?_, by omega⟩
    cases hr0 : r.1 with
    | nil => rw [hr0] at hr1; simp at hr1
    | cons n ns =>
      cases hs0 : S with
      | nil => rw [hs0] at hls; simp at hls; omega
      | cons a ys => simp [srcV]
  · have h1 := (place_is (hp k hk)).one
    have h2 : x.2[k]? = some x.2[k] := List.getElem?_eq_getElem (by omega)
    have h3 := row_fromLen h2
    rw [rowAt_of h2] at h1 ⊢
    simp
    omega

theorem ratesOk_12 {n : Nat} {r : RatesD} (h : ratesOk n r = true) : r.1.length ≤ 12 := (ratesOk_is h).2.1

theorem in_any (mb b : Nat) (P : List Int) (x : PlanD) (r : RatesD) (O A S : List Int) (ov fv sv tv pv av zv uv : Value) (k : Nat) (h : Int) (w : World) (hM : MdAt w mb b P x r O A S ov fv sv tv pv av zv uv) (hT : Tree P)
    (hC : checkE x r = 0) (hk : k < x.1.length) (hO : O.length = x.1.length) (hA : A.length = x.1.length) (hS : S.length = r.1.length) (hF : fromLen x.2 ≤ 1048576) :
    Calls Tryz.prog 42 #[.pointer (some ⟨mb, 0, none⟩), .int .i64 k, .int .i64 h] w (IntsPost w (inV P x r O A S k h)) := by
  obtain ⟨hpv, hro⟩ := checkE_zero hC
  obtain ⟨h2, h32, hm, hp⟩ := plan_place hpv
  have hri := ratesOk_is hro
  by_cases h1 : (opAt x k).1 = 1
  · exact in_term mb b P x r O A S ov fv sv tv pv av zv uv k h w hM hT hk h1 hS (by omega)
  · refine in_else mb b P x r O A S ov fv sv tv pv av zv uv k h w hM hT hk h1 hm hO hA h32 hF (fun f hf => ?_)
    have h3 := (place_is (hp k hk)).low h1 f hf
    have h4 := (place_is (hp k hk)).below f hf
    omega

def trafL (P : List Int) (x : PlanD) (r : RatesD) (O A S : List Int) (k : Nat) : List Int := (List.range k).flatMap (fun op => inV P x r O A S op (A.getD op 0))
def trafV (P : List Int) (x : PlanD) (r : RatesD) (A S : List Int) : Int := if modelE P.length x r A S = 0 then addV (trafL P x r (outV x r) A S x.1.length) else 0

theorem placeE_zero {la n ls ns : Nat} {qa qs : Bool} (h : placeE la n ls ns qa qs = 0) : la = n ∧ ls = ns ∧ qa = false ∧ qs = false := by
  unfold placeE at h
  split at h
  · rename_i h1
    simp only [Bool.and_eq_true, decide_eq_true_eq, Bool.not_eq_true'] at h1
    exact ⟨h1.1, h1.2.1, h1.2.2.1, h1.2.2.2⟩
  · cases h
theorem modelE_zero {np : Nat} {x : PlanD} {r : RatesD} {A S : List Int} (h : modelE np x r A S = 0) : checkE x r = 0 ∧ A.length = x.1.length ∧ S.length = r.1.length ∧ A.any (outB np) = false ∧ S.any (outB np) = false := by
  unfold modelE at h
  split at h
  · rename_i h1
    obtain ⟨h2, h3, h4, h5⟩ := placeE_zero h
    exact ⟨h1, h2, h3, h4, h5⟩
  · rename_i h1; exact absurd h h1

end Go.Proofs.YtbaifjdealmckaaGreat

/- Which inputs an operator feeds: the program's Uses, of a plan that may be. -/
set_option linter.unusedVariables false
set_option linter.unusedSimpArgs false
set_option linter.unnecessarySimpa false
namespace Go.Proofs.YtbaifjdealmckaaGreat
open Go.RowKit Go.Shelf Tr
attribute [local go_sem] Oper.semAt_some

set_option maxRecDepth 100000 in
set_option maxHeartbeats 2000000 in
theorem is_plan (ov fv : Value) (x : PlanD) (k : Nat) (w : World) (ho : Rds opR w ov x.1) (hf : Rds intsR w fv x.2) (hF : fromLen x.2 ≤ 1048576) (hk : k < x.1.length) (hp : planV x = true) :
    Calls Tryz.prog 67 #[.agg #[ov, fv], .int .i64 k] w fun e w' => e = .returned (.bool true) ∧ Kept [] w w' := by
  have HPC := Lib.hid (fun (W : World) (hk : Kept [] w W) => plancheck_any ov fv x W (ho.keep hk) (hf.keep hk) hF)
  rw [hp] at HPC
  obtain ⟨A, c, rfl, hmA⟩ := ho.form
  obtain ⟨B, d, rfl, hmB⟩ := hf.form
  obtain ⟨n, hn⟩ : ∃ n, x.1.length = n := ⟨_, rfl⟩
  obtain ⟨m, hm⟩ : ∃ m, x.2.length = m := ⟨_, rfl⟩
  rw [hn] at HPC hk ⊢
  rw [hm] at HPC ⊢
  clear hn hm ho hf hp hF hmA hmB
  have HK0 := Lib.hid ((Kept.refl [] w).alloc (.cells #[.slice A n c, .slice B m d] 26))
  have hk0 : (0 : Int) ≤ (k : Int) := by omega
  have hkn : (k : Int) < (n : Int) := by omega
  go_enter Tryz.func67, Tryz.ntmps67
  go_wp2_with fail
  refine (HPC.out _ HK0.out).mono ?_
  rintro e w1 ⟨rfl, k1⟩
  rw [show errPlan true = 0 from rfl]
  have HK1 := Lib.hid (HK0.out.trans k1)
  clear k1
  go_wp2_with fail
  go_ret
  exact ⟨rfl, HK1.out⟩

set_option maxRecDepth 100000 in
set_option maxHeartbeats 2000000 in
theorem plan_uses (ov fv : Value) (x : PlanD) (k : Nat) (w : World) (ho : Rds opR w ov x.1) (hf : Rds intsR w fv x.2) (hF : fromLen x.2 ≤ 1048576) (hk : k < x.1.length) (hp : planV x = true) :
    Calls Tryz.prog 43 #[.agg #[ov, fv], .int .i64 k] w (UsesPost w (usesGo k 0 x.2)) := by
  have HIS := Lib.hid (fun (W : World) (hk' : Kept [] w W) => is_plan ov fv x k W (ho.keep hk') (hf.keep hk') hF hk hp)
  have HU := Lib.hid (fun (W : World) (hk' : Kept [] w W) => uses_any ov fv x.2 k W (hf.keep hk') hF)
  obtain ⟨A, c, rfl, hmA⟩ := ho.form
  obtain ⟨B, d, rfl, hmB⟩ := hf.form
  obtain ⟨L, hL⟩ : ∃ L, usesGo k 0 x.2 = L := ⟨_, rfl⟩
  rw [hL] at HU ⊢
  obtain ⟨n, hn⟩ : ∃ n, x.1.length = n := ⟨_, rfl⟩
  obtain ⟨m, hm⟩ : ∃ m, x.2.length = m := ⟨_, rfl⟩
  rw [hn] at HIS HU ⊢
  rw [hm] at HIS HU ⊢
  clear hn hm ho hf hp hF hmA hmB hk hL
  have HK0 := Lib.hid ((Kept.refl [] w).alloc (.cells #[.slice A n c, .slice B m d] 26))
  have HB0 := Lib.hid (Blk.new w #[.slice A n c, .slice B m d] 26)
  have hsz : (w.alloc (.cells #[.slice A n c, .slice B m d] 26)).heap.size = w.heap.size + 1 := by simp
  have HSZ := Lib.hid hsz
  clear hsz
  go_enter Tryz.func43, Tryz.ntmps43
  go_wp2_with fail
  refine (HIS.out _ HK0.out).mono ?_
  rintro e w1 ⟨rfl, k1⟩
  have HK1 := Lib.hid (HK0.out.trans k1)
  have HS1 : Hid (w.heap.size ≤ w1.heap.size) := HK1.out.size
  have c0 := (HB0.out.kept k1 (by simp)).cell 0
  have c1 := (HB0.out.kept k1 (by simp)).cell 1
  simp at c0 c1
  clear k1
  go_wp2_with fail
  refine (HU.out _ HK1.out).mono ?_
  rintro e w2 ⟨v, rfl, o2, k2⟩
  have HO := Lib.hid o2
  have HK2 := Lib.hid (HK1.out.trans k2)
  clear o2 k2
  go_wp2_with fail
  go_ret
  exact ⟨_, rfl, rowBase HO.out HS1.out, HK2.out⟩

end Go.Proofs.YtbaifjdealmckaaGreat

/- What an operator costs, if it stands at a broker: the program's Part. -/
set_option linter.unusedVariables false
set_option linter.unusedSimpArgs false
set_option linter.unnecessarySimpa false
namespace Go.Proofs.YtbaifjdealmckaaGreat
open Go.RowKit Go.Shelf Tr
attribute [local go_sem] Oper.semAt_some

def partL (P : List Int) (x : PlanD) (r : RatesD) (O A S : List Int) (k : Nat) (h : Int) : List Int :=
  inV P x r O A S k h ++ (usesGo k 0 x.2).map (fun u => wayV P (O.getD k 0) h (A.getD u.1 0))
def partE (np : Nat) (x : PlanD) (r : RatesD) (A S : List Int) (op h : Int) : Int :=
  if modelE np x r A S = 0 then (if (decide (0 ≤ op) && decide (op < (x.1.length : Int))) && !outB np h then 0 else 1) else modelE np x r A S
def partV (P : List Int) (x : PlanD) (r : RatesD) (A S : List Int) (op h : Int) : Int :=
  if partE P.length x r A S op h = 0 then addV (partL P x r (outV x r) A S op.toNat h) else 0

theorem usesRow_fst (k : Nat) (i : Int) : ∀ (l : List Int) (j : Nat), ∀ u ∈ usesRow k i j l, u.1 = k
  | [], j, u, h => by simp [usesRow] at h
  | f :: l, j, u, h => by
    rw [usesRow] at h
    split at h
    · rcases List.mem_cons.1 h with rfl | h
      · rfl
      · exact usesRow_fst k i l _ u h
    · exact usesRow_fst k i l _ u h
theorem usesGo_fst (i : Int) : ∀ (F : List (List Int)) (k : Nat), ∀ u ∈ usesGo i k F, u.1 < k + F.length
  | [], k, u, h => by simp [usesGo] at h
  | row :: F, k, u, h => by
    rw [usesGo] at h
    rcases List.mem_append.1 h with h | h
    · rw [usesRow_fst k i row _ u h]; simp
    · have := usesGo_fst i F (k + 1) u h
      simp; omega

theorem one_own {W : World} {h : Int} {g : Nat} {t : TypeId} (hg : g = W.heap.size) : (W.alloc (.cells #[.int .i64 h] t)).ownsRow W.heap.size t 1 (.slice (some ⟨g, 0, none⟩) 1 1) 1 ([h].map (.int .i64)) := by
  subst hg
  refine ⟨rfl, .inr ⟨W.heap.size, 1, #[.int .i64 h], rfl, Nat.le_refl _, Blk.new W _ _, Nat.le_refl _, by unfold maxLen; omega, by simp, rfl⟩⟩
theorem rds_own {w : World} {base : Nat} {e : TypeId} {v : Value} {n : Nat} {l : List Int} (h : w.ownsRow base e 1 v n (l.map (.int .i64))) (hn : n = l.length) (hw : ∀ x ∈ l, (Lit.int .i64 x).wf = true) : Rds (Rk.int .i64) w v l := by
  subst hn
  refine Rds.of_own (d := Rk.int .i64) (xs := l.map (.int .i64)) h (by decide) (fun i x hi => ⟨[.int .i64 x], ⟨rfl, hw x (List.mem_of_getElem? hi)⟩, fun j hj => ?_⟩)
  have : j = 0 := by have : (Rk.int .i64).sz = 1 := rfl; omega
  subst this
  rw [show i * (Rk.int .i64).sz + 0 = i by simp [Rk.int]]
  simp [hi]

set_option maxRecDepth 100000 in
set_option maxHeartbeats 4000000 in
theorem part_any (b : Nat) (P : List Int) (ov fv sv tv pv av zv : Value) (x : PlanD) (r : RatesD) (A S : List Int) (op h : Int) (w : World) (hTA : TreeAt w b P) (hT : Tree P)
    (ho : Rds opR w ov x.1) (hf : Rds intsR w fv x.2) (hF : fromLen x.2 ≤ 1048576) (hs : RdI w .i64 sv r.1) (ht : RdI w .i64 tv r.2.1) (hp : RdI w .i64 pv r.2.2)
    (ha : RdI w .i64 av A) (har : Rds (Rk.int .i64) w av A) (hz : RdI w .i64 zv S) (hzr : Rds (Rk.int .i64) w zv S) (hh : (Lit.int .i64 h).wf = true) :
    Calls Tryz.prog 24 #[.pointer (some ⟨b, 0, none⟩), .agg #[ov, fv], .agg #[sv, tv, pv], av, .int .i64 op, .int .i64 h, zv] w fun e w' => e = .returned (.tuple #[.int .i64 (partV P x r A S op h), .int .i64 (partE P.length x r A S op h)]) ∧ Kept [] w w' := by
  obtain ⟨i0, hi0, hz0, hz1, hz2⟩ := info_parts info64
  have HNM := Lib.hid (fun (W : World) (hk : Kept [] w W) => newmodel_any b P ov fv sv tv pv av zv x r A S W (hTA.keep hk) hT.pos (ho.keep hk) (hf.keep hk) hF (hs.keep hk) (ht.keep hk) (hp.keep hk) (ha.keep hk) (har.keep hk) (hz.keep hk) (hzr.keep hk))
  have HIN : Hid (∀ (W : World) (mb : Nat) (uv : Value), Kept [] w W → Blk W mb (mdC b ov fv sv tv pv av zv uv) 103 → RdI W .i64 uv (outV x r) → modelE P.length x r A S = 0 → ∀ (k : Nat), k < x.1.length →
      Calls Tryz.prog 42 #[.pointer (some ⟨mb, 0, none⟩), .int .i64 k, .int .i64 h] W (IntsPost W (inV P x r (outV x r) A S k h))) := fun W mb uv hk hb hu hE k hlt => by
    obtain ⟨e1, e2, e3, -, -⟩ := modelE_zero hE
    exact in_any mb b P x r (outV x r) A S ov fv sv tv pv av zv uv k h W ⟨hb, hTA.keep hk, ho.keep hk, hf.keep hk, hs.keep hk, ha.keep hk, hz.keep hk, hu⟩ hT e1 hlt (outV_len x r) e2 e3 hF
  have HUS : Hid (∀ (W : World), Kept [] w W → modelE P.length x r A S = 0 → ∀ (k : Nat), k < x.1.length → Calls Tryz.prog 43 #[.agg #[ov, fv], .int .i64 k] W (UsesPost W (usesGo k 0 x.2))) := fun W hk hE k hlt => by
    obtain ⟨e1, -, -, -, -⟩ := modelE_zero hE
    exact plan_uses ov fv x k W (ho.keep hk) (hf.keep hk) hF hlt (checkE_zero e1).1
  have HLEN : Hid (modelE P.length x r A S = 0 → ∀ (k : Nat), k < x.1.length → (inV P x r (outV x r) A S k h).length ≤ 1048576 ∧ (usesGo k 0 x.2).length ≤ 1048576 ∧ ∀ u ∈ usesGo k 0 x.2, u.1 < x.1.length) := fun hE k hlt => by
    obtain ⟨e1, e2, e3, -, -⟩ := modelE_zero hE
    obtain ⟨hpv, hro⟩ := checkE_zero e1
    have hri := ratesOk_is hro
    have hm := (plan_place hpv).2.2.1
    refine ⟨(inV_len P x r (outV x r) A S k h hpv e3 hri.1 hri.2.1 hlt hF).2, Nat.le_trans (usesGo_le k x.2 0) hF, fun u hu => ?_⟩
    have := usesGo_fst k x.2 0 u hu
    omega
  have HAL : Hid (modelE P.length x r A S = 0 → A.length = x.1.length ∧ (outV x r).length = x.1.length ∧ x.1.length ≤ 32) := fun hE => by
    obtain ⟨e1, e2, e3, -, -⟩ := modelE_zero hE
    obtain ⟨hpv, hro⟩ := checkE_zero e1
    exact ⟨e2, outV_len x r, (plan_place hpv).2.1⟩
  have HBC := Lib.hid (fun (W : World) (v : Value) (hk : Kept [] w W) (h1 : RdI W .i64 v [h]) (h2 : Rds (Rk.int .i64) W v [h]) => broker_any b P v [h] W (hTA.keep hk) h1 h2)
  have HWY : Hid (∀ (W : World) (mb : Nat) (uv : Value), Kept [] w W → Blk W mb (mdC b ov fv sv tv pv av zv uv) 103 → ∀ n a : Int, Calls Tryz.prog 44 #[.pointer (some ⟨mb, 0, none⟩), .int .i64 n, .int .i64 h, .int .i64 a] W fun e w' => e = .returned (.int .i64 (wayV P n h a)) ∧ Kept [] W w') := fun W mb uv hk hb n a =>
    way_any mb b P n h a W (hTA.keep hk) hT (hb.cell 0)
  have HA := Lib.hid ha
  have HHH := Lib.hid hh
  obtain ⟨A1, c, rfl, hmA⟩ := ho.form
  obtain ⟨B, d, rfl, hmB⟩ := hf.form
  obtain ⟨SA, sc, rfl, hmS, -⟩ := hs
  obtain ⟨TA, tc, rfl, hmT, -⟩ := ht
  obtain ⟨PA, pc, rfl, hmP, -⟩ := hp
  obtain ⟨AA, ac, rfl, hmAA, -⟩ := ha
  obtain ⟨ZA, zc, rfl, hmZ, -⟩ := hz
  obtain ⟨F, hFE⟩ : ∃ F, partE P.length x r A S op h = F := ⟨_, rfl⟩
  obtain ⟨V, hV⟩ : ∃ V, partV P x r A S op h = V := ⟨_, rfl⟩
  rw [hFE, hV]
  unfold partV at hV
  rw [hFE] at hV
  unfold partE at hFE
  obtain ⟨qh, hqh⟩ : ∃ qh, outB P.length h = qh := ⟨_, rfl⟩
  have HQ : Hid ([h].any (outB P.length) = qh) := by show _ = _; rw [← hqh]; simp
  rw [hqh] at hFE
  rw [HQ.out] at HBC
  obtain ⟨E, hE⟩ : ∃ E, modelE P.length x r A S = E := ⟨_, rfl⟩
  rw [hE] at HNM HIN HUS HLEN HAL hFE
  have HV := Lib.hid hV
  have HFE := Lib.hid hFE
  obtain ⟨O, hO⟩ : ∃ O, outV x r = O := ⟨_, rfl⟩
  rw [hO] at HNM HIN HLEN HAL HV
  obtain ⟨n, hn⟩ : ∃ n, x.1.length = n := ⟨_, rfl⟩
  obtain ⟨m, hm⟩ : ∃ m, x.2.length = m := ⟨_, rfl⟩
  obtain ⟨ns, hns⟩ : ∃ ns, r.1.length = ns := ⟨_, rfl⟩
  obtain ⟨nt, hnt⟩ : ∃ nt, r.2.1.length = nt := ⟨_, rfl⟩
  obtain ⟨np, hnp⟩ : ∃ np, r.2.2.length = np := ⟨_, rfl⟩
  obtain ⟨la, hla⟩ : ∃ la, A.length = la := ⟨_, rfl⟩
  obtain ⟨ls, hls⟩ : ∃ ls, S.length = ls := ⟨_, rfl⟩
  obtain ⟨lo, hlo⟩ : ∃ lo, O.length = lo := ⟨_, rfl⟩
  rw [hn] at HNM HIN HUS HLEN HAL HFE hmA ⊢
  rw [hm] at HNM HIN HUS HWY hmB ⊢
  rw [hn] at HWY
  simp only [hns] at HNM HIN HWY hmS ⊢
  simp only [hnt] at HNM HIN HWY hmT ⊢
  simp only [hnp] at HNM HIN HWY hmP ⊢
  rw [hla] at HNM HIN HAL HA HWY hmAA ⊢
  rw [hls] at HNM HIN HWY hmZ ⊢
  rw [hlo] at HAL
  have HLA := Lib.hid hla
  have HLO := Lib.hid hlo
  clear hV hFE hqh hO hn hm hns hnt hnp hla hls hlo hE hF ho hf hTA har hzr hT hh
  have HK0 := Lib.hid (((Kept.refl [] w).alloc (.cells #[.slice A1 n c, .slice B m d] 26)).alloc (.cells #[.slice SA ns sc, .slice TA nt tc, .slice PA np pc] 29))
  have HB0 : Hid (Blk ((w.alloc (.cells #[.slice A1 n c, .slice B m d] 26)).alloc (.cells #[.slice SA ns sc, .slice TA nt tc, .slice PA np pc] 29)) w.heap.size #[.slice A1 n c, .slice B m d] 26) := (Blk.new w _ _).alloc _
  go_enter Tryz.func24, Tryz.ntmps24
  go_wp2_with fail
  refine (HNM.out _ HK0.out).mono ?_
  rintro e w1 ⟨k1, h1⟩
  have HK1 := Lib.hid (HK0.out.trans k1)
  have HB1 := Lib.hid (HB0.out.kept k1 (by simp))
  clear k1 HB0
  rcases h1 with ⟨hE, rfl⟩ | ⟨rfl, mb, uv, rfl, hmb, hblk, hrd⟩
  · have hE' : (E != 0) = true := by rw [bne_iff_ne]; exact hE
    have hFE : Hid (F = E) := by show _ = _; rw [← HFE.out, if_neg hE]
    have hV : Hid (V = 0) := by show _ = _; rw [← HV.out, if_neg (by rw [hFE.out]; exact hE)]
    go_wp2_with fail
    go_ret2
    exact ⟨by rw [hV.out, hFE.out]; rfl, HK1.out⟩
  · rw [if_pos rfl] at HFE
    obtain ⟨hla, hlo, hn32⟩ := HAL.out rfl
    subst hla hlo
    have HBK := Lib.hid hblk
    have HRD := Lib.hid hrd
    have c0 := HB1.out.cell 0
    have c1 := HB1.out.cell 1
    simp at c0 c1
    clear hblk hrd HNM HAL
    by_cases hop0 : op < 0
    · have hFE : Hid (F = 1) := by show _ = _; rw [← HFE.out]; simp; intro h1; omega
      have hV : Hid (V = 0) := by show _ = _; rw [← HV.out, if_neg (by rw [hFE.out]; decide)]
      go_wp2_with fail
      go_ret2
      exact ⟨by rw [hV.out, hFE.out]; rfl, HK1.out⟩
    · obtain ⟨k, rfl⟩ := Int.eq_ofNat_of_zero_le (by omega : 0 ≤ op)
      rw [Int.toNat_natCast] at HV
      by_cases hkn : (lo : Int) ≤ (k : Int)
      · have hFE : Hid (F = 1) := by show _ = _; rw [← HFE.out]; simp; intro h1; omega
        have hV : Hid (V = 0) := by show _ = _; rw [← HV.out, if_neg (by rw [hFE.out]; decide)]
        go_wp2_with fail
        go_ret2
        exact ⟨by rw [hV.out, hFE.out]; rfl, HK1.out⟩
      · have hk : k < lo := by omega
        go_wp2_with fail
        refine (HBC.out _ _ (HK1.out.alloc _) (one_at rfl) (rds_own (one_own rfl) rfl (fun y hy => by rw [List.mem_singleton.1 hy]; exact HHH.out))).mono ?_
        rintro e w2 ⟨rfl, k2⟩
        have HK2 := Lib.hid ((HK1.out.alloc (.cells #[.int .i64 h] 3)).trans k2)
        have HK12 := Lib.hid (((Kept.refl [] w1).alloc (.cells #[.int .i64 h] 3)).trans k2)
        clear k2
        cases qh with
        | true =>
          have hFE : Hid (F = 1) := by show _ = _; rw [← HFE.out]; simp
          have hV : Hid (V = 0) := by show _ = _; rw [← HV.out, if_neg (by rw [hFE.out]; decide)]
          rw [show (!true) = false from rfl]
          go_wp2_with fail
          go_ret2
          exact ⟨by rw [hV.out, hFE.out]; rfl, HK2.out⟩
        | false =>
          have hFE : Hid (F = 0) := by show _ = _; rw [← HFE.out, if_pos (by simp; omega)]
          rw [if_pos hFE.out] at HV
          rw [show (!false) = true from rfl]
          have c0 := HK12.out.cell (by simp) c0
          have c1 := HK12.out.cell (by simp) c1
          have HBK2 := Lib.hid (HBK.out.kept HK12.out (by simp))
          have HRD2 := Lib.hid (HRD.out.keep HK12.out)
          obtain ⟨bu, ou, cu, s0, rfl, hs0, hcu0⟩ := RdI.at HRD2.out (i := k) (by rw [HLO.out]; exact hk)
          have HC := Lib.hid (HIN.out w2 mb _ HK2.out HBK2.out HRD2.out (by first | trivial | rfl) k hk)
          obtain ⟨hl1, hl2, hl3⟩ := HLEN.out (by first | trivial | rfl) k hk
          have HUC := Lib.hid (fun (W : World) (hW : Kept [] w W) => HUS.out W hW (by first | trivial | rfl) k hk)
          unfold partL at HV
          obtain ⟨J, hJ⟩ : ∃ J, inV P x r O A S k h = J := ⟨_, rfl⟩
          obtain ⟨U, hU⟩ : ∃ U, usesGo k 0 x.2 = U := ⟨_, rfl⟩
          rw [hJ, hU] at HV
          rw [hJ] at HC hl1
          rw [hU] at HUC hl2 hl3
          obtain ⟨lj, hlj⟩ : ∃ lj, J.length = lj := ⟨_, rfl⟩
          obtain ⟨lu, hlu⟩ : ∃ lu, U.length = lu := ⟨_, rfl⟩
          rw [hlj] at hl1
          rw [hlu] at hl2
          have HLJ := Lib.hid hlj
          have HLU := Lib.hid hlu
          have HL3 := Lib.hid hl3
          obtain ⟨g, hg⟩ : ∃ g, g = (fun u : UseD => wayV P (O.getD k 0) h (A.getD u.1 0)) := ⟨_, rfl⟩
          rw [← hg] at HV
          have HG : Hid (∀ (u : UseD) (a : Int), A[u.1]? = some a → wayV P s0 h a = g u) := fun u a h2 => by
            rw [hg]; simp only [List.getD, hs0, h2, Option.getD]
          have HS0 := Lib.hid hs0
          have HCU := Lib.hid hcu0
          rw [HLO.out] at HBK2
          clear hJ hU hlj hlu hl3 hg hs0 hcu0 HIN HLEN HUS HBC
          go_wp2_with fail
          refine HC.out.mono ?_
          rintro e w3 ⟨v3, rfl, o3, k3⟩
          rw [HLJ.out] at o3
          obtain ⟨JA, jc, rfl⟩ := own_len o3
          have HO3 := Lib.hid o3
          have HK3 := Lib.hid (HK2.out.trans k3)
          have c0 := k3.cell (by simp) c0
          have c1 := k3.cell (by simp) c1
          have HK23 := Lib.hid k3
          clear o3 k3
          go_wp2_with fail
          refine (HUC.out _ HK3.out).mono ?_
          rintro e w4 ⟨v4, rfl, o4, k4⟩
          rw [HLU.out] at o4
          obtain ⟨UA, uc, rfl⟩ := own_len o4
          have HO4 := Lib.hid o4
          have HK4 := Lib.hid (HK3.out.trans k4)
          have HK24 := Lib.hid (HK23.out.trans k4)
          have HK34 := Lib.hid k4
          have HO34 := Lib.hid (ownsRow_keep HO3.out k4 (by simp))
          have HBK4 := Lib.hid (HBK2.out.kept HK24.out (by simp))
          have HRD4 := Lib.hid (HRD2.out.keep HK24.out)
          clear o4 k4
          go_wp2_with fail
          have HJB : Hid (∀ y, (Value.slice JA lj jc).ownBlock = some y → w2.heap.size ≤ y ∧ y < w3.heap.size) := fun y hy => ⟨(HO3.out.lt y hy).1, (HO3.out.lt y hy).2⟩
          have HNB : Hid (∀ q, (q < w2.heap.size ∨ w3.heap.size ≤ q) → q ∉ (Value.slice JA lj jc).ownBlock.toList) := fun q hq hm => by
            have hy : (Value.slice JA lj jc).ownBlock = some q := by simpa using hm
            have := HJB.out q hy
            omega
          have HSZ : Hid (w3.heap.size ≤ w4.heap.size ∧ w2.heap.size ≤ w3.heap.size ∧ w1.heap.size ≤ w2.heap.size) := ⟨HK34.out.size, HK23.out.size, HK12.out.size⟩
          go_loopw [18, 57] (fun o jj wr => ∃ (j : Nat), j ≤ lu ∧ jj = .int .i64 j ∧ wr.ownsRow w2.heap.size 2 1 o (lj + j) ((J ++ (U.take j).map g).map (.int .i64)) ∧ (∀ y, o.ownBlock = some y → y ∈ (Value.slice JA lj jc).ownBlock.toList ∨ w4.heap.size ≤ y) ∧ Kept (Value.slice JA lj jc).ownBlock.toList w4 wr) (fun _ jj _ => lu - (intOf jj).toNat)
          case atStart => exact ⟨0, by omega, rfl, by simpa using HO34.out, fun y hy => .inl (by rw [hy]; simp), Kept.refl _ _⟩
          case round =>
            obtain ⟨j, hj, rfl, hown, hob, hK⟩ := hrel
            obtain ⟨BA, cc, rfl⟩ := own_len hown
            have HOWN := Lib.hid hown
            have HOB := Lib.hid hob
            have HGB : Hid (∀ x, (Value.slice BA (lj + j) cc).ownBlock = some x → w2.heap.size ≤ x) := fun x hx => (hown.lt x hx).1
            have HK := Lib.hid hK
            have hszr := hK.size
            clear hown hob hK
            by_cases hlt : j < lu
            · obtain ⟨⟨ua, ub⟩, hu⟩ : ∃ u, U[j]? = some u := ⟨_, List.getElem?_eq_getElem (by rw [HLU.out]; exact hlt)⟩
              obtain ⟨hu1, hu2⟩ := cellsU_get U j _ hu
              obtain ⟨g4, c4, he, hc41, hc42⟩ := own_some HO4.out (by omega)
              injection he with he1 he2 he3
              subst he1 he3
              have hd : ∀ i, (⟨g4, 0, none⟩ : Addr).add i = ⟨g4, i, none⟩ := fun i => by unfold Addr.add; split <;> simp_all
              have e1 := HO4.out.cells rfl _ _ hu1
              have e2 := HO4.out.cells rfl _ _ hu2
              have hg4 := (HO4.out.lt g4 rfl).1
              rw [hd] at e1 e2
              have d0 := HK.out.cell (HNB.out _ (.inr hg4)) e1
              have d1 := HK.out.cell (HNB.out _ (.inr hg4)) e2
              have hua := HL3.out _ (List.mem_of_getElem? hu)
              obtain ⟨ba, oa, ca, a, he, hya, hca0⟩ := RdI.at HA.out (i := ua) (by rw [HLA.out]; exact hua)
              injection he with he1 he5 he3
              subst he1 he3
              have HTK : Hid (U.take (j + 1) = U.take j ++ [(ua, ub)]) := by
                show _ = _
                obtain ⟨q1, q2⟩ := List.getElem?_eq_some_iff.1 hu
                rw [List.take_succ_eq_append_getElem q1, q2]
              have HGY : Hid (wayV P s0 h a = g (ua, ub)) := HG.out (ua, ub) a hya
              clear hu hu1 hu2 he2 he5 hd hya e1 e2
              have HK2r : Hid (Kept [] w2 wr) := Kept.after HK24.out HK.out (fun y hy => (HJB.out y (by simpa using hy)).1)
              have HFX : Hid (∀ W, Kept (Value.slice BA (lj + j) cc).ownBlock.toList (wr.alloc (.cells #[.int .i64 ua, .int .i64 ub] 100)) W → W.cell? ⟨mb, 8, none⟩ = some (.slice (some ⟨bu, ou, none⟩) lo cu) ∧ W.cell? ⟨bu, ou + k, none⟩ = some (.int .i64 s0) ∧ W.cell? ⟨wr.heap.size, 0, none⟩ = some (.int .i64 ua) ∧ W.cell? ⟨ba, oa + ua, none⟩ = some (.int .i64 a)) := fun W hW => by
                have nb : ∀ q, q < w2.heap.size ∨ wr.heap.size ≤ q → q ∉ (Value.slice BA (lj + j) cc).ownBlock.toList := fun q hq hm => by
                  have hy : (Value.slice BA (lj + j) cc).ownBlock = some q := by simpa using hm
                  have h1 := HOWN.out.lt q hy
                  omega
                have c8 := HBK2.out.cell 8
                simp at c8
                have m8 := (HK2r.out.alloc (.cells #[.int .i64 ua, .int .i64 ub] 100)).cell (by simp) c8
                have mu := (HK2r.out.alloc (.cells #[.int .i64 ua, .int .i64 ub] 100)).cell (by simp) HCU.out
                have ma := ((HK2.out.trans HK2r.out).alloc (.cells #[.int .i64 ua, .int .i64 ub] 100)).cell (by simp) hca0
                have mw := HK2.out.cell (by simp) hca0
                have mx : (wr.alloc (.cells #[.int .i64 ua, .int .i64 ub] 100)).cell? ⟨wr.heap.size, 0, none⟩ = some (.int .i64 ua) := ((Blk.new wr #[.int .i64 ua, .int .i64 ub] 100).cell 0).trans rfl
                exact ⟨hW.cell (nb _ (.inl (cell_lt c8))) m8, hW.cell (nb _ (.inl (cell_lt HCU.out))) mu, hW.cell (nb _ (.inr (Nat.le_refl _))) mx, hW.cell (nb _ (.inl (cell_lt mw))) ma⟩
              have HS : Hid (∀ W, Kept [] (wr.alloc (.cells #[.int .i64 ua, .int .i64 ub] 100)) W → W.cell? ⟨mb, 8, none⟩ = some (.slice (some ⟨bu, ou, none⟩) lo cu) ∧ W.cell? ⟨bu, ou + k, none⟩ = some (.int .i64 s0) ∧ W.cell? ⟨wr.heap.size, 0, none⟩ = some (.int .i64 ua) ∧ W.cell? ⟨ba, oa + ua, none⟩ = some (.int .i64 a)) := fun W hW => HFX.out W hW.nil
              have HSG : Hid (∀ W, (∃ V, Kept [] (wr.alloc (.cells #[.int .i64 ua, .int .i64 ub] 100)) V ∧ V.grownBy W (Value.slice BA (lj + j) cc).ownBlock) → W.cell? ⟨mb, 8, none⟩ = some (.slice (some ⟨bu, ou, none⟩) lo cu) ∧ W.cell? ⟨bu, ou + k, none⟩ = some (.int .i64 s0) ∧ W.cell? ⟨wr.heap.size, 0, none⟩ = some (.int .i64 ua) ∧ W.cell? ⟨ba, oa + ua, none⟩ = some (.int .i64 a)) := fun W ⟨V, hV, hg⟩ =>
                HFX.out W (hV.nil.grown hg (fun y hy => .inl (by rw [hy]; simp)))
              obtain ⟨y, hyy⟩ : ∃ y, g (ua, ub) = y := ⟨_, rfl⟩
              rw [hyy] at HGY
              have HY := Lib.hid hyy
              have HW : Hid (∀ W, Kept [] (wr.alloc (.cells #[.int .i64 ua, .int .i64 ub] 100)) W → Calls Tryz.prog 44 #[.pointer (some ⟨mb, 0, none⟩), .int .i64 s0, .int .i64 h, .int .i64 a] W fun e w' => e = .returned (.int .i64 y) ∧ Kept [] W w') := fun W hW => by
                have h2 := (HK2r.out.alloc (.cells #[.int .i64 ua, .int .i64 ub] 100)).trans hW
                have := HWY.out W mb _ (HK2.out.trans h2) (HBK2.out.kept h2 (by simp)) s0 a
                rwa [HGY.out] at this
              have HOWNC : Hid (∀ W, Kept [] (wr.alloc (.cells #[.int .i64 ua, .int .i64 ub] 100)) W → W.ownsRow w2.heap.size 2 1 (.slice BA (lj + j) cc) (lj + j) ((J ++ (U.take j).map g).map (.int .i64))) := fun W hk => ownsRow_keep (HOWN.out.alloc _) hk (by simp)
              have hsw : (wr.alloc (.cells #[.int .i64 ua, .int .i64 ub] 100)).heap.size = wr.heap.size + 1 := by simp
              have HSW := Lib.hid hsw
              have hk0' : (0 : Int) ≤ (k : Int) := by omega
              have hkl' : (k : Int) < (lo : Int) := by omega
              have hu0' : (0 : Int) ≤ (ua : Int) := by omega
              have hul' : (ua : Int) < (lo : Int) := by omega
              have hsz5 := HSZ.out
              clear hyy hsw
              go_wp2_with fail
              obtain ⟨wq, hwq⟩ : ∃ wq, wr.alloc (.cells #[.int .i64 ua, .int .i64 ub] 100) = wq := ⟨_, rfl⟩
              rw [hwq] at HS HSG HW HOWNC HSW ⊢
              have HKQ : Hid (Kept (Value.slice JA lj jc).ownBlock.toList w4 wq) := by show Kept _ _ _; rw [← hwq]; exact HK.out.alloc _
              have hsq : wq.heap.size = wr.heap.size + 1 := HSW.out
              clear hwq
              go_region_held3 (fun W => W.cell? ⟨mb, 8, none⟩ = some (.slice (some ⟨bu, ou, none⟩) lo cu) ∧ W.cell? ⟨bu, ou + k, none⟩ = some (.int .i64 s0) ∧ W.cell? ⟨wr.heap.size, 0, none⟩ = some (.int .i64 ua) ∧ W.cell? ⟨ba, oa + ua, none⟩ = some (.int .i64 a)) (first | (refine HS.out _ ?_; (repeat (first | exact Kept.refl _ _ | assumption | refine Kept.drewN ?_ _ | refine Kept.drew ?_ | refine Kept.alloc ?_ _)); done) | (refine HSG.out _ ⟨_, ?_, hgrow7⟩; (repeat (first | exact Kept.refl _ _ | assumption | refine Kept.drewN ?_ _ | refine Kept.drew ?_ | refine Kept.alloc ?_ _)); done)) (first
                | (go_at_call 44; refine (HW.out _ (by (repeat (first | exact Kept.refl _ _ | assumption | refine Kept.drewN ?_ _ | refine Kept.drew ?_ | refine Kept.alloc ?_ _)))).mono ?_; rintro e w5 ⟨rfl, hk5⟩; have hk5' : Kept [] wq w5 := Kept.trans (by (repeat (first | exact Kept.refl _ _ | assumption | refine Kept.drewN ?_ _ | refine Kept.drew ?_ | refine Kept.alloc ?_ _))) hk5)
                | (refine step_guard _ _ 27 (by rfl) ?_; refine step_append_lies _ (by rfl) _ _ 27 (by rfl) w2.heap.size 2 i0 (.int .i64 0) 1 8 Tryz.underlying27 hi0 hz0 hz1 hz2 (by rfl) (by decide) (.slice BA (lj + j) cc) (lj + j) _ (by rfl) (HOWNC.out _ (by (repeat (first | exact Kept.refl _ _ | assumption | refine Kept.drewN ?_ _ | refine Kept.drew ?_ | refine Kept.alloc ?_ _)))) ⟨w5.heap.size, 0, none⟩ 1 1 [.int .i64 y] (by rfl) (by rfl) (by (repeat (first | exact cell_one_at _ _ _ _ (by (first | rfl | (simp; done) | (simp; omega))) | refine cells_drew ?_ | refine cells_drewN ?_))) (by simp [Value.oneCell']) (by decide) (by unfold maxLen; omega) (by omega) (by have := hk5'.size; simp; omega) (w5.heap.size + 1) (by (first | rfl | (simp; done) | (simp; omega))) ?_; intro gg cap w7 hown7 hgrow7 hat7 hlt7))
              all_goals
                have HK7 : Hid (Kept (Value.slice JA lj jc).ownBlock.toList w4 w7) := Kept.grown (Kept.trans HKQ.out (Kept.nil (by (repeat (first | exact Kept.refl _ _ | assumption | refine Kept.drewN ?_ _ | refine Kept.drew ?_ | refine Kept.alloc ?_ _))))) hgrow7 (fun y hy => HOB.out y hy)
                have HOB7 : Hid (∀ y, (Value.slice (some ⟨gg, 0, none⟩) (lj + j + 1) cap).ownBlock = some y → y ∈ (Value.slice JA lj jc).ownBlock.toList ∨ w4.heap.size ≤ y) := fun y hy => by
                  have hy' : gg = y := by simpa [Value.ownBlock] using hy
                  subst hy'
                  rcases hat7 with h | h
                  · exact HOB.out _ h
                  · exact .inr (by have := hk5'.size; omega)
                have HOWN7 := Lib.hid hown7
                clear hown7 hgrow7 hat7 hlt7
                go_wp2_with fail
                go_roundw
                case rel => exact ⟨j + 1, by omega, by go_num, by have h7 := HOWN7.out; have hy := HY.out; rw [HTK.out]; simp only [List.map_append, List.map_cons, List.map_nil, hy, List.append_assoc, Nat.add_assoc] at h7 ⊢; exact h7, HOB7.out, HK7.out⟩
                case measure => simp [intOf]; omega
            · have hjm : j = lu := by omega
              subst hjm
              have HLL : Hid ((J ++ (U.take j).map g) = J ++ U.map g) := by show _ = _; rw [List.take_of_length_le (by rw [HLU.out]; omega)]
              have hadd : Hid (∀ W, W = wr → Calls Tryz.prog 45 #[.slice BA (lj + j) cc] W fun e w' => e = .returned (.int .i64 V) ∧ W = w') := fun W hW => by
                subst hW
                have := add_any _ _ _ (RdI.of_own HOWN.out).1
                rwa [HLL.out, HV.out] at this
              go_wp2_with fail
              refine (hadd.out _ rfl).mono ?_
              rintro e w6 ⟨rfl, rfl⟩
              go_wp2_with fail
              go_ret2
              exact ⟨by rw [hFE.out]; rfl, Kept.after HK4.out HK.out (fun y hy => by have h1 := (HJB.out y (by simpa using hy)).1; have := HK2.out.size; omega)⟩

end Go.Proofs.YtbaifjdealmckaaGreat

/- The document's may: what is wrong with a placing. -/
set_option linter.unusedVariables false
set_option linter.unusedSimpArgs false
set_option linter.unnecessarySimpa false
namespace Go.Proofs.YtbaifjdealmckaaGreat
open Go.RowKit Go.Shelf Tr
attribute [local go_sem] Oper.semAt_some

theorem inBb_out (n : Nat) (i : Int) : inBb n i = !outB n i := by
  unfold inBb outB
  by_cases h1 : 0 ≤ i
  · by_cases h2 : i < (n : Int)
    · simp [h1, h2] <;> omega
    · simp [h1, h2] <;> omega
  · simp [h1] <;> omega

set_option maxRecDepth 100000 in
set_option maxHeartbeats 4000000 in
theorem may_any (rb : Nat) (tvv : Value) (P : List Int) (ov fv sv tv pv av zv : Value) (x : PlanD) (r : RatesD) (A S : List Int) (w : World) (hR : RT w rb tvv P)
    (ho : Rds opR w ov x.1) (hf : Rds intsR w fv x.2) (hF : fromLen x.2 ≤ 1048576) (hs : RdI w .i64 sv r.1) (ht : RdI w .i64 tv r.2.1) (hp : RdI w .i64 pv r.2.2) (ha : RdI w .i64 av A) (hz : RdI w .i64 zv S) :
    Calls Tryz.prog 71 #[.pointer (some ⟨rb, 0, none⟩), .agg #[ov, fv], .agg #[sv, tv, pv], av, zv] w fun e w' => e = .returned (.int .i64 (modelE P.length x r A S)) ∧ Kept [] w w' := by
  have HCC := Lib.hid (fun (W : World) (hk : Kept [] w W) => rcostcheck_any ov fv sv tv pv x r W (ho.keep hk) (hf.keep hk) hF (hs.keep hk) (ht.keep hk) (hp.keep hk))
  have HIS : Hid (∀ (W : World) (i : Int), Kept [] w W → Calls Tryz.prog 47 #[.pointer (some ⟨rb, 0, none⟩), .int .i64 i] W fun e w' => e = .returned (.bool (!outB P.length i)) ∧ W = w') := fun W i hk => by
    have := is_ref rb tvv P i W (hR.keep hk)
    rwa [inBb_out] at this
  have HA := Lib.hid ha
  have HZ := Lib.hid hz
  obtain ⟨A1, c, rfl, hmA⟩ := ho.form
  obtain ⟨B, d, rfl, hmB⟩ := hf.form
  obtain ⟨SA, sc, rfl, hmS, -⟩ := hs
  obtain ⟨TA, tc, rfl, hmT, -⟩ := ht
  obtain ⟨PA, pc, rfl, hmP, -⟩ := hp
  obtain ⟨AA, ac, rfl, hmAA, -⟩ := ha
  obtain ⟨ZA, zc, rfl, hmZ, -⟩ := hz
  obtain ⟨E, hEE⟩ : ∃ E, modelE P.length x r A S = E := ⟨_, rfl⟩
  rw [hEE]
  unfold modelE at hEE
  obtain ⟨ec, hec⟩ : ∃ ec, checkE x r = ec := ⟨_, rfl⟩
  rw [hec] at HCC hEE
  obtain ⟨p, hpp⟩ : ∃ p, outB P.length = p := ⟨_, rfl⟩
  rw [hpp] at HIS hEE
  obtain ⟨n, hn⟩ : ∃ n, x.1.length = n := ⟨_, rfl⟩
  obtain ⟨m, hm⟩ : ∃ m, x.2.length = m := ⟨_, rfl⟩
  obtain ⟨ns, hns⟩ : ∃ ns, r.1.length = ns := ⟨_, rfl⟩
  obtain ⟨nt, hnt⟩ : ∃ nt, r.2.1.length = nt := ⟨_, rfl⟩
  obtain ⟨np, hnp⟩ : ∃ np, r.2.2.length = np := ⟨_, rfl⟩
  obtain ⟨la, hla⟩ : ∃ la, A.length = la := ⟨_, rfl⟩
  obtain ⟨ls, hls⟩ : ∃ ls, S.length = ls := ⟨_, rfl⟩
  rw [hn] at hmA HCC hEE ⊢
  rw [hm] at hmB HCC ⊢
  simp only [hns] at hmS HCC hEE ⊢
  simp only [hnt] at hmT HCC ⊢
  simp only [hnp] at hmP HCC ⊢
  rw [hla] at hmAA HA hEE ⊢
  rw [hls] at hmZ HZ hEE ⊢
  unfold maxLen at hmAA hmZ
  have HE := Lib.hid hEE
  have HLA := Lib.hid hla
  have HLS := Lib.hid hls
  clear hn hm hns hnt hnp hla hls hec hpp hEE hF ho hf hR
  have HK0 := Lib.hid (((Kept.refl [] w).alloc (.cells #[.slice A1 n c, .slice B m d] 26)).alloc (.cells #[.slice SA ns sc, .slice TA nt tc, .slice PA np pc] 29))
  have HB0 : Hid (Blk ((w.alloc (.cells #[.slice A1 n c, .slice B m d] 26)).alloc (.cells #[.slice SA ns sc, .slice TA nt tc, .slice PA np pc] 29)) w.heap.size #[.slice A1 n c, .slice B m d] 26) := (Blk.new w _ _).alloc _
  have HB1 : Hid (Blk ((w.alloc (.cells #[.slice A1 n c, .slice B m d] 26)).alloc (.cells #[.slice SA ns sc, .slice TA nt tc, .slice PA np pc] 29)) (w.heap.size + 1) #[.slice SA ns sc, .slice TA nt tc, .slice PA np pc] 29) := by
    have := Blk.new (w.alloc (.cells #[.slice A1 n c, .slice B m d] 26)) #[.slice SA ns sc, .slice TA nt tc, .slice PA np pc] 29
    rwa [show (w.alloc (.cells #[.slice A1 n c, .slice B m d] 26)).heap.size = w.heap.size + 1 by simp] at this
  go_enter Tryz.func71, Tryz.ntmps71
  go_wp2_with fail
  refine (HCC.out _ HK0.out).mono ?_
  rintro e w1 ⟨rfl, k1⟩
  have HK1 := Lib.hid (HK0.out.trans k1)
  have c0 := (HB0.out.kept k1 (by simp)).cell 0
  have s0 := (HB1.out.kept k1 (by simp)).cell 0
  simp at c0 s0
  clear k1 HB0 HB1
  by_cases hz : ec = 0
  · subst hz
    rw [if_pos rfl] at HE
    by_cases h1 : la = n
    · subst h1
      by_cases h2 : ls = ns
      · subst h2
        go_wp2_with fail
        go_loopw [12] (fun jj wr => ∃ (j : Nat), j ≤ la ∧ jj = .int .i64 j ∧ A.any p = (A.drop j).any p ∧ wr = w1) (fun jj _ => la - (intOf jj).toNat)
        case atStart => exact ⟨0, by omega, rfl, rfl, rfl⟩
        case round =>
          obtain ⟨j, hj, rfl, hg, rfl⟩ := hrel
          have HGO := Lib.hid hg
          clear hg
          by_cases hlt : j < la
          · obtain ⟨bz, oz, c', f, he, hy, hcf0⟩ := RdI.at HA.out (i := j) (by rw [HLA.out]; exact hlt)
            injection he with he1 he2 he3
            subst he1 he3
            have hcf := HK1.out.cell (by simp) hcf0
            have HD := Lib.hid (drop_at hy)
            obtain ⟨q, hq⟩ : ∃ q, p f = q := ⟨_, rfl⟩
            have HC := Lib.hid (HIS.out wr f HK1.out)
            rw [hq] at HC
            have HQ := Lib.hid hq
            clear hy he2 hcf0 hq
            go_wp2_with fail
            refine HC.out.mono ?_
            rintro e w5 ⟨rfl, rfl⟩
            cases q with
            | true =>
              have hE : Hid (E = 1) := by show _ = _; rw [← HE.out, HGO.out, HD.out, List.any_cons, HQ.out]; simp [placeE]
              rw [show (!true) = false from rfl]
              go_wp2_with fail
              go_ret
              exact ⟨by rw [hE.out]; rfl, HK1.out⟩
            | false =>
              have HGN : Hid (A.any p = (A.drop (j + 1)).any p) := by show _ = _; rw [HGO.out, HD.out, List.any_cons, HQ.out]; rfl
              rw [show (!false) = true from rfl]
              go_wp2_with fail
              go_roundw
              case rel => exact ⟨j + 1, by omega, by go_num, HGN.out, by first | trivial | rfl⟩
              case measure => simp [intOf]; omega
          · have HQA : Hid (A.any p = false) := by
              show _ = _
              rw [HGO.out, List.drop_eq_nil_of_le (by rw [HLA.out]; omega)]
              rfl
            go_wp2_with fail
            go_loopw [13] (fun jj w2 => ∃ (j : Nat), j ≤ ls ∧ jj = .int .i64 j ∧ S.any p = (S.drop j).any p ∧ w2 = wr) (fun jj _ => ls - (intOf jj).toNat)
            case atStart => exact ⟨0, by omega, rfl, rfl, rfl⟩
            case round =>
              obtain ⟨i, hi, rfl, hg, rfl⟩ := hrel
              have HGO2 := Lib.hid hg
              clear hg
              by_cases hlt2 : i < ls
              · obtain ⟨bz, oz, c', f, he, hy, hcf0⟩ := RdI.at HZ.out (i := i) (by rw [HLS.out]; exact hlt2)
                injection he with he1 he2 he3
                subst he1 he3
                have hcf := HK1.out.cell (by simp) hcf0
                have HD := Lib.hid (drop_at hy)
                obtain ⟨q, hq⟩ : ∃ q, p f = q := ⟨_, rfl⟩
                have HC := Lib.hid (HIS.out _ f HK1.out)
                rw [hq] at HC
                have HQ := Lib.hid hq
                clear hy he2 hcf0 hq
                go_wp2_with fail
                refine HC.out.mono ?_
                rintro e w5 ⟨rfl, rfl⟩
                cases q with
                | true =>
                  have hE : Hid (E = 1) := by show _ = _; rw [← HE.out, HGO2.out, HD.out, List.any_cons, HQ.out]; simp [placeE]
                  rw [show (!true) = false from rfl]
                  go_wp2_with fail
                  go_ret
                  exact ⟨by rw [hE.out]; rfl, HK1.out⟩
                | false =>
                  have HGN : Hid (S.any p = (S.drop (i + 1)).any p) := by show _ = _; rw [HGO2.out, HD.out, List.any_cons, HQ.out]; rfl
                  rw [show (!false) = true from rfl]
                  go_wp2_with fail
                  go_roundw
                  case rel => exact ⟨i + 1, by omega, by go_num, HGN.out, by first | trivial | rfl⟩
                  case measure => simp [intOf]; omega
              · have HQS : Hid (S.any p = false) := by
                  show _ = _
                  rw [HGO2.out, List.drop_eq_nil_of_le (by rw [HLS.out]; omega)]
                  rfl
                have hE : Hid (E = 0) := by show _ = _; rw [← HE.out, HQA.out, HQS.out]; simp [placeE]
                go_wp2_with fail
                go_ret
                exact ⟨by rw [hE.out]; rfl, HK1.out⟩
      · have h2' : ((ls : Int) != (ns : Int)) = true := by rw [bne_iff_ne]; omega
        have hE : Hid (E = 1) := by show _ = _; rw [← HE.out]; simp [placeE, h2]
        go_wp2_with fail
        go_ret
        exact ⟨by rw [hE.out]; rfl, HK1.out⟩
    · have h1' : ((la : Int) != (n : Int)) = true := by rw [bne_iff_ne]; omega
      have hE : Hid (E = 1) := by show _ = _; rw [← HE.out]; simp [placeE, h1]
      go_wp2_with fail
      go_ret
      exact ⟨by rw [hE.out]; rfl, HK1.out⟩
  · have hE : Hid (E = ec) := by show _ = _; rw [← HE.out, if_neg hz]
    have hz' : (ec != 0) = true := by simpa using hz
    go_wp2_with fail
    go_ret
    exact ⟨by rw [hE.out]; rfl, HK1.out⟩

end Go.Proofs.YtbaifjdealmckaaGreat

/- The document's ins: what an operator's inputs cost. -/
set_option linter.unusedVariables false
set_option linter.unusedSimpArgs false
set_option linter.unnecessarySimpa false
namespace Go.Proofs.YtbaifjdealmckaaGreat
open Go.RowKit Go.Shelf Tr
attribute [local go_sem] Oper.semAt_some

set_option maxRecDepth 100000 in
set_option maxHeartbeats 4000000 in
theorem rins_term (rb : Nat) (tvv : Value) (P : List Int) (x : PlanD) (r : RatesD) (O A S : List Int) (ov fv sv tv pv av zv uv : Value) (k : Nat) (h : Int) (w : World) (hR : RT w rb tvv P) (hT : Tree P)
    (ho : Rds opR w ov x.1) (hs : RdI w .i64 sv r.1) (hz : RdI w .i64 zv S)
    (hk : k < x.1.length) (h1 : (opAt x k).1 = 1) (hl : S.length = r.1.length) (hl2 : S.length ≤ 1048576) :
    Calls Tryz.prog 73 #[.pointer (some ⟨rb, 0, none⟩), .agg #[ov, fv], .agg #[sv, tv, pv], av, .int .i64 k, .int .i64 h, zv, uv] w (IntsPost w (inV P x r O A S k h)) := by
  obtain ⟨i0, hi0, hz0, hz1, hz2⟩ := info_parts info64
  rw [inV, if_pos h1]
  have HDS := Lib.hid (fun (a : Int) (W : World) (hW : Kept [] w W) => rdist_any rb tvv P a h W (hR.keep hW) hT)
  obtain ⟨b1, off, c, o, cs, he, hx, hE, hc⟩ := ho.at hk
  obtain ⟨xv, cv, rfl, hrt, hrc, hz1', hz2'⟩ := opR_cells hE
  obtain ⟨o0, o1, o2, o3, o4, o5, o6⟩ := o
  have e0 := hc 0 (by decide)
  simp [opCells, show opR.sz = 7 from rfl] at e0
  have ho1 : o0 = 1 := by rw [opAt_of hx] at h1; exact h1
  have hltb := cell_lt e0
  subst ho1
  subst he
  obtain ⟨n, hn⟩ : ∃ n, x.1.length = n := ⟨_, rfl⟩
  rw [hn] at hk ⊢
  have HSR := Lib.hid hs
  have HZR := Lib.hid hz
  obtain ⟨ZA, zc, rfl, hmZ, -⟩ := hz
  obtain ⟨SA, sc, rfl, hmS, -⟩ := hs
  obtain ⟨m, hm⟩ : ∃ m, S.length = m := ⟨_, rfl⟩
  rw [hm] at hl hl2 hmZ HZR ⊢
  rw [← hl] at hmS HSR ⊢
  have HLS := Lib.hid hl
  have HLZ := Lib.hid hm
  have hgl := srcV_le P h r.1 S
  rw [hm] at hgl
  obtain ⟨G, hG⟩ : ∃ G, srcV P h r.1 S = G := ⟨_, rfl⟩
  rw [hG] at hgl ⊢
  have HG := Lib.hid hG
  have HGL : Hid (G.length ≤ 1048576) := by show _ ≤ _; omega
  clear h1 hx hE hc hrt hrc hz1' hz2' hn hl hm hgl hG hR ho
  have HK0 := Lib.hid (((Kept.refl [] w).alloc (.cells #[.slice (some ⟨b1, off, none⟩) n c, fv] 26)).alloc (.cells #[.slice SA m sc, tv, pv] 29))
  have HB1 : Hid (Blk ((w.alloc (.cells #[.slice (some ⟨b1, off, none⟩) n c, fv] 26)).alloc (.cells #[.slice SA m sc, tv, pv] 29)) (w.heap.size + 1) #[.slice SA m sc, tv, pv] 29) := by
    have := Blk.new (w.alloc (.cells #[.slice (some ⟨b1, off, none⟩) n c, fv] 26)) #[.slice SA m sc, tv, pv] 29
    rwa [show (w.alloc (.cells #[.slice (some ⟨b1, off, none⟩) n c, fv] 26)).heap.size = w.heap.size + 1 by simp] at this
  have HWS : Hid (w.heap.size ≤ ((w.alloc (.cells #[.slice (some ⟨b1, off, none⟩) n c, fv] 26)).alloc (.cells #[.slice SA m sc, tv, pv] 29)).heap.size) := HK0.out.size
  go_enter Tryz.func73, Tryz.ntmps73
  go_wp2_with fail
  obtain ⟨w0, hw0⟩ : ∃ w0, (w.alloc (.cells #[.slice (some ⟨b1, off, none⟩) n c, fv] 26)).alloc (.cells #[.slice SA m sc, tv, pv] 29) = w0 := ⟨_, rfl⟩
  rw [hw0] at HK0 HB1 HWS ⊢
  clear hw0
  go_loopw [17, 18] (fun o jj wr => ∃ (j : Nat) (L : List Int), j ≤ m ∧ jj = .int .i64 j ∧ L ++ srcV P h (r.1.drop j) (S.drop j) = G ∧ wr.ownsRow w0.heap.size 2 1 o L.length (L.map (.int .i64)) ∧ Kept [] w0 wr) (fun _ jj _ => m - (intOf jj).toNat)
  case atStart => exact ⟨0, [], by omega, rfl, by rw [List.drop_zero, List.drop_zero]; exact HG.out, World.ownsRow_nil _ _ _ _, Kept.refl _ _⟩
  case round =>
    obtain ⟨j, L, hj, rfl, hg, hown, hK⟩ := hrel
    have HGO := Lib.hid hg
    obtain ⟨AA, cc, rfl⟩ := own_len hown
    have HOWN := Lib.hid hown
    have HGB : Hid (∀ x, (Value.slice AA L.length cc).ownBlock = some x → w0.heap.size ≤ x) := fun x hx => (hown.lt x hx).1
    have HK := Lib.hid hK
    have hsz2 := hK.size
    clear hg hown hK
    by_cases hlt : j < m
    · obtain ⟨bz, oz, c', a, he, hy, hca0⟩ := RdI.at HZR.out (i := j) (by rw [HLZ.out]; exact hlt)
      injection he with he1 he2 he3
      subst he1 he3
      obtain ⟨bs, os, c'', s, he, hy2, hcs0⟩ := RdI.at HSR.out (i := j) (by rw [← HLS.out]; exact hlt)
      injection he with he1 he4 he3
      subst he1 he3
      have HD1 := Lib.hid (drop_at hy)
      have HD2 := Lib.hid (drop_at hy2)
      obtain ⟨ML, hML⟩ : ∃ ML, L.length = ML := ⟨_, rfl⟩
      rw [hML] at HOWN HGB ⊢
      have HMLL := Lib.hid hML
      obtain ⟨dd, hdd⟩ : ∃ dd, distG P a h = dd := ⟨_, rfl⟩
      obtain ⟨y, hyy⟩ : ∃ y, mulV [s, dd] = y := ⟨_, rfl⟩
      have hway : wayV P s a h = y := by unfold wayV; rw [hdd, hyy]
      have HDI := Lib.hid (fun (W : World) (hW : Kept [] wr W) => HDS.out a W ((HK0.out.trans HK.out).trans hW))
      rw [hdd] at HDI
      have HMUL : Hid (∀ (W : World) (b : Nat), RdI W .i64 (.slice (some ⟨b, 0, none⟩) 2 2) [s, dd] → Calls Tryz.prog 75 #[.slice (some ⟨b, 0, none⟩) 2 2] W fun e w' => e = .returned (.int .i64 y) ∧ ∃ m, w' = W.drewN m) := fun W b hb => by
        rw [← hyy]
        exact rmul_any _ _ _ hb
      have HGN : Hid (L ++ y :: srcV P h (r.1.drop (j + 1)) (S.drop (j + 1)) = G) := by
        show _ = _
        rw [← HGO.out, HD1.out, HD2.out, srcV, hway]
      have hML3 : ML < 1048576 := by
        have h1 := HGL.out
        rw [← HGN.out, List.length_append, List.length_cons, HMLL.out] at h1
        omega
      have HFX : Hid (∀ W, Kept (Value.slice AA ML cc).ownBlock.toList wr W → W.cell? ⟨w.heap.size + 1, 0, none⟩ = some (.slice (some ⟨bs, os, none⟩) m sc) ∧ W.cell? ⟨bs, os + j, none⟩ = some (.int .i64 s) ∧ W.cell? ⟨bz, oz + j, none⟩ = some (.int .i64 a)) := fun W hW => by
        have nb : ∀ q, q < w0.heap.size → q ∉ (Value.slice AA ML cc).ownBlock.toList := fun q hq hm => by
          have hy : (Value.slice AA ML cc).ownBlock = some q := by simpa using hm
          have h1 := HGB.out q hy
          omega
        have m0 := HB1.out.cell 0
        simp at m0
        have m1 := HK0.out.cell (by simp) hcs0
        have m2 := HK0.out.cell (by simp) hca0
        have n0 := HK.out.cell (by simp) m0
        have n1 := HK.out.cell (by simp) m1
        have n2 := HK.out.cell (by simp) m2
        exact ⟨hW.cell (nb _ (cell_lt m0)) n0, hW.cell (nb _ (cell_lt m1)) n1, hW.cell (nb _ (cell_lt m2)) n2⟩
      have HS : Hid (∀ W, Kept [] wr W → W.cell? ⟨w.heap.size + 1, 0, none⟩ = some (.slice (some ⟨bs, os, none⟩) m sc) ∧ W.cell? ⟨bs, os + j, none⟩ = some (.int .i64 s) ∧ W.cell? ⟨bz, oz + j, none⟩ = some (.int .i64 a)) := fun W hW => HFX.out W hW.nil
      have HSG : Hid (∀ W, (∃ V, Kept [] wr V ∧ V.grownBy W (Value.slice AA ML cc).ownBlock) → W.cell? ⟨w.heap.size + 1, 0, none⟩ = some (.slice (some ⟨bs, os, none⟩) m sc) ∧ W.cell? ⟨bs, os + j, none⟩ = some (.int .i64 s) ∧ W.cell? ⟨bz, oz + j, none⟩ = some (.int .i64 a)) := fun W ⟨V, hV, hg⟩ => HFX.out W (hV.nil.grown hg (fun y hy => .inl (by rw [hy]; simp)))
      have HOWNC : Hid (∀ W, Kept [] wr W → W.ownsRow w0.heap.size 2 1 (.slice AA ML cc) ML (L.map (.int .i64))) := fun W hk => ownsRow_keep HOWN.out hk (by simp)
      have hj0 : (0 : Int) ≤ (j : Int) := by omega
      have hjm : (j : Int) < (m : Int) := by omega
      clear hy hy2 he2 he4 hca0 hcs0 hML hyy hdd hway
      go_wp2_with fail
      go_region_held3 (fun W => W.cell? ⟨w.heap.size + 1, 0, none⟩ = some (.slice (some ⟨bs, os, none⟩) m sc) ∧ W.cell? ⟨bs, os + j, none⟩ = some (.int .i64 s) ∧ W.cell? ⟨bz, oz + j, none⟩ = some (.int .i64 a)) (first | (refine HS.out _ ?_; (repeat (first | exact Kept.refl _ _ | assumption | refine Kept.drewN ?_ _ | refine Kept.drew ?_ | refine Kept.alloc ?_ _)); done) | (refine HSG.out _ ⟨_, ?_, hgrow7⟩; (repeat (first | exact Kept.refl _ _ | assumption | refine Kept.drewN ?_ _ | refine Kept.drew ?_ | refine Kept.alloc ?_ _)); done)) (first
        | (go_at_call 76; refine (HDI.out _ (by (repeat (first | exact Kept.refl _ _ | assumption | refine Kept.drewN ?_ _ | refine Kept.drew ?_ | refine Kept.alloc ?_ _)))).mono ?_; rintro e w5 ⟨rfl, hk5⟩; have hk5' : Kept [] wr w5 := Kept.trans (by (repeat (first | exact Kept.refl _ _ | assumption | refine Kept.drewN ?_ _ | refine Kept.drew ?_ | refine Kept.alloc ?_ _))) hk5)
        | (go_at_call 75; refine (HMUL.out _ _ (by (repeat (first | exact two_at (by (first | rfl | (simp; done) | (simp; omega))) | refine RdI.drew1 ?_ | refine RdI.drewN ?_ _)))).mono ?_; rintro e w6 ⟨rfl, m6, rfl⟩)
        | (refine step_guard _ _ 27 (by rfl) ?_; refine step_append_lies _ (by rfl) _ _ 27 (by rfl) w0.heap.size 2 i0 (.int .i64 0) 1 8 Tryz.underlying27 hi0 hz0 hz1 hz2 (by rfl) (by decide) (.slice AA ML cc) ML (L.map (.int .i64)) (by rfl) (HOWNC.out _ (by (repeat (first | exact Kept.refl _ _ | assumption | refine Kept.drewN ?_ _ | refine Kept.drew ?_ | refine Kept.alloc ?_ _)))) ⟨w5.heap.size + 1, 0, none⟩ 1 1 [.int .i64 y] (by rfl) (by rfl) (by (repeat (first | exact cell_one_at _ _ _ _ (by (first | rfl | (simp; done) | (simp; omega))) | refine cells_drew ?_ | refine cells_drewN ?_))) (by simp [Value.oneCell']) (by decide) (by unfold maxLen; omega) (by omega) (by have := hk5'.size; simp; omega) (w5.heap.size + 1 + 1) (by (first | rfl | (simp; done) | (simp; omega))) ?_; intro gg cap w7 hown7 hgrow7 hat7 hlt7))
      all_goals
        have HK7 : Hid (Kept [] w0 w7) := Kept.grown (S := []) (a := w0) (Kept.trans HK.out (by (repeat (first | exact Kept.refl _ _ | assumption | refine Kept.drewN ?_ _ | refine Kept.drew ?_ | refine Kept.alloc ?_ _)))) hgrow7 (fun y hy => .inr (HGB.out y hy))
        have HOWN7 := Lib.hid hown7
        clear hown7 hgrow7 hat7 hlt7
        go_wp2_with fail
        go_roundw
        case rel => exact ⟨j + 1, L ++ [y], by omega, by go_num, by rw [← HGN.out]; simp, by rw [List.map_append, List.length_append, HMLL.out]; exact HOWN7.out, HK7.out⟩
        case measure => simp [intOf]; omega
    · have HLG : Hid (L = G) := by
        show _ = _
        have := HGO.out
        rw [List.drop_eq_nil_of_le (show S.length ≤ j from by rw [HLZ.out]; omega)] at this
        rw [← this]
        cases r.1.drop j <;> simp [srcV]
      go_wp2_with fail
      go_ret
      refine ⟨_, rfl, ?_, HK0.out.trans HK.out⟩
      rw [← HLG.out]
      exact rowBase HOWN.out HWS.out

end Go.Proofs.YtbaifjdealmckaaGreat

/- The document's ins: an operator that is no term. -/
set_option linter.unusedVariables false
set_option linter.unusedSimpArgs false
set_option linter.unnecessarySimpa false
namespace Go.Proofs.YtbaifjdealmckaaGreat
open Go.RowKit Go.Shelf Tr
attribute [local go_sem] Oper.semAt_some

set_option maxRecDepth 100000 in
set_option maxHeartbeats 4000000 in
theorem rins_else (rb : Nat) (tvv : Value) (P : List Int) (x : PlanD) (r : RatesD) (O A S : List Int) (ov fv sv tv pv av zv uv : Value) (k : Nat) (h : Int) (w : World) (hR : RT w rb tvv P) (hT : Tree P)
    (ho : Rds opR w ov x.1) (hf : Rds intsR w fv x.2) (ha : RdI w .i64 av A) (hu : RdI w .i64 uv O)
    (hk : k < x.1.length) (h1 : ¬ (opAt x k).1 = 1) (hr : x.2.length = x.1.length) (hO : O.length = x.1.length) (hA : A.length = x.1.length) (hn32 : x.1.length ≤ 32) (hF : fromLen x.2 ≤ 1048576)
    (hrow : ∀ f ∈ rowAt x k, 0 ≤ f ∧ f < (x.1.length : Int)) :
    Calls Tryz.prog 73 #[.pointer (some ⟨rb, 0, none⟩), .agg #[ov, fv], .agg #[sv, tv, pv], av, .int .i64 k, .int .i64 h, zv, uv] w (IntsPost w (inV P x r O A S k h)) := by
  obtain ⟨i0, hi0, hz0, hz1, hz2⟩ := info_parts info64
  rw [inV, if_neg h1]
  have HDS := Lib.hid (fun (a : Int) (W : World) (hW : Kept [] w W) => rdist_any rb tvv P a h W (hR.keep hW) hT)
  obtain ⟨b1, off, c, o, cs, he, hx, hE, hc⟩ := ho.at hk
  obtain ⟨xv, cv, rfl, hrt, hrc, hz1', hz2'⟩ := opR_cells hE
  obtain ⟨o0, o1, o2, o3, o4, o5, o6⟩ := o
  have e0 := hc 0 (by decide)
  simp [opCells, show opR.sz = 7 from rfl] at e0
  have ho1 : (o0 == 1) = false := by rw [beq_eq_false_iff_ne]; rw [opAt_of hx] at h1; exact h1
  have hltb := cell_lt e0
  subst he
  obtain ⟨b2, off2, c2, row, cs2, he, hx2, hE2, hc2⟩ := hf.at (k := k) (by omega)
  obtain ⟨rv, rfl, hro⟩ := intsR_cells hE2
  have e00 := hc2 0 (by decide)
  simp only [show intsR.sz = 1 from rfl, Nat.mul_one, Nat.add_zero, List.getElem?_cons_zero] at e00
  have HROW := Lib.hid hro.ints
  obtain ⟨RA, rc, rfl, hrm⟩ := hro.form
  subst he
  rw [rowAt_of hx2] at hrow ⊢
  have hrl := Nat.le_trans (row_fromLen hx2) hF
  have HRW := Lib.hid hrow
  obtain ⟨n, hn⟩ : ∃ n, x.1.length = n := ⟨_, rfl⟩
  rw [hn] at hk hr hO hA hn32 HRW ⊢
  rw [hr]
  have HUR := Lib.hid hu
  have HAR := Lib.hid ha
  obtain ⟨UA, uc, rfl, hmU, -⟩ := hu
  obtain ⟨AA, ac, rfl, hmA, -⟩ := ha
  rw [hO] at hmU HUR ⊢
  rw [hA] at hmA HAR ⊢
  have HLO := Lib.hid hO
  have HLA := Lib.hid hA
  obtain ⟨m, hm⟩ : ∃ m, row.length = m := ⟨_, rfl⟩
  rw [hm] at hrl HROW hrm e00
  have HLM := Lib.hid hm
  unfold maxLen at hmU hmA
  obtain ⟨g, hg⟩ : ∃ g, g = (fun f : Int => wayV P (O.getD f.toNat 0) (A.getD f.toNat 0) h) := ⟨_, rfl⟩
  rw [← hg]
  have HG : Hid (∀ (f : Nat) (s a : Int), O[f]? = some s → A[f]? = some a → wayV P s a h = g (f : Int)) := fun f s a h1 h2 => by
    rw [hg]; simp only [Int.toNat_natCast, List.getD, h1, h2, Option.getD]
  clear h1 hx hE hc hrt hrc hz1' hz2' hx2 hE2 hc2 hro hn hr hO hA hm hrow hg hF hR ho hf
  have HK0 := Lib.hid (((Kept.refl [] w).alloc (.cells #[.slice (some ⟨b1, off, none⟩) n c, .slice (some ⟨b2, off2, none⟩) n c2] 26)).alloc (.cells #[sv, tv, pv] 29))
  have HB0 : Hid (Blk ((w.alloc (.cells #[.slice (some ⟨b1, off, none⟩) n c, .slice (some ⟨b2, off2, none⟩) n c2] 26)).alloc (.cells #[sv, tv, pv] 29)) w.heap.size #[.slice (some ⟨b1, off, none⟩) n c, .slice (some ⟨b2, off2, none⟩) n c2] 26) := (Blk.new w _ _).alloc _
  have HWS : Hid (w.heap.size ≤ ((w.alloc (.cells #[.slice (some ⟨b1, off, none⟩) n c, .slice (some ⟨b2, off2, none⟩) n c2] 26)).alloc (.cells #[sv, tv, pv] 29)).heap.size) := HK0.out.size
  have hk0 : (0 : Int) ≤ (k : Int) := by omega
  have hkn : (k : Int) < (n : Int) := by omega
  go_enter Tryz.func73, Tryz.ntmps73
  go_wp2_with fail
  obtain ⟨w0, hw0⟩ : ∃ w0, (w.alloc (.cells #[.slice (some ⟨b1, off, none⟩) n c, .slice (some ⟨b2, off2, none⟩) n c2] 26)).alloc (.cells #[sv, tv, pv] 29) = w0 := ⟨_, rfl⟩
  rw [hw0] at HK0 HB0 HWS ⊢
  clear hw0
  go_loopw [17, 19] (fun o jj wr => ∃ (j : Nat), j ≤ m ∧ jj = .int .i64 j ∧ wr.ownsRow w0.heap.size 2 1 o j (((row.take j).map g).map (.int .i64)) ∧ Kept [] w0 wr) (fun _ jj _ => m - (intOf jj).toNat)
  case atStart => exact ⟨0, by omega, rfl, World.ownsRow_nil _ _ _ _, Kept.refl _ _⟩
  case round =>
    obtain ⟨j, hj, rfl, hown, hK⟩ := hrel
    obtain ⟨BA, cc, rfl⟩ := own_len hown
    have HOWN := Lib.hid hown
    have HGB : Hid (∀ x, (Value.slice BA j cc).ownBlock = some x → w0.heap.size ≤ x) := fun x hx => (hown.lt x hx).1
    have HK := Lib.hid hK
    have hsz2 := hK.size
    have b1c := (HB0.out.kept hK (by simp)).cell 1
    simp at b1c
    have e00r := (HK0.out.trans hK).cell (by simp) e00
    clear hown hK
    by_cases hlt : j < m
    · obtain ⟨bz, oz, c', f, he, hy, hcf0⟩ := RdI.at HROW.out (i := j) (by rw [HLM.out]; exact hlt)
      injection he with he1 he2 he3
      subst he1 he3
      obtain ⟨hf0, hfn⟩ := HRW.out f (List.mem_of_getElem? hy)
      obtain ⟨q, rfl⟩ := Int.eq_ofNat_of_zero_le hf0
      have hqn : q < n := by omega
      obtain ⟨bu, ou, cu, s, he, hys, hcs0⟩ := RdI.at HUR.out (i := q) (by rw [HLO.out]; exact hqn)
      injection he with he1 he4 he3
      subst he1 he3
      obtain ⟨ba, oa, ca, a, he, hya, hca0⟩ := RdI.at HAR.out (i := q) (by rw [HLA.out]; exact hqn)
      injection he with he1 he5 he3
      subst he1 he3
      have hcf := (HK0.out.trans HK.out).cell (by simp) hcf0
      have HFX : Hid (∀ W, Kept (Value.slice BA j cc).ownBlock.toList wr W → W.cell? ⟨bu, ou + q, none⟩ = some (.int .i64 s) ∧ W.cell? ⟨ba, oa + q, none⟩ = some (.int .i64 a)) := fun W hW => by
        have nb : ∀ q, q < w0.heap.size → q ∉ (Value.slice BA j cc).ownBlock.toList := fun q hq hm => by
          have hy : (Value.slice BA j cc).ownBlock = some q := by simpa using hm
          have h1 := HGB.out q hy
          omega
        have m1 := HK0.out.cell (by simp) hcs0
        have m2 := HK0.out.cell (by simp) hca0
        have n1 := HK.out.cell (by simp) m1
        have n2 := HK.out.cell (by simp) m2
        exact ⟨hW.cell (nb _ (cell_lt m1)) n1, hW.cell (nb _ (cell_lt m2)) n2⟩
      have HS : Hid (∀ W, Kept [] wr W → W.cell? ⟨bu, ou + q, none⟩ = some (.int .i64 s) ∧ W.cell? ⟨ba, oa + q, none⟩ = some (.int .i64 a)) := fun W hW => HFX.out W hW.nil
      have HSG : Hid (∀ W, (∃ V, Kept [] wr V ∧ V.grownBy W (Value.slice BA j cc).ownBlock) → W.cell? ⟨bu, ou + q, none⟩ = some (.int .i64 s) ∧ W.cell? ⟨ba, oa + q, none⟩ = some (.int .i64 a)) := fun W ⟨V, hV, hg⟩ => HFX.out W (hV.nil.grown hg (fun y hy => .inl (by rw [hy]; simp)))
      obtain ⟨dd, hdd⟩ : ∃ dd, distG P a h = dd := ⟨_, rfl⟩
      obtain ⟨y, hyy⟩ : ∃ y, mulV [s, dd] = y := ⟨_, rfl⟩
      have hway : wayV P s a h = y := by unfold wayV; rw [hdd, hyy]
      have HY : Hid (g (q : Int) = y) := by show _ = _; rw [← hway]; exact (HG.out q s a hys hya).symm
      have HDI := Lib.hid (fun (W : World) (hW : Kept [] wr W) => HDS.out a W ((HK0.out.trans HK.out).trans hW))
      rw [hdd] at HDI
      have HMUL : Hid (∀ (W : World) (b : Nat), RdI W .i64 (.slice (some ⟨b, 0, none⟩) 2 2) [s, dd] → Calls Tryz.prog 75 #[.slice (some ⟨b, 0, none⟩) 2 2] W fun e w' => e = .returned (.int .i64 y) ∧ ∃ m, w' = W.drewN m) := fun W b hb => by
        rw [← hyy]
        exact rmul_any _ _ _ hb
      have HTK : Hid (row.take (j + 1) = row.take j ++ [(q : Int)]) := by
        show _ = _
        obtain ⟨q1, q2⟩ := List.getElem?_eq_some_iff.1 hy
        rw [List.take_succ_eq_append_getElem q1, q2]
      have HOWNC : Hid (∀ W, Kept [] wr W → W.ownsRow w0.heap.size 2 1 (.slice BA j cc) j (((row.take j).map g).map (.int .i64))) := fun W hk => ownsRow_keep HOWN.out hk (by simp)
      have hq0 : (0 : Int) ≤ (q : Int) := by omega
      have hqn' : (q : Int) < (n : Int) := by omega
      have hj0 : (0 : Int) ≤ (j : Int) := by omega
      have hjm : (j : Int) < (m : Int) := by omega
      clear hy hys hya he2 he4 he5 hcs0 hca0 hcf0 hyy hdd hway hfn hf0
      go_wp2_with fail
      go_region_held3 (fun W => W.cell? ⟨bu, ou + q, none⟩ = some (.int .i64 s) ∧ W.cell? ⟨ba, oa + q, none⟩ = some (.int .i64 a)) (first | (refine HS.out _ ?_; (repeat (first | exact Kept.refl _ _ | assumption | refine Kept.drewN ?_ _ | refine Kept.drew ?_ | refine Kept.alloc ?_ _)); done) | (refine HSG.out _ ⟨_, ?_, hgrow7⟩; (repeat (first | exact Kept.refl _ _ | assumption | refine Kept.drewN ?_ _ | refine Kept.drew ?_ | refine Kept.alloc ?_ _)); done)) (first
        | (go_at_call 76; refine (HDI.out _ (by (repeat (first | exact Kept.refl _ _ | assumption | refine Kept.drewN ?_ _ | refine Kept.drew ?_ | refine Kept.alloc ?_ _)))).mono ?_; rintro e w5 ⟨rfl, hk5⟩; have hk5' : Kept [] wr w5 := Kept.trans (by (repeat (first | exact Kept.refl _ _ | assumption | refine Kept.drewN ?_ _ | refine Kept.drew ?_ | refine Kept.alloc ?_ _))) hk5)
        | (go_at_call 75; refine (HMUL.out _ _ (by (repeat (first | exact two_at (by (first | rfl | (simp; done) | (simp; omega))) | refine RdI.drew1 ?_ | refine RdI.drewN ?_ _)))).mono ?_; rintro e w6 ⟨rfl, m6, rfl⟩)
        | (refine step_guard _ _ 27 (by rfl) ?_; refine step_append_lies _ (by rfl) _ _ 27 (by rfl) w0.heap.size 2 i0 (.int .i64 0) 1 8 Tryz.underlying27 hi0 hz0 hz1 hz2 (by rfl) (by decide) (.slice BA j cc) j _ (by rfl) (HOWNC.out _ (by (repeat (first | exact Kept.refl _ _ | assumption | refine Kept.drewN ?_ _ | refine Kept.drew ?_ | refine Kept.alloc ?_ _)))) ⟨w5.heap.size + 1, 0, none⟩ 1 1 [.int .i64 y] (by rfl) (by rfl) (by (repeat (first | exact cell_one_at _ _ _ _ (by (first | rfl | (simp; done) | (simp; omega))) | refine cells_drew ?_ | refine cells_drewN ?_))) (by simp [Value.oneCell']) (by decide) (by unfold maxLen; omega) (by omega) (by have := hk5'.size; simp; omega) (w5.heap.size + 1 + 1) (by (first | rfl | (simp; done) | (simp; omega))) ?_; intro gg cap w7 hown7 hgrow7 hat7 hlt7))
      all_goals
        have HK7 : Hid (Kept [] w0 w7) := Kept.grown (S := []) (a := w0) (Kept.trans HK.out (by (repeat (first | exact Kept.refl _ _ | assumption | refine Kept.drewN ?_ _ | refine Kept.drew ?_ | refine Kept.alloc ?_ _)))) hgrow7 (fun y hy => .inr (HGB.out y hy))
        have HOWN7 := Lib.hid hown7
        clear hown7 hgrow7 hat7 hlt7
        go_wp2_with fail
        go_roundw
        case rel => exact ⟨j + 1, by omega, by go_num, by rw [HTK.out, List.map_append, List.map_append, List.map_singleton, HY.out]; exact HOWN7.out, HK7.out⟩
        case measure => simp [intOf]; omega
    · have hjm : j = m := by omega
      subst hjm
      go_wp2_with fail
      go_ret
      refine ⟨_, rfl, ?_, HK0.out.trans HK.out⟩
      have := HOWN.out
      rw [List.take_of_length_le (by rw [HLM.out]; omega)] at this
      rw [List.length_map, HLM.out]
      exact rowBase this HWS.out

end Go.Proofs.YtbaifjdealmckaaGreat

/- The document's Traffic. -/
set_option linter.unusedVariables false
set_option linter.unusedSimpArgs false
set_option linter.unnecessarySimpa false
namespace Go.Proofs.YtbaifjdealmckaaGreat
open Go.RowKit Go.Shelf Tr
attribute [local go_sem] Oper.semAt_some

theorem rins_any (rb : Nat) (tvv : Value) (P : List Int) (x : PlanD) (r : RatesD) (O A S : List Int) (ov fv sv tv pv av zv uv : Value) (k : Nat) (h : Int) (w : World) (hR : RT w rb tvv P) (hT : Tree P)
    (ho : Rds opR w ov x.1) (hf : Rds intsR w fv x.2) (hs : RdI w .i64 sv r.1) (ha : RdI w .i64 av A) (hz : RdI w .i64 zv S) (hu : RdI w .i64 uv O)
    (hC : checkE x r = 0) (hk : k < x.1.length) (hO : O.length = x.1.length) (hA : A.length = x.1.length) (hS : S.length = r.1.length) (hF : fromLen x.2 ≤ 1048576) :
    Calls Tryz.prog 73 #[.pointer (some ⟨rb, 0, none⟩), .agg #[ov, fv], .agg #[sv, tv, pv], av, .int .i64 k, .int .i64 h, zv, uv] w (IntsPost w (inV P x r O A S k h)) := by
  obtain ⟨hpv, hro⟩ := checkE_zero hC
  obtain ⟨h2, h32, hm, hp⟩ := plan_place hpv
  have hri := ratesOk_is hro
  by_cases h1 : (opAt x k).1 = 1
  · exact rins_term rb tvv P x r O A S ov fv sv tv pv av zv uv k h w hR hT ho hs hz hk h1 hS (by omega)
  · refine rins_else rb tvv P x r O A S ov fv sv tv pv av zv uv k h w hR hT ho hf ha hu hk h1 hm hO hA h32 hF (fun f hf => ?_)
    have h3 := (place_is (hp k hk)).low h1 f hf
    have h4 := (place_is (hp k hk)).below f hf
    omega

end Go.Proofs.YtbaifjdealmckaaGreat

/- Which inputs an operator feeds: the document's Uses, of a plan that may be. -/
set_option linter.unusedVariables false
set_option linter.unusedSimpArgs false
set_option linter.unnecessarySimpa false
namespace Go.Proofs.YtbaifjdealmckaaGreat
open Go.RowKit Go.Shelf Tr
attribute [local go_sem] Oper.semAt_some

set_option maxRecDepth 100000 in
set_option maxHeartbeats 2000000 in
theorem ris_plan (ov fv : Value) (x : PlanD) (k : Nat) (w : World) (ho : Rds opR w ov x.1) (hf : Rds intsR w fv x.2) (hF : fromLen x.2 ≤ 1048576) (hk : k < x.1.length) (hp : planV x = true) :
    Calls Tryz.prog 102 #[.agg #[ov, fv], .int .i64 k] w fun e w' => e = .returned (.bool true) ∧ Kept [] w w' := by
  have HPC := Lib.hid (fun (W : World) (hk : Kept [] w W) => rplan_any ov fv x W (ho.keep hk) (hf.keep hk) hF)
  rw [hp] at HPC
  obtain ⟨A, c, rfl, hmA⟩ := ho.form
  obtain ⟨B, d, rfl, hmB⟩ := hf.form
  obtain ⟨n, hn⟩ : ∃ n, x.1.length = n := ⟨_, rfl⟩
  obtain ⟨m, hm⟩ : ∃ m, x.2.length = m := ⟨_, rfl⟩
  rw [hn] at HPC hk ⊢
  rw [hm] at HPC ⊢
  clear hn hm ho hf hp hF hmA hmB
  have HK0 := Lib.hid ((Kept.refl [] w).alloc (.cells #[.slice A n c, .slice B m d] 26))
  have hk0 : (0 : Int) ≤ (k : Int) := by omega
  have hkn : (k : Int) < (n : Int) := by omega
  go_enter Tryz.func102, Tryz.ntmps102
  go_wp2_with fail
  refine (HPC.out _ HK0.out).mono ?_
  rintro e w1 ⟨rfl, k1⟩
  rw [show errPlan true = 0 from rfl]
  have HK1 := Lib.hid (HK0.out.trans k1)
  have c0 := ((Blk.new w #[.slice A n c, .slice B m d] 26).kept k1 (by simp)).cell 0
  simp at c0
  clear k1
  go_wp2_with fail
  go_ret
  exact ⟨rfl, HK1.out⟩

set_option maxRecDepth 100000 in
set_option maxHeartbeats 2000000 in
theorem rplan_uses (ov fv : Value) (x : PlanD) (k : Nat) (w : World) (ho : Rds opR w ov x.1) (hf : Rds intsR w fv x.2) (hF : fromLen x.2 ≤ 1048576) (hk : k < x.1.length) (hp : planV x = true) :
    Calls Tryz.prog 74 #[.agg #[ov, fv], .int .i64 k] w (UsesPost w (usesGo k 0 x.2)) := by
  have HIS := Lib.hid (fun (W : World) (hk' : Kept [] w W) => ris_plan ov fv x k W (ho.keep hk') (hf.keep hk') hF hk hp)
  have HU := Lib.hid (fun (W : World) (hk' : Kept [] w W) => ruses_any ov fv x.2 k W (hf.keep hk') hF)
  obtain ⟨A, c, rfl, hmA⟩ := ho.form
  obtain ⟨B, d, rfl, hmB⟩ := hf.form
  obtain ⟨L, hL⟩ : ∃ L, usesGo k 0 x.2 = L := ⟨_, rfl⟩
  rw [hL] at HU ⊢
  obtain ⟨n, hn⟩ : ∃ n, x.1.length = n := ⟨_, rfl⟩
  obtain ⟨m, hm⟩ : ∃ m, x.2.length = m := ⟨_, rfl⟩
  rw [hn] at HIS HU ⊢
  rw [hm] at HIS HU ⊢
  clear hn hm ho hf hp hF hmA hmB hk hL
  have HK0 := Lib.hid ((Kept.refl [] w).alloc (.cells #[.slice A n c, .slice B m d] 26))
  have HB0 := Lib.hid (Blk.new w #[.slice A n c, .slice B m d] 26)
  have hsz : (w.alloc (.cells #[.slice A n c, .slice B m d] 26)).heap.size = w.heap.size + 1 := by simp
  have HSZ := Lib.hid hsz
  clear hsz
  go_enter Tryz.func74, Tryz.ntmps74
  go_wp2_with fail
  refine (HIS.out _ HK0.out).mono ?_
  rintro e w1 ⟨rfl, k1⟩
  have HK1 := Lib.hid (HK0.out.trans k1)
  have HS1 : Hid (w.heap.size ≤ w1.heap.size) := HK1.out.size
  have c0 := (HB0.out.kept k1 (by simp)).cell 0
  have c1 := (HB0.out.kept k1 (by simp)).cell 1
  simp at c0 c1
  clear k1
  go_wp2_with fail
  refine (HU.out _ HK1.out).mono ?_
  rintro e w2 ⟨v, rfl, o2, k2⟩
  have HO := Lib.hid o2
  have HK2 := Lib.hid (HK1.out.trans k2)
  clear o2 k2
  go_wp2_with fail
  go_ret
  exact ⟨_, rfl, rowBase HO.out HS1.out, HK2.out⟩

end Go.Proofs.YtbaifjdealmckaaGreat

/- The document's Part. -/
set_option linter.unusedVariables false
set_option linter.unusedSimpArgs false
set_option linter.unnecessarySimpa false
namespace Go.Proofs.YtbaifjdealmckaaGreat
open Go.RowKit Go.Shelf Tr
attribute [local go_sem] Oper.semAt_some

set_option maxRecDepth 100000 in
set_option maxHeartbeats 4000000 in
theorem rpart_any (rb : Nat) (tvv : Value) (P : List Int) (ov fv sv tv pv av zv : Value) (x : PlanD) (r : RatesD) (A S : List Int) (op h : Int) (w : World) (hR : RT w rb tvv P) (hT : Tree P)
    (ho : Rds opR w ov x.1) (hf : Rds intsR w fv x.2) (hF : fromLen x.2 ≤ 1048576) (hs : RdI w .i64 sv r.1) (ht : RdI w .i64 tv r.2.1) (hp : RdI w .i64 pv r.2.2)
    (ha : RdI w .i64 av A) (hz : RdI w .i64 zv S) :
    Calls Tryz.prog 49 #[.pointer (some ⟨rb, 0, none⟩), .agg #[ov, fv], .agg #[sv, tv, pv], av, .int .i64 op, .int .i64 h, zv] w fun e w' => e = .returned (.tuple #[.int .i64 (partV P x r A S op h), .int .i64 (partE P.length x r A S op h)]) ∧ Kept [] w w' := by
  obtain ⟨i0, hi0, hz0, hz1, hz2⟩ := info_parts info64
  have HMAY := Lib.hid (fun (W : World) (hk : Kept [] w W) => may_any rb tvv P ov fv sv tv pv av zv x r A S W (hR.keep hk) (ho.keep hk) (hf.keep hk) hF (hs.keep hk) (ht.keep hk) (hp.keep hk) (ha.keep hk) (hz.keep hk))
  have HOUT : Hid (∀ (W : World), Kept [] w W → modelE P.length x r A S = 0 → Calls Tryz.prog 72 #[.agg #[ov, fv], .agg #[sv, tv, pv]] W (OutsPost W 0 (outV x r))) := fun W hk hE => by
    have e1 := (modelE_zero hE).1
    have := rout_any ov fv sv tv pv x r W (ho.keep hk) (hf.keep hk) hF (hs.keep hk) (ht.keep hk) (hp.keep hk)
    rwa [e1, if_pos rfl] at this
  have HIN : Hid (∀ (W : World) (uv : Value), Kept [] w W → RdI W .i64 uv (outV x r) → modelE P.length x r A S = 0 → ∀ (k : Nat), k < x.1.length →
      Calls Tryz.prog 73 #[.pointer (some ⟨rb, 0, none⟩), .agg #[ov, fv], .agg #[sv, tv, pv], av, .int .i64 k, .int .i64 h, zv, uv] W (IntsPost W (inV P x r (outV x r) A S k h))) := fun W uv hk hu hE k hlt => by
    obtain ⟨e1, e2, e3, -, -⟩ := modelE_zero hE
    exact rins_any rb tvv P x r (outV x r) A S ov fv sv tv pv av zv uv k h W (hR.keep hk) hT (ho.keep hk) (hf.keep hk) (hs.keep hk) (ha.keep hk) (hz.keep hk) hu e1 hlt (outV_len x r) e2 e3 hF
  have HUS : Hid (∀ (W : World), Kept [] w W → modelE P.length x r A S = 0 → ∀ (k : Nat), k < x.1.length → Calls Tryz.prog 74 #[.agg #[ov, fv], .int .i64 k] W (UsesPost W (usesGo k 0 x.2))) := fun W hk hE k hlt => by
    obtain ⟨e1, -, -, -, -⟩ := modelE_zero hE
    exact rplan_uses ov fv x k W (ho.keep hk) (hf.keep hk) hF hlt (checkE_zero e1).1
  have HLEN : Hid (modelE P.length x r A S = 0 → ∀ (k : Nat), k < x.1.length → (inV P x r (outV x r) A S k h).length ≤ 1048576 ∧ (usesGo k 0 x.2).length ≤ 1048576 ∧ ∀ u ∈ usesGo k 0 x.2, u.1 < x.1.length) := fun hE k hlt => by
    obtain ⟨e1, e2, e3, -, -⟩ := modelE_zero hE
    obtain ⟨hpv, hro⟩ := checkE_zero e1
    have hri := ratesOk_is hro
    have hm := (plan_place hpv).2.2.1
    refine ⟨(inV_len P x r (outV x r) A S k h hpv e3 hri.1 hri.2.1 hlt hF).2, Nat.le_trans (usesGo_le k x.2 0) hF, fun u hu => ?_⟩
    have := usesGo_fst k x.2 0 u hu
    omega
  have HAL : Hid (modelE P.length x r A S = 0 → A.length = x.1.length ∧ (outV x r).length = x.1.length ∧ x.1.length ≤ 32) := fun hE => by
    obtain ⟨e1, e2, e3, -, -⟩ := modelE_zero hE
    obtain ⟨hpv, hro⟩ := checkE_zero e1
    exact ⟨e2, outV_len x r, (plan_place hpv).2.1⟩
  have HIS : Hid (∀ (W : World), Kept [] w W → Calls Tryz.prog 47 #[.pointer (some ⟨rb, 0, none⟩), .int .i64 h] W fun e w' => e = .returned (.bool (!outB P.length h)) ∧ W = w') := fun W hk => by
    have := is_ref rb tvv P h W (hR.keep hk)
    rwa [inBb_out] at this
  have HDS := Lib.hid (fun (a : Int) (W : World) (hW : Kept [] w W) => rdist_any rb tvv P h a W (hR.keep hW) hT)
  have HA := Lib.hid ha
  obtain ⟨A1, c, rfl, hmA⟩ := ho.form
  obtain ⟨B, d, rfl, hmB⟩ := hf.form
  obtain ⟨SA, sc, rfl, hmS, -⟩ := hs
  obtain ⟨TA, tc, rfl, hmT, -⟩ := ht
  obtain ⟨PA, pc, rfl, hmP, -⟩ := hp
  obtain ⟨AA, ac, rfl, hmAA, -⟩ := ha
  obtain ⟨ZA, zc, rfl, hmZ, -⟩ := hz
  obtain ⟨F, hFE⟩ : ∃ F, partE P.length x r A S op h = F := ⟨_, rfl⟩
  obtain ⟨V, hV⟩ : ∃ V, partV P x r A S op h = V := ⟨_, rfl⟩
  rw [hFE, hV]
  unfold partV at hV
  rw [hFE] at hV
  unfold partE at hFE
  obtain ⟨qh, hqh⟩ : ∃ qh, outB P.length h = qh := ⟨_, rfl⟩
  rw [hqh] at hFE HIS
  obtain ⟨E, hE⟩ : ∃ E, modelE P.length x r A S = E := ⟨_, rfl⟩
  rw [hE] at HMAY HOUT HIN HUS HLEN HAL hFE
  have HV := Lib.hid hV
  have HFE := Lib.hid hFE
  obtain ⟨O, hO⟩ : ∃ O, outV x r = O := ⟨_, rfl⟩
  rw [hO] at HOUT HIN HLEN HAL HV
  obtain ⟨n, hn⟩ : ∃ n, x.1.length = n := ⟨_, rfl⟩
  obtain ⟨m, hm⟩ : ∃ m, x.2.length = m := ⟨_, rfl⟩
  obtain ⟨ns, hns⟩ : ∃ ns, r.1.length = ns := ⟨_, rfl⟩
  obtain ⟨nt, hnt⟩ : ∃ nt, r.2.1.length = nt := ⟨_, rfl⟩
  obtain ⟨np, hnp⟩ : ∃ np, r.2.2.length = np := ⟨_, rfl⟩
  obtain ⟨la, hla⟩ : ∃ la, A.length = la := ⟨_, rfl⟩
  obtain ⟨ls, hls⟩ : ∃ ls, S.length = ls := ⟨_, rfl⟩
  obtain ⟨lo, hlo⟩ : ∃ lo, O.length = lo := ⟨_, rfl⟩
  rw [hn] at HMAY HOUT HIN HUS HLEN HAL HFE hmA ⊢
  rw [hm] at HMAY HOUT HIN HUS hmB ⊢
  simp only [hns] at HMAY HOUT HIN hmS ⊢
  simp only [hnt] at HMAY HOUT HIN hmT ⊢
  simp only [hnp] at HMAY HOUT HIN hmP ⊢
  rw [hla] at HMAY HIN HAL HA hmAA ⊢
  rw [hls] at HMAY HIN hmZ ⊢
  rw [hlo] at HAL
  have HLA := Lib.hid hla
  have HLO := Lib.hid hlo
  clear hV hFE hqh hO hn hm hns hnt hnp hla hls hlo hE hF ho hf hR hT
  have HK0 := Lib.hid (((Kept.refl [] w).alloc (.cells #[.slice A1 n c, .slice B m d] 26)).alloc (.cells #[.slice SA ns sc, .slice TA nt tc, .slice PA np pc] 29))
  have HB0 : Hid (Blk ((w.alloc (.cells #[.slice A1 n c, .slice B m d] 26)).alloc (.cells #[.slice SA ns sc, .slice TA nt tc, .slice PA np pc] 29)) w.heap.size #[.slice A1 n c, .slice B m d] 26) := (Blk.new w _ _).alloc _
  have HB1 : Hid (Blk ((w.alloc (.cells #[.slice A1 n c, .slice B m d] 26)).alloc (.cells #[.slice SA ns sc, .slice TA nt tc, .slice PA np pc] 29)) (w.heap.size + 1) #[.slice SA ns sc, .slice TA nt tc, .slice PA np pc] 29) := by
    have := Blk.new (w.alloc (.cells #[.slice A1 n c, .slice B m d] 26)) #[.slice SA ns sc, .slice TA nt tc, .slice PA np pc] 29
    rwa [show (w.alloc (.cells #[.slice A1 n c, .slice B m d] 26)).heap.size = w.heap.size + 1 by simp] at this
  go_enter Tryz.func49, Tryz.ntmps49
  go_wp2_with fail
  obtain ⟨w0, hw0⟩ : ∃ w0, (w.alloc (.cells #[.slice A1 n c, .slice B m d] 26)).alloc (.cells #[.slice SA ns sc, .slice TA nt tc, .slice PA np pc] 29) = w0 := ⟨_, rfl⟩
  rw [hw0] at HK0 HB0 HB1 ⊢
  clear hw0
  have HBX : Hid (∀ W, Kept [] w0 W → W.cell? ⟨w.heap.size, 0, none⟩ = some (.slice A1 n c) ∧ W.cell? ⟨w.heap.size, 1, none⟩ = some (.slice B m d) ∧ W.cell? ⟨w.heap.size + 1, 0, none⟩ = some (.slice SA ns sc) ∧ W.cell? ⟨w.heap.size + 1, 1, none⟩ = some (.slice TA nt tc) ∧ W.cell? ⟨w.heap.size + 1, 2, none⟩ = some (.slice PA np pc)) := fun W hW => ⟨((HB0.out.kept hW (by simp)).cell 0).trans rfl, ((HB0.out.kept hW (by simp)).cell 1).trans rfl, ((HB1.out.kept hW (by simp)).cell 0).trans rfl, ((HB1.out.kept hW (by simp)).cell 1).trans rfl, ((HB1.out.kept hW (by simp)).cell 2).trans rfl⟩
  refine (HMAY.out _ HK0.out).mono ?_
  rintro e w1 ⟨rfl, k1⟩
  have HK1 := Lib.hid k1
  have HK01 := Lib.hid (HK0.out.trans k1)
  clear k1 HMAY
  obtain ⟨x0, x1, r0, r1, r2⟩ := HBX.out _ HK1.out
  by_cases hE : E = 0
  · subst hE
    rw [if_pos rfl] at HFE
    obtain ⟨hla, hlo, hn32⟩ := HAL.out rfl
    subst hla hlo
    by_cases hop0 : op < 0
    · have hFE : Hid (F = 1) := by show _ = _; rw [← HFE.out]; simp; intro h1; omega
      have hV : Hid (V = 0) := by show _ = _; rw [← HV.out, if_neg (by rw [hFE.out]; decide)]
      go_wp2_with fail
      go_ret2
      exact ⟨by rw [hV.out, hFE.out]; rfl, HK01.out⟩
    · obtain ⟨k, rfl⟩ := Int.eq_ofNat_of_zero_le (by omega : 0 ≤ op)
      rw [Int.toNat_natCast] at HV
      by_cases hkn : (lo : Int) ≤ (k : Int)
      · have hFE : Hid (F = 1) := by show _ = _; rw [← HFE.out]; simp; intro h1; omega
        have hV : Hid (V = 0) := by show _ = _; rw [← HV.out, if_neg (by rw [hFE.out]; decide)]
        go_wp2_with fail
        go_ret2
        exact ⟨by rw [hV.out, hFE.out]; rfl, HK01.out⟩
      · have hk : k < lo := by omega
        go_wp2_with fail
        refine (HIS.out _ HK01.out).mono ?_
        rintro e w1' ⟨rfl, rfl⟩
        cases qh with
        | true =>
          have hFE : Hid (F = 1) := by show _ = _; rw [← HFE.out]; simp
          have hV : Hid (V = 0) := by show _ = _; rw [← HV.out, if_neg (by rw [hFE.out]; decide)]
          rw [show (!true) = false from rfl]
          go_wp2_with fail
          go_ret2
          exact ⟨by rw [hV.out, hFE.out]; rfl, HK01.out⟩
        | false =>
          have hFE : Hid (F = 0) := by show _ = _; rw [← HFE.out, if_pos (by simp; omega)]
          rw [if_pos hFE.out] at HV
          rw [show (!false) = true from rfl]
          have HOC := Lib.hid (HOUT.out _ HK01.out (by first | trivial | rfl))
          go_wp2_with fail
          refine HOC.out.mono ?_
          rintro e w2 ⟨uv, rfl, o2, k2⟩
          rw [HLO.out] at o2
          obtain ⟨UB, ub0, rfl⟩ := own_len o2
          have HRD2 : Hid (RdI w2 .i64 (.slice UB lo ub0) O) := (RdI.of_own (v := .slice UB lo ub0) (xs := O) o2).1
          have HK12 := Lib.hid (HK1.out.trans k2)
          have HK2 := Lib.hid (HK0.out.trans (HK1.out.trans k2))
          clear o2 k2 HOC x0 x1 r0 r1 r2
          obtain ⟨x0, x1, r0, r1, r2⟩ := HBX.out _ HK12.out
          obtain ⟨bu, ou, cu, s0, he, hs0, hcu0⟩ := RdI.at HRD2.out (i := k) (by rw [HLO.out]; exact hk)
          rw [HLO.out] at he
          injection he with he1 he2 he3
          subst he1 he3
          have HC := Lib.hid (HIN.out w2 _ HK2.out HRD2.out (by first | trivial | rfl) k hk)
          obtain ⟨hl1, hl2, hl3⟩ := HLEN.out (by first | trivial | rfl) k hk
          have HUC := Lib.hid (fun (W : World) (hW : Kept [] w W) => HUS.out W hW (by first | trivial | rfl) k hk)
          unfold partL at HV
          obtain ⟨J, hJ⟩ : ∃ J, inV P x r O A S k h = J := ⟨_, rfl⟩
          obtain ⟨U, hU⟩ : ∃ U, usesGo k 0 x.2 = U := ⟨_, rfl⟩
          rw [hJ, hU] at HV
          rw [hJ] at HC hl1
          rw [hU] at HUC hl2 hl3
          obtain ⟨lj, hlj⟩ : ∃ lj, J.length = lj := ⟨_, rfl⟩
          obtain ⟨lu, hlu⟩ : ∃ lu, U.length = lu := ⟨_, rfl⟩
          rw [hlj] at hl1
          rw [hlu] at hl2
          have HLJ := Lib.hid hlj
          have HLU := Lib.hid hlu
          have HL3 := Lib.hid hl3
          obtain ⟨g, hg⟩ : ∃ g, g = (fun u : UseD => wayV P (O.getD k 0) h (A.getD u.1 0)) := ⟨_, rfl⟩
          rw [← hg] at HV
          have HG : Hid (∀ (u : UseD) (a : Int), A[u.1]? = some a → wayV P s0 h a = g u) := fun u a h2 => by
            rw [hg]; simp only [List.getD, hs0, h2, Option.getD]
          have HCU := Lib.hid hcu0
          clear hJ hU hlj hlu hl3 hg hs0 hcu0 he2 HIN HLEN HUS HIS HOUT HAL
          go_wp2_with fail
          refine HC.out.mono ?_
          rintro e w3 ⟨v3, rfl, o3, k3⟩
          rw [HLJ.out] at o3
          obtain ⟨JA, jc, rfl⟩ := own_len o3
          have HO3 := Lib.hid o3
          have HK3 := Lib.hid (HK2.out.trans k3)
          have HK23 := Lib.hid k3
          clear o3 k3 x0 x1 r0 r1 r2
          obtain ⟨x0, x1, r0, r1, r2⟩ := HBX.out _ (HK12.out.trans HK23.out)
          go_wp2_with fail
          refine (HUC.out _ HK3.out).mono ?_
          rintro e w4 ⟨v4, rfl, o4, k4⟩
          rw [HLU.out] at o4
          obtain ⟨UA, uc, rfl⟩ := own_len o4
          have HO4 := Lib.hid o4
          have HK4 := Lib.hid (HK3.out.trans k4)
          have HK24 := Lib.hid (HK23.out.trans k4)
          have HK34 := Lib.hid k4
          have HO34 := Lib.hid (ownsRow_keep HO3.out k4 (by simp))
          clear o4 k4 x0 x1 r0 r1 r2
          have HJB : Hid (∀ y, (Value.slice JA lj jc).ownBlock = some y → w2.heap.size ≤ y ∧ y < w3.heap.size) := fun y hy => ⟨(HO3.out.lt y hy).1, (HO3.out.lt y hy).2⟩
          have HNB : Hid (∀ q, (q < w2.heap.size ∨ w3.heap.size ≤ q) → q ∉ (Value.slice JA lj jc).ownBlock.toList) := fun q hq hm => by
            have hy : (Value.slice JA lj jc).ownBlock = some q := by simpa using hm
            have := HJB.out q hy
            omega
          have HSZ : Hid (w3.heap.size ≤ w4.heap.size ∧ w2.heap.size ≤ w3.heap.size) := ⟨HK34.out.size, HK23.out.size⟩
          go_wp2_with fail
          go_loopw [19, 21] (fun o jj wr => ∃ (j : Nat), j ≤ lu ∧ jj = .int .i64 j ∧ wr.ownsRow w2.heap.size 2 1 o (lj + j) ((J ++ (U.take j).map g).map (.int .i64)) ∧ (∀ y, o.ownBlock = some y → y ∈ (Value.slice JA lj jc).ownBlock.toList ∨ w4.heap.size ≤ y) ∧ Kept (Value.slice JA lj jc).ownBlock.toList w4 wr) (fun _ jj _ => lu - (intOf jj).toNat)
          case atStart => exact ⟨0, by omega, rfl, by simpa using HO34.out, fun y hy => .inl (by rw [hy]; simp), Kept.refl _ _⟩
          case round =>
            obtain ⟨j, hj, rfl, hown, hob, hK⟩ := hrel
            obtain ⟨BA, cc, rfl⟩ := own_len hown
            have HOWN := Lib.hid hown
            have HOB := Lib.hid hob
            have HGB : Hid (∀ x, (Value.slice BA (lj + j) cc).ownBlock = some x → w2.heap.size ≤ x) := fun x hx => (hown.lt x hx).1
            have HK := Lib.hid hK
            have hszr := hK.size
            clear hown hob hK
            by_cases hlt : j < lu
            · obtain ⟨⟨ua, ub⟩, hu⟩ : ∃ u, U[j]? = some u := ⟨_, List.getElem?_eq_getElem (by rw [HLU.out]; exact hlt)⟩
              obtain ⟨hu1, hu2⟩ := cellsU_get U j _ hu
              obtain ⟨g4, c4, he, hc41, hc42⟩ := own_some HO4.out (by omega)
              injection he with he1 he2 he3
              subst he1 he3
              have hd : ∀ i, (⟨g4, 0, none⟩ : Addr).add i = ⟨g4, i, none⟩ := fun i => by unfold Addr.add; split <;> simp_all
              have e1 := HO4.out.cells rfl _ _ hu1
              have hg4 := (HO4.out.lt g4 rfl).1
              have hg4' := (HO4.out.lt g4 rfl).2
              rw [hd] at e1
              have d0 := HK.out.cell (HNB.out _ (.inr hg4)) e1
              have hua := HL3.out _ (List.mem_of_getElem? hu)
              obtain ⟨ba, oa, ca, a, he, hya, hca0⟩ := RdI.at HA.out (i := ua) (by rw [HLA.out]; exact hua)
              injection he with he1 he5 he3
              subst he1 he3
              have HTK : Hid (U.take (j + 1) = U.take j ++ [(ua, ub)]) := by
                show _ = _
                obtain ⟨q1, q2⟩ := List.getElem?_eq_some_iff.1 hu
                rw [List.take_succ_eq_append_getElem q1, q2]
              have HGY : Hid (wayV P s0 h a = g (ua, ub)) := HG.out (ua, ub) a hya
              have HK2r : Hid (Kept [] w2 wr) := Kept.after HK24.out HK.out (fun y hy => (HJB.out y (by simpa using hy)).1)
              have HFX : Hid (∀ W, Kept [] wr W → W.cell? ⟨bu, ou + k, none⟩ = some (.int .i64 s0) ∧ W.cell? ⟨g4, j * 2, none⟩ = some (.int .i64 ua) ∧ W.cell? ⟨ba, oa + ua, none⟩ = some (.int .i64 a)) := fun W hW =>
                ⟨hW.cell (by simp) (HK2r.out.cell (by simp) HCU.out), hW.cell (by simp) d0, hW.cell (by simp) ((HK2.out.trans HK2r.out).cell (by simp) hca0)⟩
              have HFG : Hid (∀ W, (∃ V, Kept [] wr V ∧ V.grownBy W (Value.slice BA (lj + j) cc).ownBlock) → W.cell? ⟨bu, ou + k, none⟩ = some (.int .i64 s0) ∧ W.cell? ⟨g4, j * 2, none⟩ = some (.int .i64 ua) ∧ W.cell? ⟨ba, oa + ua, none⟩ = some (.int .i64 a)) := fun W ⟨V, hV, hg⟩ => by
                have hW : Kept (Value.slice BA (lj + j) cc).ownBlock.toList wr W := hV.nil.grown hg (fun y hy => .inl (by rw [hy]; simp))
                have nb : ∀ q, q < w2.heap.size ∨ (w3.heap.size ≤ q ∧ q < w4.heap.size) → q ∉ (Value.slice BA (lj + j) cc).ownBlock.toList := fun q hq hm => by
                  have hy : (Value.slice BA (lj + j) cc).ownBlock = some q := by simpa using hm
                  have h1 := HGB.out q hy
                  rcases HOB.out q hy with h2 | h2
                  · exact HNB.out q (by omega) h2
                  · omega
                have mw := HK2.out.cell (by simp) hca0
                exact ⟨hW.cell (nb _ (.inl (cell_lt HCU.out))) (HK2r.out.cell (by simp) HCU.out), hW.cell (nb _ (.inr ⟨hg4, hg4'⟩)) d0, hW.cell (nb _ (.inl (cell_lt mw))) ((HK2.out.trans HK2r.out).cell (by simp) hca0)⟩
              obtain ⟨dd, hdd⟩ : ∃ dd, distG P h a = dd := ⟨_, rfl⟩
              obtain ⟨y, hyy⟩ : ∃ y, mulV [s0, dd] = y := ⟨_, rfl⟩
              have HY : Hid (g (ua, ub) = y) := by show _ = _; rw [← HGY.out]; unfold wayV; rw [hdd, hyy]
              have HDI := Lib.hid (fun (W : World) (hW : Kept [] wr W) => HDS.out a W ((HK2.out.trans HK2r.out).trans hW))
              rw [hdd] at HDI
              have HMUL : Hid (∀ (W : World) (b : Nat), RdI W .i64 (.slice (some ⟨b, 0, none⟩) 2 2) [s0, dd] → Calls Tryz.prog 75 #[.slice (some ⟨b, 0, none⟩) 2 2] W fun e w' => e = .returned (.int .i64 y) ∧ ∃ m, w' = W.drewN m) := fun W b hb => by
                rw [← hyy]
                exact rmul_any _ _ _ hb
              have HOWNC : Hid (∀ W, Kept [] wr W → W.ownsRow w2.heap.size 2 1 (.slice BA (lj + j) cc) (lj + j) ((J ++ (U.take j).map g).map (.int .i64))) := fun W hk => ownsRow_keep HOWN.out hk (by simp)
              have hk0' : (0 : Int) ≤ (k : Int) := by omega
              have hkl' : (k : Int) < (lo : Int) := by omega
              have hu0' : (0 : Int) ≤ (ua : Int) := by omega
              have hul' : (ua : Int) < (lo : Int) := by omega
              have hj0' : (0 : Int) ≤ (j : Int) := by omega
              have hjl' : (j : Int) < (lu : Int) := by omega
              have hsz5 := HSZ.out
              clear hu hu1 hu2 he2 he5 hd hya e1 hyy hdd hca0
              go_wp2_with fail
              go_region_held3 (fun W => W.cell? ⟨bu, ou + k, none⟩ = some (.int .i64 s0) ∧ W.cell? ⟨g4, j * 2, none⟩ = some (.int .i64 ua) ∧ W.cell? ⟨ba, oa + ua, none⟩ = some (.int .i64 a)) (first | (refine HFX.out _ ?_; (repeat (first | exact Kept.refl _ _ | assumption | refine Kept.drewN ?_ _ | refine Kept.drew ?_ | refine Kept.alloc ?_ _)); done) | (refine HFG.out _ ⟨_, ?_, hgrow7⟩; (repeat (first | exact Kept.refl _ _ | assumption | refine Kept.drewN ?_ _ | refine Kept.drew ?_ | refine Kept.alloc ?_ _)); done)) (first
                | (go_at_call 76; refine (HDI.out _ (by (repeat (first | exact Kept.refl _ _ | assumption | refine Kept.drewN ?_ _ | refine Kept.drew ?_ | refine Kept.alloc ?_ _)))).mono ?_; rintro e w5 ⟨rfl, hk5⟩; have hk5' : Kept [] wr w5 := Kept.trans (by (repeat (first | exact Kept.refl _ _ | assumption | refine Kept.drewN ?_ _ | refine Kept.drew ?_ | refine Kept.alloc ?_ _))) hk5)
                | (go_at_call 75; refine (HMUL.out _ _ (by (repeat (first | exact two_at (by (first | rfl | (simp; done) | (simp; omega))) | refine RdI.drew1 ?_ | refine RdI.drewN ?_ _)))).mono ?_; rintro e w6 ⟨rfl, m6, rfl⟩)
                | (refine step_guard _ _ 27 (by rfl) ?_; refine step_append_lies _ (by rfl) _ _ 27 (by rfl) w2.heap.size 2 i0 (.int .i64 0) 1 8 Tryz.underlying27 hi0 hz0 hz1 hz2 (by rfl) (by decide) (.slice BA (lj + j) cc) (lj + j) _ (by rfl) (HOWNC.out _ (by (repeat (first | exact Kept.refl _ _ | assumption | refine Kept.drewN ?_ _ | refine Kept.drew ?_ | refine Kept.alloc ?_ _)))) ⟨w5.heap.size + 1, 0, none⟩ 1 1 [.int .i64 y] (by rfl) (by rfl) (by (repeat (first | exact cell_one_at _ _ _ _ (by (first | rfl | (simp; done) | (simp; omega))) | refine cells_drew ?_ | refine cells_drewN ?_))) (by simp [Value.oneCell']) (by decide) (by unfold maxLen; omega) (by omega) (by have := hk5'.size; simp; omega) (w5.heap.size + 1 + 1) (by (first | rfl | (simp; done) | (simp; omega))) ?_; intro gg cap w7 hown7 hgrow7 hat7 hlt7))
              all_goals
                have HK7 : Hid (Kept (Value.slice JA lj jc).ownBlock.toList w4 w7) := Kept.grown (Kept.trans HK.out (Kept.nil (by (repeat (first | exact Kept.refl _ _ | assumption | refine Kept.drewN ?_ _ | refine Kept.drew ?_ | refine Kept.alloc ?_ _))))) hgrow7 (fun y hy => HOB.out y hy)
                have HOB7 : Hid (∀ y, (Value.slice (some ⟨gg, 0, none⟩) (lj + j + 1) cap).ownBlock = some y → y ∈ (Value.slice JA lj jc).ownBlock.toList ∨ w4.heap.size ≤ y) := fun y hy => by
                  have hy' : gg = y := by simpa [Value.ownBlock] using hy
                  subst hy'
                  rcases hat7 with h | h
                  · exact HOB.out _ h
                  · exact .inr (by have := hk5'.size; omega)
                have HOWN7 := Lib.hid hown7
                clear hown7 hgrow7 hat7 hlt7
                go_wp2_with fail
                go_roundw
                case rel => exact ⟨j + 1, by omega, by go_num, by have h7 := HOWN7.out; have hy := HY.out; rw [HTK.out]; simp only [List.map_append, List.map_cons, List.map_nil, hy, List.append_assoc, Nat.add_assoc] at h7 ⊢; exact h7, HOB7.out, HK7.out⟩
                case measure => simp [intOf]; omega
            · have hjm : j = lu := by omega
              subst hjm
              have HLL : Hid ((J ++ (U.take j).map g) = J ++ U.map g) := by show _ = _; rw [List.take_of_length_le (by rw [HLU.out]; omega)]
              have hadd : Hid (∀ W, W = wr → Calls Tryz.prog 77 #[.slice BA (lj + j) cc] W fun e w' => e = .returned (.int .i64 V) ∧ W = w') := fun W hW => by
                subst hW
                have := radd_any _ _ _ (RdI.of_own HOWN.out).1
                rwa [HLL.out, HV.out] at this
              go_wp2_with fail
              refine (hadd.out _ rfl).mono ?_
              rintro e w6 ⟨rfl, rfl⟩
              go_wp2_with fail
              go_ret2
              exact ⟨by rw [hFE.out]; rfl, Kept.after HK4.out HK.out (fun y hy => by have h1 := (HJB.out y (by simpa using hy)).1; have := HK2.out.size; omega)⟩
  · have hE' : (E != 0) = true := by rw [bne_iff_ne]; exact hE
    have hFE : Hid (F = E) := by show _ = _; rw [← HFE.out, if_neg hE]
    have hV : Hid (V = 0) := by show _ = _; rw [← HV.out, if_neg (by rw [hFE.out]; exact hE)]
    go_wp2_with fail
    go_ret2
    exact ⟨by rw [hV.out, hFE.out]; rfl, HK01.out⟩

end Go.Proofs.YtbaifjdealmckaaGreat
