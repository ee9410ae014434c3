/- With greater rates nothing is less: the walk of CostGrows. -/
import Derived.Test.YtiiiflckphgdiaaP28
import Derived.Test.YtiiiflckphgdiaaBK
import Derived.StillTailTactics
import Derived.Deep.DeepCutAuto
import Derived.Deep.RegionHeld3
set_option linter.unusedVariables false
set_option linter.unusedSimpArgs false
set_option linter.unnecessarySimpa false
namespace Go.Proofs.Ytiiiflckphgdiaa
open Go.RowKit Go.Shelf
attribute [local go_sem] Oper.semAt_some

theorem plan_reads {w : World} {v : Array Value} {x : PlanD} (h : planR.K w x v.toList) : ∃ ov fv, v = #[ov, fv] ∧ Rds opR w ov x.1 ∧ Rds intsR w fv x.2 := by
  obtain ⟨ov, fv, he, h1, h2⟩ := RdP.of_rk h
  simp at he
  exact ⟨ov, fv, he, h1, h2⟩
theorem rates_reads {w : World} {v : Array Value} {r : RatesD} (h : ratesR.K w r v.toList) : ∃ sv tv pv, v = #[sv, tv, pv] ∧ Rds (Rk.int .i64) w sv r.1 ∧ Rds (Rk.int .i64) w tv r.2.1 ∧ Rds (Rk.int .i64) w pv r.2.2 := by
  obtain ⟨c1, c2, he, h1, c3, c4, he2, h2, h3⟩ := h
  obtain ⟨sv, rfl, k1⟩ := intsR_cells h1
  obtain ⟨tv, rfl, k2⟩ := intsR_cells h2
  obtain ⟨pv, rfl, k3⟩ := intsR_cells h3
  subst he2
  refine ⟨sv, tv, pv, ?_, k1, k2, k3⟩
  rw [← Array.toArray_toList (xs := v), he]
  rfl

theorem more_bd {w : World} {v : Value} {l : List Int} (h : (Rk.slice (Rk.int .u16)).K w l [v]) : ∀ m ∈ l, 0 ≤ m ∧ m < 65536 := by
  obtain ⟨A, c, he, h1, h2, _, hE⟩ := h
  intro m hm
  obtain ⟨b, off, _, hx⟩ := hE (by rintro rfl; simp at hm)
  obtain ⟨i, hi, rfl⟩ := List.getElem_of_mem hm
  obtain ⟨cs, ⟨_, hw⟩, _⟩ := hx i _ (List.getElem?_eq_getElem hi)
  simp [Lit.wf, IntKind.min, IntKind.max, IntKind.signed, IntKind.bits] at hw
  omega
def ClonePost (w : World) (n : Nat) (l : List Int) : Ending → World → Prop := fun e w' => ∃ g c, e = .returned (.slice (some ⟨g, 0, none⟩) n c) ∧ w'.ownsRow w.heap.size 2 1 (.slice (some ⟨g, 0, none⟩) n c) n (l.map (.int .i64)) ∧ Kept [] w w'
theorem clone_post (u : Value) (l : List Int) (n : Nat) (w : World) (hx : RdI w .i64 u l) (hsz : l.length * 8 ≤ 140737488351232) (hnn : u.ownBlock ≠ none) (hn : l.length = n) (h0 : 0 < n) : Calls Try.prog 24 #[u] w (ClonePost w n l) :=
  (clone64_any u l w hx hsz hnn).mono fun e w' ⟨v, he, ho, hk⟩ => by
    subst he
    rw [hn] at ho
    obtain ⟨g, c, rfl, _, _⟩ := own_some ho h0
    exact ⟨g, c, rfl, ho, hk⟩
theorem rate_facts {W : World} {b : Nat} (h : Blk W b #[.slice none 0 0, .slice none 0 0, .slice none 0 0] 32) : W.cell? ⟨b, 0, none⟩ = some (.slice none 0 0) ∧ W.cell? ⟨b, 1, none⟩ = some (.slice none 0 0) ∧ W.cell? ⟨b, 2, none⟩ = some (.slice none 0 0) ∧ W.frozen? ⟨b, 0, none⟩ = false ∧ W.frozen? ⟨b, 1, none⟩ = false ∧ W.frozen? ⟨b, 2, none⟩ = false ∧ b < W.heap.size :=
  ⟨(h.cell 0).trans rfl, (h.cell 1).trans rfl, (h.cell 2).trans rfl, h.free 0, h.free 1, h.free 2, h.lt⟩
theorem kcell {W w' : World} (hb : Kept [] W w') : (∀ b o, b < W.heap.size → w'.cell? ⟨b, o, none⟩ = W.cell? ⟨b, o, none⟩) ∧ (∀ b o, b < W.heap.size → w'.frozen? ⟨b, o, none⟩ = W.frozen? ⟨b, o, none⟩) :=
  ⟨fun b o h => hb.below.cell (p := ⟨b, o, none⟩) h, fun b o h => hb.below.frozen (p := ⟨b, o, none⟩) h⟩
abbrev nil3 : Array Value := #[.slice none 0 0, .slice none 0 0, .slice none 0 0]
def RowsAt (W : World) (B ns np g1 c1 g2 c2 g3 c3 : Nat) (a b c : List Int) : Prop := W.ownsRow B 2 1 (.slice (some ⟨g1, 0, none⟩) ns c1) ns (a.map (.int .i64)) ∧ W.ownsRow B 2 1 (.slice (some ⟨g2, 0, none⟩) np c2) np (b.map (.int .i64)) ∧ W.ownsRow B 2 1 (.slice (some ⟨g3, 0, none⟩) np c3) np (c.map (.int .i64)) ∧ g1 < g2 ∧ g2 < g3
theorem rows_at {w2 w5 w6 w7 : World} {B5 B6 B7 ns np g1 c1 g2 c2 g3 c3 : Nat} {a b c : List Int} (k5 : Kept [] w2 w5) (k56 : Kept [] w5 w6) (k67 : Kept [] w6 w7) (hB5 : w2.heap.size ≤ B5) (hB6 : w5.heap.size ≤ B6) (hB7 : w6.heap.size ≤ B7)
    (o5 : w5.ownsRow B5 2 1 (.slice (some ⟨g1, 0, none⟩) ns c1) ns (a.map (.int .i64))) (o6 : w6.ownsRow B6 2 1 (.slice (some ⟨g2, 0, none⟩) np c2) np (b.map (.int .i64))) (o7 : w7.ownsRow B7 2 1 (.slice (some ⟨g3, 0, none⟩) np c3) np (c.map (.int .i64))) : RowsAt w7 w2.heap.size ns np g1 c1 g2 c2 g3 c3 a b c := by
  have l5 := o5.lt g1 rfl
  have l6 := o6.lt g2 rfl
  have l7 := o7.lt g3 rfl
  have s5 := k5.size
  have s6 := k56.size
  exact ⟨rowBase (ownsRow_keep o5 (k56.trans k67) (by simp)) hB5, rowBase (ownsRow_keep o6 k67 (by simp)) (by omega), rowBase o7 (by omega), by omega, by omega⟩
theorem RowsAt.alloc {W : World} {B ns np g1 c1 g2 c2 g3 c3 : Nat} {a b c : List Int} (h : RowsAt W B ns np g1 c1 g2 c2 g3 c3 a b c) (o : Obj) : RowsAt (W.alloc o) B ns np g1 c1 g2 c2 g3 c3 a b c := ⟨h.1.alloc o, h.2.1.alloc o, h.2.2.1.alloc o, h.2.2.2⟩
theorem own_type {W : World} {b B z n : Nat} {e t : TypeId} {cs : Array Value} {v : Value} {xs : List Value} (h : W.ownsRow B e z v n xs) (hb : Blk W b cs t) (hne : e ≠ t) : v.ownBlock ≠ some b := fun he => by
  rcases h.2 with ⟨rfl, _⟩ | ⟨g, cap, cur, rfl, _, hg, _⟩
  · cases he
  · injection he with he
    simp at he
    subst he
    unfold Blk at hb
    rw [hg] at hb
    injection hb with hb
    injection hb with _ h2
    exact hne h2
theorem RowsAt.kept {W W' : World} {S : List Nat} {B ns np g1 c1 g2 c2 g3 c3 : Nat} {a b c : List Int} (h : RowsAt W B ns np g1 c1 g2 c2 g3 c3 a b c) (k : Kept S W W') (h1 : g1 ∉ S) (h2 : g2 ∉ S) (h3 : g3 ∉ S) : RowsAt W' B ns np g1 c1 g2 c2 g3 c3 a b c :=
  ⟨ownsRow_keep h.1 k (fun b hb => by injection hb with hb; simp at hb; subst hb; exact h1), ownsRow_keep h.2.1 k (fun b hb => by injection hb with hb; simp at hb; subst hb; exact h2), ownsRow_keep h.2.2.1 k (fun b hb => by injection hb with hb; simp at hb; subst hb; exact h3), h.2.2.2⟩
theorem RowsAt.set3 {W : World} {sb B ns np g1 c1 g2 c2 g3 c3 : Nat} {a b c : List Int} (h : RowsAt W B ns np g1 c1 g2 c2 g3 c3 a b c) (hb : Blk W sb nil3 32) (x y z : Value) : RowsAt (((W.setCell ⟨sb, 0, none⟩ x).setCell ⟨sb, 1, none⟩ y).setCell ⟨sb, 2, none⟩ z) B ns np g1 c1 g2 c2 g3 c3 a b c := by
  refine h.kept (S := [sb]) (Kept.set3 (Kept.refl [sb] W) (.inl (by simp)) x y z) ?_ ?_ ?_
  · intro he; simp at he; subst he; exact own_type h.1 hb (by decide) rfl
  · intro he; simp at he; subst he; exact own_type h.2.1 hb (by decide) rfl
  · intro he; simp at he; subst he; exact own_type h.2.2.1 hb (by decide) rfl
/-- A list of which the first k are made greater. -/
def mixV (more : List Int) (p : Nat) (l : List Int) (k : Nat) : List Int := upL more p (l.take k) ++ l.drop k
theorem upL_snoc (more : List Int) : ∀ (l : List Int) (p : Nat) (v : Int), upL more p (l ++ [v]) = upL more p l ++ [upV more (p + l.length) v]
  | [], p, v => rfl
  | a :: l, p, v => by
    rw [List.cons_append, upL, upL_snoc more l, upL]
    simp [Nat.add_assoc, Nat.add_comm 1]
theorem mix_at (more : List Int) (p : Nat) (l : List Int) (k : Nat) (v : Int) (h : l[k]? = some v) : (mixV more p l k)[k]? = some v ∧ mixV more p l (k + 1) = (mixV more p l k).set k (upV more (p + k) v) := by
  obtain ⟨hk, hv⟩ := List.getElem?_eq_some_iff.1 h
  have hl : (upL more p (l.take k)).length = k := by rw [upL_len]; simp; omega
  have hd : l.drop k = v :: l.drop (k + 1) := by rw [← hv]; exact List.drop_eq_getElem_cons hk
  unfold mixV
  refine ⟨?_, ?_⟩
  · rw [List.getElem?_append_right (by omega), hl, Nat.sub_self, hd]; rfl
  · rw [List.take_succ_eq_append_getElem hk, hv, upL_snoc, hd, List.set_append_right _ _ (by omega), hl, Nat.sub_self, List.append_assoc]
    simp
    congr 1
    omega
theorem set_same {l : List Int} {k : Nat} {v : Int} (h : l[k]? = some v) : l.set k v = l := by
  refine List.ext_getElem? (fun i => ?_)
  rw [List.getElem?_set]
  split
  · rename_i e
    subst e
    rw [h]
    have := (List.getElem?_eq_some_iff.1 h).1
    simp [this]
  · rfl
theorem mix_all (more : List Int) (p : Nat) (l : List Int) : mixV more p l l.length = upL more p l := by unfold mixV; simp
theorem mix_none (more : List Int) (p : Nat) (l : List Int) : mixV more p l 0 = l := by unfold mixV; simp [upL]
theorem mix_len (more : List Int) (p : Nat) (l : List Int) (k : Nat) (hk : k ≤ l.length) : (mixV more p l k).length = l.length := by unfold mixV; simp [upL_len]; omega
def GrowsPost (w : World) : Ending → World → Prop := fun e w' => e = .returned (.bool true) ∧ Kept [] w w'

theorem RdI.atK {w : World} {k : IntKind} {v : Value} {xs : List Int} (h : RdI w k v xs) (i : Nat) (hi : i < xs.length) : ∃ b off c x, v = .slice (some ⟨b, off, none⟩) xs.length c ∧ xs[i]? = some x ∧ w.cell? ⟨b, off + i, none⟩ = some (.int k x) := by
  obtain ⟨A, c, rfl, _, h⟩ := h
  obtain ⟨b, off, rfl, hc⟩ := h (by rintro rfl; simp at hi)
  exact ⟨b, off, c, xs[i], rfl, List.getElem?_eq_getElem hi, hc i _ (List.getElem?_eq_getElem hi)⟩
set_option maxRecDepth 100000 in
set_option maxHeartbeats 4000000 in
theorem grows_any (ov fv sv tv pv : Value) (x : PlanD) (r : RatesD) (mv : Value) (more : List Int) (w : World) (ho : Rds opR w ov x.1) (hf : Rds intsR w fv x.2) (hF : fromLen x.2 ≤ 1048576)
    (hs : RdI w .i64 sv r.1) (ht : RdI w .i64 tv r.2.1) (hp : RdI w .i64 pv r.2.2) (hm : RdI w .u16 mv more) (hmb : ∀ m ∈ more, 0 ≤ m ∧ m < 65536) :
    Calls Try.prog 5 #[.agg #[ov, fv], .agg #[sv, tv, pv], mv] w (GrowsPost w) := by
  have HOC := Lib.hid (fun (W : World) (hk : Kept [] w W) => out_any ov fv sv tv pv x r W (ho.keep hk) (hf.keep hk) hF (hs.keep hk) (ht.keep hk) (hp.keep hk))
  have HHC := Lib.hid (fun (W : World) (hk : Kept [] w W) => held_any ov fv sv tv pv x r W (ho.keep hk) (hf.keep hk) hF (hs.keep hk) (ht.keep hk) (hp.keep hk))
  have HOS := Lib.hid (fun (s : RatesD) (a b c : Value) (W : World) (hk : Kept [] w W) (h1 : RdI W .i64 a s.1) (h2 : RdI W .i64 b s.2.1) (h3 : RdI W .i64 c s.2.2) => out_any ov fv a b c x s W (ho.keep hk) (hf.keep hk) hF h1 h2 h3)
  have HHS := Lib.hid (fun (s : RatesD) (a b c : Value) (W : World) (hk : Kept [] w W) (h1 : RdI W .i64 a s.1) (h2 : RdI W .i64 b s.2.1) (h3 : RdI W .i64 c s.2.2) => held_any ov fv a b c x s W (ho.keep hk) (hf.keep hk) hF h1 h2 h3)
  have HS := Lib.hid hs
  have HT := Lib.hid ht
  have HP := Lib.hid hp
  have HM := Lib.hid hm
  have HMB := Lib.hid hmb
  obtain ⟨A, c, rfl, hmA⟩ := ho.form
  obtain ⟨B, d, rfl, hmB⟩ := hf.form
  obtain ⟨SA, sc, rfl, hmS, -⟩ := hs
  obtain ⟨TA, tc, rfl, hmT, -⟩ := ht
  obtain ⟨PA, pc, rfl, hmP, -⟩ := hp
  obtain ⟨MA, mc, rfl, hmM, -⟩ := hm
  obtain ⟨ec, hec⟩ : ∃ ec, checkE x r = ec := ⟨_, rfl⟩
  rw [hec] at HOC HHC
  obtain ⟨O, hO⟩ : ∃ O, (if ec = 0 then outV x r else []) = O := ⟨_, rfl⟩
  obtain ⟨H, hH⟩ : ∃ H, (if ec = 0 then heldV x r else []) = H := ⟨_, rfl⟩
  rw [hO] at HOC
  rw [hH] at HHC
  have HO := Lib.hid hO
  have HH := Lib.hid hH
  clear hO hH
  obtain ⟨n, hn⟩ : ∃ n, x.1.length = n := ⟨_, rfl⟩
  obtain ⟨m, hm'⟩ : ∃ m, x.2.length = m := ⟨_, rfl⟩
  obtain ⟨ns, hns⟩ : ∃ ns, r.1.length = ns := ⟨_, rfl⟩
  obtain ⟨nt, hnt⟩ : ∃ nt, r.2.1.length = nt := ⟨_, rfl⟩
  obtain ⟨np, hnp⟩ : ∃ np, r.2.2.length = np := ⟨_, rfl⟩
  obtain ⟨nm, hnm⟩ : ∃ nm, more.length = nm := ⟨_, rfl⟩
  rw [hn] at hmA HOC HHC HOS HHS ⊢
  rw [hm'] at hmB HOC HHC HOS HHS ⊢
  simp only [hns] at hmS HS HOC HHC ⊢
  simp only [hnt] at hmT HT HOC HHC ⊢
  simp only [hnp] at hmP HP HOC HHC ⊢
  rw [hnm] at hmM HM ⊢
  have HN := Lib.hid hn
  have HMN := Lib.hid hm'
  have HNS := Lib.hid hns
  have HNT := Lib.hid hnt
  have HNP := Lib.hid hnp
  have HNM := Lib.hid hnm
  have HEC := Lib.hid hec
  clear hn hm' hns hnt hnp hnm hec hF ho hf hmb
  have HK0 := Lib.hid (((Kept.refl [] w).alloc (.cells #[.slice A n c, .slice B m d] 30)).alloc (.cells #[.slice SA ns sc, .slice TA nt tc, .slice PA np pc] 32))
  have HB0 : Hid (Blk ((w.alloc (.cells #[.slice A n c, .slice B m d] 30)).alloc (.cells #[.slice SA ns sc, .slice TA nt tc, .slice PA np pc] 32)) w.heap.size #[.slice A n c, .slice B m d] 30) := (Blk.new w _ _).alloc _
  have HB1 : Hid (Blk ((w.alloc (.cells #[.slice A n c, .slice B m d] 30)).alloc (.cells #[.slice SA ns sc, .slice TA nt tc, .slice PA np pc] 32)) (w.heap.size + 1) #[.slice SA ns sc, .slice TA nt tc, .slice PA np pc] 32) := by
    have := Blk.new (w.alloc (.cells #[.slice A n c, .slice B m d] 30)) #[.slice SA ns sc, .slice TA nt tc, .slice PA np pc] 32
    rwa [show (w.alloc (.cells #[.slice A n c, .slice B m d] 30)).heap.size = w.heap.size + 1 by simp] at this
  go_enter Try.func5, Try.ntmps5
  go_wp2_with fail
  refine (HOC.out _ HK0.out).mono ?_
  rintro e w1 ⟨lv, rfl, ho1, hk1⟩
  obtain ⟨LA, lc, rfl⟩ := own_len ho1
  have HRD := Lib.hid (RdI.of_own ho1).1
  have HAL1 : Hid (∀ b, (Value.slice LA O.length lc).ownBlock = some b → b < w1.heap.size) := fun b hb => (ho1.lt b hb).2
  have HK1 := Lib.hid (HK0.out.trans hk1)
  have HB01 := Lib.hid (HB0.out.kept hk1 (by simp))
  have HB11 := Lib.hid (HB1.out.kept hk1 (by simp))
  clear ho1 hk1 HOC
  go_wp2_with fail
  refine (begun_any _).mono ?_
  rintro e w2 ⟨rfl, hk2⟩
  have HK2 := Lib.hid (HK1.out.trans hk2)
  have HB02 := Lib.hid (HB01.out.kept hk2 (by simp))
  have HB12 := Lib.hid (HB11.out.kept hk2 (by simp))
  have HRD2 := Lib.hid (HRD.out.keep hk2)
  have HAL : Hid (∀ b, (Value.slice LA O.length lc).ownBlock = some b → b < w2.heap.size) := fun b hb => Nat.lt_of_lt_of_le (HAL1.out b hb) hk2.size
  clear hk2
  by_cases hz : ec = 0
  · subst hz
    obtain ⟨hpv, hro⟩ := checkE_zero HEC.out
    obtain ⟨hn2, hn32, hmn, hpl⟩ := plan_place hpv
    obtain ⟨hs1, hs12, ht1, hp1⟩ := ratesOk_is hro
    rw [HN.out] at hn2 hn32 hmn ht1 hp1
    rw [HMN.out] at hmn
    rw [HNS.out] at hs1 hs12
    rw [HNT.out] at ht1
    rw [HNP.out] at hp1
    subst hmn ht1 hp1
    have b0 := HB12.out.cell 0
    have b1 := HB12.out.cell 1
    have b2 := HB12.out.cell 2
    simp at b0 b1 b2
    clear hpv hro hpl
    have hsom : ∀ {XA : Option Addr} {nx xc : Nat} {l : List Int}, RdI w .i64 (.slice XA nx xc) l → 0 < l.length → (Value.slice XA nx xc).ownBlock ≠ none := fun h hl => by
      obtain ⟨b, off, c', y, he, _, _⟩ := h.at hl
      injection he with h1 h2 h3
      subst h1
      simp [Value.ownBlock]
    have HC1 : Hid (∀ W, Kept [] w2 W → Calls Try.prog 24 #[.slice SA ns sc] W (ClonePost W ns r.1)) := fun W hW => clone_post _ r.1 ns W ((HS.out.keep HK2.out).keep hW) (by have := HNS.out; omega) (hsom HS.out (by have := HNS.out; omega)) HNS.out (by omega)
    have HC2 : Hid (∀ W, Kept [] w2 W → Calls Try.prog 24 #[.slice TA np tc] W (ClonePost W np r.2.1)) := fun W hW => clone_post _ r.2.1 np W ((HT.out.keep HK2.out).keep hW) (by have := HNT.out; omega) (hsom HT.out (by have := HNT.out; omega)) HNT.out (by omega)
    have HC3 : Hid (∀ W, Kept [] w2 W → Calls Try.prog 24 #[.slice PA np pc] W (ClonePost W np r.2.2)) := fun W hW => clone_post _ r.2.2 np W ((HP.out.keep HK2.out).keep hW) (by have := HNP.out; omega) (hsom HP.out (by have := HNP.out; omega)) HNP.out (by omega)
    have HS4 : Hid (∀ W, Kept [] w2 W → W.cell? ⟨w.heap.size + 1, 0, none⟩ = some (.slice SA ns sc) ∧ W.cell? ⟨w.heap.size + 1, 1, none⟩ = some (.slice TA np tc) ∧ W.cell? ⟨w.heap.size + 1, 2, none⟩ = some (.slice PA np pc)) := fun W hW => ⟨hW.cell (by simp) b0, hW.cell (by simp) b1, hW.cell (by simp) b2⟩
    clear hsom
    go_upto_region 4 with fail
    go_cut [9] (fun p wx => ∃ sb g1 c1 g2 c2 g3 c3, p = .pointer (some ⟨sb, 0, none⟩) ∧ w2.heap.size ≤ sb ∧ Blk wx sb #[.slice (some ⟨g1, 0, none⟩) ns c1, .slice (some ⟨g2, 0, none⟩) np c2, .slice (some ⟨g3, 0, none⟩) np c3] 32 ∧ RowsAt wx w2.heap.size ns np g1 c1 g2 c2 g3 c3 r.1 r.2.1 r.2.2 ∧ Kept [] w2 wx)
    case first =>
      go_region_held3 (fun w' => w'.cell? ⟨w.heap.size + 1, 0, none⟩ = some (.slice SA ns sc) ∧ w'.cell? ⟨w.heap.size + 1, 1, none⟩ = some (.slice TA np tc) ∧ w'.cell? ⟨w.heap.size + 1, 2, none⟩ = some (.slice PA np pc)) ((refine HS4.out _ ?_; (repeat (first | with_reducible exact Kept.refl _ _ | with_reducible assumption | with_reducible refine Kept.drewN ?_ _ | with_reducible refine Kept.drew ?_ | with_reducible refine Kept.alloc ?_ _ | with_reducible refine Kept.setCell ?_ (Or.inr ?_) _ | (dsimp only; omega))); done)) (first
        | (go_at_call_of 24 (Value.slice SA ns sc); refine (HC1.out _ (by (repeat (first | with_reducible exact Kept.refl _ _ | with_reducible assumption | with_reducible refine Kept.drewN ?_ _ | with_reducible refine Kept.drew ?_ | with_reducible refine Kept.alloc ?_ _)))).mono ?_; rintro e w5 ⟨g1, c1, rfl, o5, k5⟩; have k5' : Kept [] w2 w5 := Kept.trans (by (repeat (first | with_reducible exact Kept.refl _ _ | with_reducible assumption | with_reducible refine Kept.drewN ?_ _ | with_reducible refine Kept.drew ?_ | with_reducible refine Kept.alloc ?_ _))) k5; have hz5 := k5.size; obtain ⟨hc5, hf5⟩ := kcell k5; (try simp at hz5); (try (have hx5 : w2.heap.size < w5.heap.size := (by omega))))
        | (go_at_call_of 24 (Value.slice TA np tc); refine (HC2.out _ (by (repeat (first | with_reducible exact Kept.refl _ _ | with_reducible assumption | with_reducible refine Kept.drewN ?_ _ | with_reducible refine Kept.drew ?_ | with_reducible refine Kept.alloc ?_ _)))).mono ?_; rintro e w6 ⟨g2, c2, rfl, o6, k6⟩; have k6' : Kept [] w2 w6 := Kept.trans (by (repeat (first | with_reducible exact Kept.refl _ _ | with_reducible assumption | with_reducible refine Kept.drewN ?_ _ | with_reducible refine Kept.drew ?_ | with_reducible refine Kept.alloc ?_ _))) k6; have hz6 := k6.size; obtain ⟨hc6, hf6⟩ := kcell k6; (try simp at hz6); (try (have hx6 : w5.heap.size < w6.heap.size := (by omega))); (try (have hy2 : w2.heap.size < w6.heap.size := (by omega))))
        | (go_at_call_of 24 (Value.slice PA np pc); refine (HC3.out _ (by (repeat (first | with_reducible exact Kept.refl _ _ | with_reducible assumption | with_reducible refine Kept.drewN ?_ _ | with_reducible refine Kept.drew ?_ | with_reducible refine Kept.alloc ?_ _)))).mono ?_; rintro e w7 ⟨g3, c3, rfl, o7, k7⟩; have k7' : Kept [] w2 w7 := Kept.trans (by (repeat (first | with_reducible exact Kept.refl _ _ | with_reducible assumption | with_reducible refine Kept.drewN ?_ _ | with_reducible refine Kept.drew ?_ | with_reducible refine Kept.alloc ?_ _))) k7; have hz7 := k7.size; obtain ⟨hc7, hf7⟩ := kcell k7; (try simp at hz7); (try (have hx7 : w6.heap.size < w7.heap.size := (by omega))); (try (have hy3 : w2.heap.size < w7.heap.size := (by omega))); (try (have hy5 : w5.heap.size < w7.heap.size := (by omega)))))
      all_goals
        have HR7 := Lib.hid (rows_at (w2 := w2) (B5 := _) (B6 := _) (B7 := _) k5' (Kept.trans (by (repeat (first | with_reducible exact Kept.refl _ _ | with_reducible assumption | with_reducible refine Kept.drewN ?_ _ | with_reducible refine Kept.drew ?_ | with_reducible refine Kept.alloc ?_ _))) k6) (Kept.trans (by (repeat (first | with_reducible exact Kept.refl _ _ | with_reducible assumption | with_reducible refine Kept.drewN ?_ _ | with_reducible refine Kept.drew ?_ | with_reducible refine Kept.alloc ?_ _))) k7) (by simp) (by simp) (by simp) o5 o6 o7)
        have HK7 := Lib.hid k7'
        have HBK : Hid (∀ b, (b = w2.heap.size ∨ b = w5.heap.size ∨ b = w6.heap.size) → b < w7.heap.size → True) := fun _ _ _ => trivial
        first
          | (have HBB : Hid (Blk w7 w6.heap.size nil3 32) := by
              show Blk _ _ _ _
              refine Blk.kept ?_ k7 (by simp)
              exact Blk.new w6 _ _
             have hsb : w2.heap.size ≤ w6.heap.size := by omega
             clear hc5 hf5 hc6 hf6 hc7 hf7 o5 o6 o7 k5 k6 k7 k5' k6' k7'
             go_wp2_with fail
             go_meet
             case rel => exact ⟨w6.heap.size, g1, c1, g2, c2, g3, c3, rfl, hsb, HBB.out.set3 _ _ _, HR7.out.set3 HBB.out _ _ _, HK7.out.set3 (.inr hsb) _ _ _⟩)
          | (have HBB : Hid (Blk w7 w5.heap.size nil3 32) := by
              show Blk _ _ _ _
              refine Blk.kept (Blk.kept ?_ k6 (by simp)) k7 (by simp)
              exact Blk.new w5 _ _
             have hsb : w2.heap.size ≤ w5.heap.size := by omega
             clear hc5 hf5 hc6 hf6 hc7 hf7 o5 o6 o7 k5 k6 k7 k5' k6' k7'
             go_wp2_with fail
             go_meet
             case rel => exact ⟨w5.heap.size, g1, c1, g2, c2, g3, c3, rfl, hsb, HBB.out.set3 _ _ _, HR7.out.set3 HBB.out _ _ _, HK7.out.set3 (.inr hsb) _ _ _⟩)
          | (have HBB : Hid (Blk w7 w2.heap.size nil3 32) := by
              show Blk _ _ _ _
              refine Blk.kept (Blk.kept (Blk.kept ?_ k5 (by simp)) k6 (by simp)) k7 (by simp)
              exact (Blk.new w2 _ _).drew
             have hsb : w2.heap.size ≤ w2.heap.size := Nat.le_refl _
             clear hc5 hf5 hc6 hf6 hc7 hf7 o5 o6 o7 k5 k6 k7 k5' k6' k7'
             go_wp2_with fail
             go_meet
             case rel => exact ⟨w2.heap.size, g1, c1, g2, c2, g3, c3, rfl, hsb, HBB.out.set3 _ _ _, HR7.out.set3 HBB.out _ _ _, HK7.out.set3 (.inr hsb) _ _ _⟩)
          | (have hsb : w2.heap.size ≤ w7.heap.size := by omega
             clear hc5 hf5 hc6 hf6 hc7 hf7 o5 o6 o7 k5 k6 k7 k5' k6' k7'
             go_wp2_with fail
             go_meet
             case rel => exact ⟨w7.heap.size, g1, c1, g2, c2, g3, c3, rfl, hsb, Blk.new w7 _ _, HR7.out.alloc _, HK7.out.alloc _⟩)
    case rest =>
      obtain ⟨sb, g1, c1, g2, c2, g3, c3, rfl, hsb, hbs, hrows, hk3⟩ := hcut
      obtain ⟨hr1, hr2, hr3, hg12, hg23⟩ := hrows
      have hgl := (hr1.lt g1 rfl).1
      have hgl3 := (hr3.lt g3 rfl).2
      have hgb : w.heap.size + 1 < w2.heap.size := HB12.out.lt
      have s0 := hbs.cell 0
      have s1 := hbs.cell 1
      have s2 := hbs.cell 2
      simp at s0 s1 s2
      have HSB := Lib.hid hbs
      have HK3 := Lib.hid hk3
      have hk3s := hk3.size
      have HR1 := Lib.hid hr1
      have HR2 := Lib.hid hr2
      have HR3 := Lib.hid hr3
      clear hbs hr1 hr2 hr3 hk3
      obtain ⟨hb1, hb2, hb3⟩ := ratesOk_all (checkE_zero HEC.out).2
      have HV1 := Lib.hid hb1
      have HV2 := Lib.hid hb2
      have HV3 := Lib.hid hb3
      clear hb1 hb2 hb3
      have HLB := Lib.hid (Blk.new wc #[.slice (some ⟨g1, 0, none⟩) ns c1, .slice (some ⟨g2, 0, none⟩) np c2, .slice (some ⟨g3, 0, none⟩) np c3] 22)
      go_wp2_with fail
      obtain ⟨w4, hw4⟩ : ∃ w4, wc.alloc (.cells #[.slice (some ⟨g1, 0, none⟩) ns c1, .slice (some ⟨g2, 0, none⟩) np c2, .slice (some ⟨g3, 0, none⟩) np c3] 22) = w4 := ⟨_, rfl⟩
      have HK4 : Hid (Kept [] wc w4) := by
        show Kept [] wc w4
        rw [← hw4]
        exact (Kept.refl [] wc).alloc _
      rw [hw4] at HLB ⊢
      have hlb : wc.heap.size < w4.heap.size := by rw [← hw4]; simp
      clear hw4
      have HKJ1 := Lib.hid (Kept.refl [g1, g2, g3] w4)
      have HRJ1 := Lib.hid (ownsRow_keep HR1.out HK4.out (by simp))
      have l0 := HLB.out.cell 0
      have l1 := HLB.out.cell 1
      have l2 := HLB.out.cell 2
      simp at l0 l1 l2
      refine wp_loop_rounds 4 ?_
      rw [rounds_succ]
      go_wp2_with fail
      go_loopw [10, 57] (fun aa ii wr => ∃ k : Nat, k ≤ ns ∧ ii = .int .i64 k ∧ aa = .int .i64 ((0 : Nat) + k : Nat) ∧ wr.ownsRow w2.heap.size 2 1 (.slice (some ⟨g1, 0, none⟩) ns c1) ns ((mixV more 0 r.1 k).map (.int .i64)) ∧ Kept [g1] w4 wr) (fun _ ii _ => ns - (intOf ii).toNat)
      case atStart => exact ⟨0, by omega, rfl, by first | rfl | (simp; done) | (simp; omega), by rw [mix_none]; exact HRJ1.out, Kept.refl _ _⟩
      case round =>
        obtain ⟨k, hk, rfl, rfl, hown, hK⟩ := hrel
        have HOWN := Lib.hid hown
        have HK := Lib.hid hK
        clear hown hK
        obtain ⟨t0, htt⟩ : ∃ t0 : Nat, 0 + k = t0 := ⟨_, rfl⟩
        rw [htt]
        have HT0 := Lib.hid htt
        have htk : k ≤ t0 := by omega
        have htb : t0 ≤ 0 + ns := by omega
        by_cases hlt : k < ns
        · obtain ⟨v, hv⟩ : ∃ v, (r.1)[k]? = some v := ⟨_, List.getElem?_eq_getElem (by rw [HNS.out]; exact hlt)⟩
          obtain ⟨hmx, hms⟩ := mix_at more 0 r.1 k v hv
          rw [htt] at hms
          clear htt
          have hvb := HV1.out v (List.mem_of_getElem? hv)
          have HMS := Lib.hid hms
          have HMX := Lib.hid hmx
          have cv : wr.cell? ⟨g1, k, none⟩ = some (.int .i64 v) := by
            rw [HOWN.out.cellAt k (by omega), List.getElem?_map, hmx]; rfl
          have fv := HOWN.out.frozenAt k
          have gl : g1 < wr.heap.size := (HOWN.out.lt g1 rfl).2
          clear hv hmx hms
          by_cases hmore : t0 < nm
          · obtain ⟨b', o', c', mm, he, hmm, cmm⟩ := RdI.atK HM.out t0 (by rw [HNM.out]; exact hmore)
            injection he with he1 he2 he3
            subst he1
            have hmb := HMB.out mm (List.mem_of_getElem? hmm)
            have HUP : Hid (upV more t0 v = min 1048576 (v + mm)) := by
              show _ = _
              rw [upV, if_pos (by rw [HNM.out]; exact hmore), List.getD, hmm]
              rfl
            have cm := HK.out.cell (by simp; have := cell_lt cmm; omega) (HKJ1.out.cell (by simp; have := cell_lt cmm; omega) (((HK2.out.trans HK3.out).trans HK4.out).cell (by simp) cmm))
            have hw1 : IntKind.i64.wrap (v + mm) = v + mm := by unfold IntKind.wrap; simp [IntKind.signed, IntKind.bits]; omega
            have hw2 : IntKind.i64.wrap mm = mm := by unfold IntKind.wrap; simp [IntKind.signed, IntKind.bits]; omega
            have i1 : (0 : Int) ≤ (k : Int) := by omega
            have i2 : (k : Int) < (ns : Int) := by omega
            have i3 : (0 : Int) ≤ (t0 : Int) := by omega
            have i4 : (t0 : Int) < (nm : Int) := by omega
            clear hmm cmm he2 he3
            go_wp2_with fail
            go_still_tail 14, (by kernel_rfl)
            change wpList _ _ _ _ _ wr.drew
            go_wp2_with fail
            go_roundw
            case rel =>
              refine ⟨k + 1, by omega, by go_num, by (have := HT0.out; show Value.int _ _ = Value.int _ _; congr 1; omega), ?_, (HK.out.setCell (.inl (by simp)) _).drew⟩
              have hst := (HOWN.out.stored k (.int .i64 (if v + mm < 1048576 then v + mm else 1048576))).1
              rw [HMS.out, List.map_set, HUP.out, show min 1048576 (v + mm) = if v + mm < 1048576 then v + mm else 1048576 by (split <;> omega)]
              exact ownsRow_keep hst ((Kept.refl [] _).drew) (by simp)
            case measure => simp [intOf]; omega
          · have HUP : Hid (upV more t0 v = v) := by
              show _ = _
              rw [upV, if_neg (by rw [HNM.out]; exact hmore)]
            go_wp2_with fail
            go_roundw
            case rel =>
              refine ⟨k + 1, by omega, by go_num, by (have := HT0.out; show Value.int _ _ = Value.int _ _; congr 1; omega), ?_, HK.out⟩
              rw [HMS.out, HUP.out, set_same HMX.out]
              exact HOWN.out
            case measure => simp [intOf]; omega
        · obtain rfl : ns = k := by omega
          have HRF : Hid (wr.ownsRow w2.heap.size 2 1 (.slice (some ⟨g1, 0, none⟩) ns c1) ns ((upL more 0 r.1).map (.int .i64))) := by
            show wr.ownsRow _ _ _ _ _ _
            rw [← mix_all, HNS.out]
            exact HOWN.out
          clear hlt
          obtain ⟨w5, rfl⟩ : ∃ w5, w5 = wr := ⟨_, rfl⟩
          have HKJ2 := Lib.hid (HKJ1.out.trans (HK.out.mono (T := [g1, g2, g3]) (by simp)))
          have HRA := HRF
          have HRJ2 := Lib.hid (ownsRow_keep (ownsRow_keep HR2.out HK4.out (by simp)) HK.out (fun b hb => by injection hb with hb; simp at hb; subst hb; simp; omega))
          have HRJ3 := Lib.hid (ownsRow_keep (ownsRow_keep HR3.out HK4.out (by simp)) HK.out (fun b hb => by injection hb with hb; simp at hb; subst hb; simp; omega))
          have HLB5 := Lib.hid (HLB.out.kept HK.out (by simp; omega))
          have l0 := HLB5.out.cell 0
          have l1 := HLB5.out.cell 1
          have l2 := HLB5.out.cell 2
          simp at l0 l1 l2
          clear HRF HK HOWN
          go_wp2_with fail
          rw [rounds_succ]
          go_wp2_with fail
          go_loopw [10, 57] (fun aa ii wr => ∃ k : Nat, k ≤ np ∧ ii = .int .i64 k ∧ aa = .int .i64 ((t0 : Nat) + k : Nat) ∧ wr.ownsRow w2.heap.size 2 1 (.slice (some ⟨g2, 0, none⟩) np c2) np ((mixV more t0 r.2.1 k).map (.int .i64)) ∧ Kept [g2] w5 wr) (fun _ ii _ => np - (intOf ii).toNat)
          case atStart => exact ⟨0, by omega, rfl, by first | rfl | (simp; done) | (simp; omega), by rw [mix_none]; exact HRJ2.out, Kept.refl _ _⟩
          case round =>
            obtain ⟨k, hk, rfl, rfl, hown, hK⟩ := hrel
            have HOWN := Lib.hid hown
            have HK := Lib.hid hK
            clear hown hK
            obtain ⟨t1, htt⟩ : ∃ t1 : Nat, t0 + k = t1 := ⟨_, rfl⟩
            rw [htt]
            have HT1 := Lib.hid htt
            have htk : k ≤ t1 := by omega
            have htb : t1 ≤ t0 + np := by omega
            by_cases hlt : k < np
            · obtain ⟨v, hv⟩ : ∃ v, (r.2.1)[k]? = some v := ⟨_, List.getElem?_eq_getElem (by rw [HNT.out]; exact hlt)⟩
              obtain ⟨hmx, hms⟩ := mix_at more t0 r.2.1 k v hv
              rw [htt] at hms
              clear htt
              have hvb := HV2.out v (List.mem_of_getElem? hv)
              have HMS := Lib.hid hms
              have HMX := Lib.hid hmx
              have cv : wr.cell? ⟨g2, k, none⟩ = some (.int .i64 v) := by
                rw [HOWN.out.cellAt k (by omega), List.getElem?_map, hmx]; rfl
              have fv := HOWN.out.frozenAt k
              have gl : g2 < wr.heap.size := (HOWN.out.lt g2 rfl).2
              clear hv hmx hms
              by_cases hmore : t1 < nm
              · obtain ⟨b', o', c', mm, he, hmm, cmm⟩ := RdI.atK HM.out t1 (by rw [HNM.out]; exact hmore)
                injection he with he1 he2 he3
                subst he1
                have hmb := HMB.out mm (List.mem_of_getElem? hmm)
                have HUP : Hid (upV more t1 v = min 1048576 (v + mm)) := by
                  show _ = _
                  rw [upV, if_pos (by rw [HNM.out]; exact hmore), List.getD, hmm]
                  rfl
                have cm := HK.out.cell (by simp; have := cell_lt cmm; omega) (HKJ2.out.cell (by simp; have := cell_lt cmm; omega) (((HK2.out.trans HK3.out).trans HK4.out).cell (by simp) cmm))
                have hw1 : IntKind.i64.wrap (v + mm) = v + mm := by unfold IntKind.wrap; simp [IntKind.signed, IntKind.bits]; omega
                have hw2 : IntKind.i64.wrap mm = mm := by unfold IntKind.wrap; simp [IntKind.signed, IntKind.bits]; omega
                have i1 : (0 : Int) ≤ (k : Int) := by omega
                have i2 : (k : Int) < (np : Int) := by omega
                have i3 : (0 : Int) ≤ (t1 : Int) := by omega
                have i4 : (t1 : Int) < (nm : Int) := by omega
                clear hmm cmm he2 he3
                go_wp2_with fail
                go_still_tail 14, (by kernel_rfl)
                change wpList _ _ _ _ _ wr.drew
                go_wp2_with fail
                go_roundw
                case rel =>
                  refine ⟨k + 1, by omega, by go_num, by (have := HT1.out; show Value.int _ _ = Value.int _ _; congr 1; omega), ?_, (HK.out.setCell (.inl (by simp)) _).drew⟩
                  have hst := (HOWN.out.stored k (.int .i64 (if v + mm < 1048576 then v + mm else 1048576))).1
                  rw [HMS.out, List.map_set, HUP.out, show min 1048576 (v + mm) = if v + mm < 1048576 then v + mm else 1048576 by (split <;> omega)]
                  exact ownsRow_keep hst ((Kept.refl [] _).drew) (by simp)
                case measure => simp [intOf]; omega
              · have HUP : Hid (upV more t1 v = v) := by
                  show _ = _
                  rw [upV, if_neg (by rw [HNM.out]; exact hmore)]
                go_wp2_with fail
                go_roundw
                case rel =>
                  refine ⟨k + 1, by omega, by go_num, by (have := HT1.out; show Value.int _ _ = Value.int _ _; congr 1; omega), ?_, HK.out⟩
                  rw [HMS.out, HUP.out, set_same HMX.out]
                  exact HOWN.out
                case measure => simp [intOf]; omega
            · obtain rfl : np = k := by omega
              have HRF : Hid (wr.ownsRow w2.heap.size 2 1 (.slice (some ⟨g2, 0, none⟩) np c2) np ((upL more t0 r.2.1).map (.int .i64))) := by
                show wr.ownsRow _ _ _ _ _ _
                rw [← mix_all, HNT.out]
                exact HOWN.out
              clear hlt
              obtain ⟨w6, rfl⟩ : ∃ w6, w6 = wr := ⟨_, rfl⟩
              have HKJ3 := Lib.hid (HKJ2.out.trans (HK.out.mono (T := [g1, g2, g3]) (by simp)))
              have HRA6 := Lib.hid (ownsRow_keep HRA.out HK.out (fun b hb => by injection hb with hb; simp at hb; subst hb; simp; omega))
              have HRB6 := HRF
              have HRJ6 := Lib.hid (ownsRow_keep HRJ3.out HK.out (fun b hb => by injection hb with hb; simp at hb; subst hb; simp; omega))
              have HLB6 := Lib.hid (HLB5.out.kept HK.out (by simp; omega))
              have l0 := HLB6.out.cell 0
              have l1 := HLB6.out.cell 1
              have l2 := HLB6.out.cell 2
              simp at l0 l1 l2
              clear HRF HK HOWN
              go_wp2_with fail
              rw [rounds_succ]
              go_wp2_with fail
              go_loopw [10, 57] (fun aa ii wr => ∃ k : Nat, k ≤ np ∧ ii = .int .i64 k ∧ aa = .int .i64 ((t1 : Nat) + k : Nat) ∧ wr.ownsRow w2.heap.size 2 1 (.slice (some ⟨g3, 0, none⟩) np c3) np ((mixV more t1 r.2.2 k).map (.int .i64)) ∧ Kept [g3] w6 wr) (fun _ ii _ => np - (intOf ii).toNat)
              case atStart => exact ⟨0, by omega, rfl, by first | rfl | (simp; done) | (simp; omega), by rw [mix_none]; exact HRJ6.out, Kept.refl _ _⟩
              case round =>
                obtain ⟨k, hk, rfl, rfl, hown, hK⟩ := hrel
                have HOWN := Lib.hid hown
                have HK := Lib.hid hK
                clear hown hK
                obtain ⟨t2, htt⟩ : ∃ t2 : Nat, t1 + k = t2 := ⟨_, rfl⟩
                rw [htt]
                have HT2 := Lib.hid htt
                have htk : k ≤ t2 := by omega
                have htb : t2 ≤ t1 + np := by omega
                by_cases hlt : k < np
                · obtain ⟨v, hv⟩ : ∃ v, (r.2.2)[k]? = some v := ⟨_, List.getElem?_eq_getElem (by rw [HNP.out]; exact hlt)⟩
                  obtain ⟨hmx, hms⟩ := mix_at more t1 r.2.2 k v hv
                  rw [htt] at hms
                  clear htt
                  have hvb := HV3.out v (List.mem_of_getElem? hv)
                  have HMS := Lib.hid hms
                  have HMX := Lib.hid hmx
                  have cv : wr.cell? ⟨g3, k, none⟩ = some (.int .i64 v) := by
                    rw [HOWN.out.cellAt k (by omega), List.getElem?_map, hmx]; rfl
                  have fv := HOWN.out.frozenAt k
                  have gl : g3 < wr.heap.size := (HOWN.out.lt g3 rfl).2
                  clear hv hmx hms
                  by_cases hmore : t2 < nm
                  · obtain ⟨b', o', c', mm, he, hmm, cmm⟩ := RdI.atK HM.out t2 (by rw [HNM.out]; exact hmore)
                    injection he with he1 he2 he3
                    subst he1
                    have hmb := HMB.out mm (List.mem_of_getElem? hmm)
                    have HUP : Hid (upV more t2 v = min 1048576 (v + mm)) := by
                      show _ = _
                      rw [upV, if_pos (by rw [HNM.out]; exact hmore), List.getD, hmm]
                      rfl
                    have cm := HK.out.cell (by simp; have := cell_lt cmm; omega) (HKJ3.out.cell (by simp; have := cell_lt cmm; omega) (((HK2.out.trans HK3.out).trans HK4.out).cell (by simp) cmm))
                    have hw1 : IntKind.i64.wrap (v + mm) = v + mm := by unfold IntKind.wrap; simp [IntKind.signed, IntKind.bits]; omega
                    have hw2 : IntKind.i64.wrap mm = mm := by unfold IntKind.wrap; simp [IntKind.signed, IntKind.bits]; omega
                    have i1 : (0 : Int) ≤ (k : Int) := by omega
                    have i2 : (k : Int) < (np : Int) := by omega
                    have i3 : (0 : Int) ≤ (t2 : Int) := by omega
                    have i4 : (t2 : Int) < (nm : Int) := by omega
                    clear hmm cmm he2 he3
                    go_wp2_with fail
                    go_still_tail 14, (by kernel_rfl)
                    change wpList _ _ _ _ _ wr.drew
                    go_wp2_with fail
                    go_roundw
                    case rel =>
                      refine ⟨k + 1, by omega, by go_num, by (have := HT2.out; show Value.int _ _ = Value.int _ _; congr 1; omega), ?_, (HK.out.setCell (.inl (by simp)) _).drew⟩
                      have hst := (HOWN.out.stored k (.int .i64 (if v + mm < 1048576 then v + mm else 1048576))).1
                      rw [HMS.out, List.map_set, HUP.out, show min 1048576 (v + mm) = if v + mm < 1048576 then v + mm else 1048576 by (split <;> omega)]
                      exact ownsRow_keep hst ((Kept.refl [] _).drew) (by simp)
                    case measure => simp [intOf]; omega
                  · have HUP : Hid (upV more t2 v = v) := by
                      show _ = _
                      rw [upV, if_neg (by rw [HNM.out]; exact hmore)]
                    go_wp2_with fail
                    go_roundw
                    case rel =>
                      refine ⟨k + 1, by omega, by go_num, by (have := HT2.out; show Value.int _ _ = Value.int _ _; congr 1; omega), ?_, HK.out⟩
                      rw [HMS.out, HUP.out, set_same HMX.out]
                      exact HOWN.out
                    case measure => simp [intOf]; omega
                · obtain rfl : np = k := by omega
                  have HRF : Hid (wr.ownsRow w2.heap.size 2 1 (.slice (some ⟨g3, 0, none⟩) np c3) np ((upL more t1 r.2.2).map (.int .i64))) := by
                    show wr.ownsRow _ _ _ _ _ _
                    rw [← mix_all, HNP.out]
                    exact HOWN.out
                  clear hlt
                  obtain ⟨w7, rfl⟩ : ∃ w7, w7 = wr := ⟨_, rfl⟩
                  have HKJ4 := Lib.hid (HKJ3.out.trans (HK.out.mono (T := [g1, g2, g3]) (by simp)))
                  have HRA7 := Lib.hid (ownsRow_keep HRA6.out HK.out (fun b hb => by injection hb with hb; simp at hb; subst hb; simp; omega))
                  have HRB7 := Lib.hid (ownsRow_keep HRB6.out HK.out (fun b hb => by injection hb with hb; simp at hb; subst hb; simp; omega))
                  have HRC7 := HRF
                  clear HRF HK HOWN
                  have hgs1 : sb ≠ g1 := fun e => own_type HR1.out HSB.out (by decide) (by rw [e]; rfl)
                  have hgs2 : sb ≠ g2 := fun e => own_type HR2.out HSB.out (by decide) (by rw [e]; rfl)
                  have hgs3 : sb ≠ g3 := fun e => own_type HR3.out HSB.out (by decide) (by rw [e]; rfl)
                  have HK27 : Hid (Kept [g1, g2, g3] w2 w7) := (HK3.out.trans HK4.out).nil.trans HKJ4.out
                  have HW7 : Hid (Kept [] w w7) := Kept.after HK2.out HK27.out (by simp; omega)
                  have HP7 := Lib.hid (HB02.out.kept HK27.out (by simp; omega))
                  have HQ7 := Lib.hid (HB12.out.kept HK27.out (by simp; omega))
                  have HS7 := Lib.hid ((HSB.out.kept HK4.out (by simp)).kept HKJ4.out (by simp; omega))
                  have HA7 := Lib.hid (RdI.of_own HRA7.out).1
                  have HB7 := Lib.hid (RdI.of_own HRB7.out).1
                  have HC7 := Lib.hid (RdI.of_own HRC7.out).1
                  obtain ⟨hgr, hck⟩ := upR_grows more (fun m hm => (HMB.out m hm).1) HEC.out
                  have hu1 : upL more t0 r.2.1 = (upR more r).2.1 := by rw [← HT0.out, ← HNS.out, Nat.zero_add]; rfl
                  have hu2 : upL more t1 r.2.2 = (upR more r).2.2 := by rw [← HT1.out, ← HT0.out, ← HNS.out, ← HNT.out, Nat.zero_add]; rfl
                  rw [hu1] at HB7
                  rw [hu2] at HC7
                  have hO2 : O = outV x r := by rw [← HO.out]; simp
                  have hH2 : H = heldV x r := by rw [← HH.out]; simp
                  obtain ⟨O2, hOe⟩ : ∃ O2, outV x (upR more r) = O2 := ⟨_, rfl⟩
                  obtain ⟨H2, hHe⟩ : ∃ H2, heldV x (upR more r) = H2 := ⟨_, rfl⟩
                  have HLO : Hid (Le2 O O2) := by show Le2 O O2; rw [hO2, ← hOe]; exact outV_mono hgr
                  have HLH : Hid (Le2 H H2) := by show Le2 H H2; rw [hH2, ← hHe]; exact heldV_mono hgr
                  have hol : O.length = np := by rw [hO2, outV_len, HN.out]
                  have hhl : H.length = np := by rw [hH2]; unfold heldV; rw [List.length_map, List.length_range, HN.out]
                  have HOC2 : Hid (∀ W, Kept [] w7 W → Calls Try.prog 14 #[.agg #[.slice A np c, .slice B np d], .agg #[.slice (some ⟨g1, 0, none⟩) ns c1, .slice (some ⟨g2, 0, none⟩) np c2, .slice (some ⟨g3, 0, none⟩) np c3]] W (OutsPost W 0 O2)) := fun W hW => by
                    have := HOS.out (upR more r) _ _ _ W (HW7.out.trans hW) (HA7.out.keep hW) (HB7.out.keep hW) (HC7.out.keep hW)
                    rwa [hck, if_pos rfl, hOe] at this
                  have HHC2 : Hid (∀ W, Kept [] w7 W → Calls Try.prog 16 #[.agg #[.slice A np c, .slice B np d], .agg #[.slice (some ⟨g1, 0, none⟩) ns c1, .slice (some ⟨g2, 0, none⟩) np c2, .slice (some ⟨g3, 0, none⟩) np c3]] W (OutsPost W 0 H2)) := fun W hW => by
                    have := HHS.out (upR more r) _ _ _ W (HW7.out.trans hW) (HA7.out.keep hW) (HB7.out.keep hW) (HC7.out.keep hW)
                    rwa [hck, if_pos rfl, hHe] at this
                  have hol2 : O2.length = np := by rw [← HLO.out.len]; exact hol
                  have hhl2 : H2.length = np := by rw [← HLH.out.len]; exact hhl
                  have HOL := Lib.hid hol
                  have HHL := Lib.hid hhl
                  have HOL2 := Lib.hid hol2
                  have HHL2 := Lib.hid hhl2
                  have HRD7 : Hid (RdI w7 .i64 (.slice LA O.length lc) O) := HRD2.out.kept HK27.out (fun b hb hm => by
                    have h1 := HAL.out b hb
                    simp at hm
                    omega)
                  rw [hol] at HRD7 ⊢
                  clear hgr hck hu1 hu2 hO2 hH2 hOe hHe hol hhl hol2 hhl2 HOS HHS HRA7 HRB7 HRC7
                  have p0 := HP7.out.cell 0
                  have p1 := HP7.out.cell 1
                  have q0 := HQ7.out.cell 0
                  have q1 := HQ7.out.cell 1
                  have q2 := HQ7.out.cell 2
                  have s0 := HS7.out.cell 0
                  have s1 := HS7.out.cell 1
                  have s2 := HS7.out.cell 2
                  simp at p0 p1 q0 q1 q2 s0 s1 s2
                  go_wp2_with fail
                  rw [rounds_succ]
                  go_wp2_with fail
                  refine (HOC2.out _ (Kept.refl _ _)).mono ?_
                  rintro e w8 ⟨bv, rfl, hob, hk8⟩
                  rw [HOL2.out] at hob
                  obtain ⟨BA, bc, rfl⟩ := own_len hob
                  have HB8 : Hid (RdI w8 .i64 (.slice BA np bc) O2) := by
                    have := (RdI.of_own (v := .slice BA np bc) (xs := O2) hob).1
                    exact this
                  have HK8 := Lib.hid hk8
                  clear hob hk8
                  have p0 := (HP7.out.kept HK8.out (by simp)).cell 0
                  have p1 := (HP7.out.kept HK8.out (by simp)).cell 1
                  have q0 := (HQ7.out.kept HK8.out (by simp)).cell 0
                  have q1 := (HQ7.out.kept HK8.out (by simp)).cell 1
                  have q2 := (HQ7.out.kept HK8.out (by simp)).cell 2
                  simp at p0 p1 q0 q1 q2
                  go_wp2_with fail
                  refine (HHC.out _ (HW7.out.trans HK8.out)).mono ?_
                  rintro e w9 ⟨cv, rfl, hoc, hk9⟩
                  rw [HHL.out] at hoc
                  obtain ⟨CA, cc, rfl⟩ := own_len hoc
                  have HC9 : Hid (RdI w9 .i64 (.slice CA np cc) H) := (RdI.of_own (v := .slice CA np cc) (xs := H) hoc).1
                  have HK9 := Lib.hid (HK8.out.trans hk9)
                  have HB9 := Lib.hid (HB8.out.keep hk9)
                  clear hoc hk9
                  have p0 := (HP7.out.kept HK9.out (by simp)).cell 0
                  have p1 := (HP7.out.kept HK9.out (by simp)).cell 1
                  have s0 := (HS7.out.kept HK9.out (by simp)).cell 0
                  have s1 := (HS7.out.kept HK9.out (by simp)).cell 1
                  have s2 := (HS7.out.kept HK9.out (by simp)).cell 2
                  simp at p0 p1 s0 s1 s2
                  go_wp2_with fail
                  refine (HHC2.out _ HK9.out).mono ?_
                  rintro e w10 ⟨dv, rfl, hod, hk10⟩
                  rw [HHL2.out] at hod
                  obtain ⟨DA, dc, rfl⟩ := own_len hod
                  have HD10 : Hid (RdI w10 .i64 (.slice DA np dc) H2) := (RdI.of_own (v := .slice DA np dc) (xs := H2) hod).1
                  have HK10 := Lib.hid (HK9.out.trans hk10)
                  have HB10 := Lib.hid (HB9.out.keep hk10)
                  have HC10 := Lib.hid (HC9.out.keep hk10)
                  have HA10 := Lib.hid (HRD7.out.keep HK10.out)
                  clear hod hk10
                  go_wp2_with fail
                  go_loopw [126] (fun ii wr => ∃ (k m' : Nat), k ≤ np ∧ ii = .int .i64 k ∧ wr = w10.drewN m') (fun ii _ => np - (intOf ii).toNat)
                  case atStart => exact ⟨0, 0, by omega, rfl, rfl⟩
                  case round =>
                    obtain ⟨k, m', hk, rfl, rfl⟩ := hrel
                    by_cases hlt : k < np
                    · obtain ⟨ab, ao, ac, av, hea, hav, ca⟩ := RdI.atK HA10.out k (by rw [HOL.out]; exact hlt)
                      obtain ⟨bb, bo, bc', bv, heb, hbv, cb⟩ := RdI.atK HB10.out k (by rw [HOL2.out]; exact hlt)
                      obtain ⟨cb', co, cc', cv, hec, hcv, cc1⟩ := RdI.atK HC10.out k (by rw [HHL.out]; exact hlt)
                      obtain ⟨db, do', dc', dv, hed, hdv, cd⟩ := RdI.atK HD10.out k (by rw [HHL2.out]; exact hlt)
                      injection hea with hea1 _ _
                      injection heb with heb1 _ _
                      injection hec with hec1 _ _
                      injection hed with hed1 _ _
                      subst hea1 heb1 hec1 hed1
                      have h1 : av ≤ bv := by
                        have := HLO.out.getD k
                        rwa [List.getD, List.getD, hav, hbv] at this
                      have h2 : cv ≤ dv := by
                        have := HLH.out.getD k
                        rwa [List.getD, List.getD, hcv, hdv] at this
                      have h3 : decide (bv < av) = false := by simp; omega
                      have h4 : decide (dv < cv) = false := by simp; omega
                      have i1 : (0 : Int) ≤ (k : Int) := by omega
                      have i2 : (k : Int) < (np : Int) := by omega
                      clear hav hbv hcv hdv h1 h2
                      go_wp2_with fail
                      go_quiet (fail)
                      go_wp2_with fail
                      go_roundw
                      case rel => exact ⟨k + 1, m' + nq, by omega, by go_num, by first | rfl | rw [World.drewN_drewN]⟩
                      case measure => simp [intOf]; omega
                    · go_wp2_with fail
                      go_ret
                      exact ⟨rfl, (HW7.out.trans HK10.out).drewN m'⟩
  · have hz' : (ec != 0) = true := by rw [bne_iff_ne]; exact hz
    go_wp2_with fail
    refine (begun_any _).mono ?_
    rintro e w3 ⟨rfl, hk3⟩
    have HK3 := Lib.hid (HK2.out.trans hk3)
    clear hk3
    go_wp2_with fail
    go_ret
    exact ⟨rfl, HK3.out⟩
theorem costGrows_any (w : World) (v : Array Value) (x : PlanD) (wx : planR.K w x v.toList) (bx : planW x + 1 ≤ 1048576) (u : Array Value) (r : RatesD) (wr : ratesR.K w r u.toList) (A : Option Addr) (n cap : Nat) (more : List Int) (wm : (Rk.slice (Rk.int .u16)).K w more [.slice A n cap]) :
    Calls Try.prog 5 #[.agg v, .agg u, .slice A n cap] w fun e w' => e = .returned (.bool true) ∧ Below w.heap.size w w' := by
  obtain ⟨ov, fv, rfl, ho, hf⟩ := plan_reads wx
  obtain ⟨sv, tv, pv, rfl, hs, ht, hp⟩ := rates_reads wr
  exact (grows_any ov fv sv tv pv x r _ more w ho hf (planW_le bx) hs.ints ht.ints hp.ints (RdI.of_rk wm) (more_bd wm)).mono fun e w' h => ⟨h.1, h.2.below⟩
end Go.Proofs.Ytiiiflckphgdiaa
