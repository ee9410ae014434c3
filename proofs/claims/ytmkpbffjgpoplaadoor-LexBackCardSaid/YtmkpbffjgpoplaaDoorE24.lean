/- lex.Scan. -/
import Derived.Test.YtmkpbffjgpoplaaDoorE23
import Derived.RangeFuncBox
import Derived.Maps.AppendAt
import Derived.Sort.QuietIn
set_option linter.unusedVariables false
set_option linter.unusedSimpArgs false
set_option linter.unnecessarySimpa false
namespace Go.Proofs.YtmkpbffjgpoplaaDoor
open Go.RowKit Go.Shelf
attribute [local go_sem] Oper.semAt_some

/-- The place behind the last word. -/
def behT (t : TokD) : Int := wrap64 (t.place + (t.text.size : Int))
def lastAt (L : List TokD) : Int := match L.getLast? with | none => 0 | some t => behT t
theorem lastAt_snoc (L : List TokD) (t : TokD) : lastAt (L ++ [t]) = behT t := by unfold lastAt; simp
theorem words_last (s : ByteArray) (hs : s.size ≤ 4096) : ∃ k, k ≤ s.size ∧ lastAt (wordsV s 0).1 = (k : Int) ∧ (wordsV s 0).2 = blankV s k ∧ (wordsV s 0).1.length ≤ k := by
  have key : ∀ (f : Nat) (L : List TokD) (k : Nat), s.size + 1 - k ≤ f → WRel s L k (blankV s k) → lastAt L = (k : Int) → ∃ k, k ≤ s.size ∧ lastAt (wordsV s 0).1 = (k : Int) ∧ (wordsV s 0).2 = blankV s k ∧ (wordsV s 0).1.length ≤ k := by
    intro f
    induction f with
    | zero => intro L k h1 h2 _; have := h2.1; omega
    | succ f ih =>
      intro L k h1 h2 h3
      by_cases hb : blankV s k < s.size
      · cases ho : wordO s (blankV s k) with
        | none =>
          have := h2.stop rfl (fun _ => ho)
          rw [this]
          exact ⟨k, h2.1, h3, rfl, h2.2.2.1⟩
        | some t =>
          have hst := h2.step rfl hb ho
          have ht := wordO_text hb ho
          have hbd := blankV_bd s h2.1
          refine ih _ _ (by omega) hst.1 ?_
          rw [lastAt_snoc]
          unfold behT
          rw [ht.1]
          unfold wrap64
          omega
      · have := h2.stop rfl (fun h => absurd h hb)
        rw [this]
        exact ⟨k, h2.1, h3, rfl, h2.2.2.1⟩
  exact key _ [] 0 (Nat.le_refl _) (WRel.start s) rfl
theorem walkV_of {s : ByteArray} (h : s.size ≤ 4096) : walkV s = (wordsV s 0).1 := by unfold walkV; rw [if_pos h]

def ScanI (s : ByteArray) (w : World) (pre : List TokD) (W : World) : Prop :=
  ((∃ v, Boxed W w.heap.size 22 v ∧ W.ownsRow w.heap.size 40 6 v pre.length (cT pre) ∧ True) ∧ Boxed W (w.heap.size + 1) 3 (.int .i64 (lastAt pre)) ∧ Boxed W (w.heap.size + 1 + 1) 9 (.string s)) ∧ Below w.heap.size w W
theorem boxed_keep {A B : World} {row : Option Nat} {b : Nat} {t : TypeId} {v : Value} (h : Boxed A b t v) (hg : A.grownBy B row) (hr : ∀ r, row = some r → ∃ o : Obj, A.heap[r]? = some o ∧ o.isCells = false) : Boxed B b t v :=
  h.kept hg (fun e' => by obtain ⟨o, ho, hc⟩ := hr b e'.symm; rw [show A.heap[b]? = _ from h] at ho; cases ho; cases hc)
theorem blk_keep {A B : World} {row : Option Nat} {b : Nat} {t : TypeId} {cs : Array Value} (h : Blk A b cs t) (hg : A.grownBy B row) (hr : ∀ r, row = some r → ∃ o : Obj, A.heap[r]? = some o ∧ o.isCells = false) : Blk B b cs t :=
  (hg.block b h.lt (fun e' => by obtain ⟨o, ho, hc⟩ := hr b e'.symm; rw [show A.heap[b]? = _ from h] at ho; cases ho; cases hc)).trans h
theorem ScanI.own (s : ByteArray) (w : World) {B : Nat} (hB : w.heap.size ≤ B) : OwnFrom B (ScanI s w) :=
  OwnFrom.and (OwnFrom.and (Own.from (holdsRow_own w.heap.size w.heap.size 22 40 6 (fun pre => pre.length) (fun pre => cT pre) (fun _ _ => True)) _)
    (Own.from (fun s' A B row hs hg hr => ⟨boxed_keep hs.1 hg hr, boxed_keep hs.2 hg hr⟩) _)) (ownFrom_below (Nat.le_refl _) hB)

set_option maxRecDepth 100000 in
set_option maxHeartbeats 8000000 in
theorem lScan_any (s : ByteArray) (w : World) (hv : Vars w) : Calls Tryd.prog 8 #[.string s] w (ScanPost w s) := by
  obtain ⟨n, hn⟩ : ∃ n, s.size = n := ⟨_, rfl⟩
  have HN := Lib.hid hn
  have hl := len_at s hn
  by_cases hlong : 4096 < n
  · have HE := Lib.hid (scanV_long hn hlong)
    have hd : decide ((4096 : Int) < (n : Int)) = true := decide_eq_true (by omega)
    clear hn
    go_enter Tryd.func8, Tryd.ntmps8
    go_wp2_with fail
    go_ret3
    exact ScanPost.of HE.out rfl (World.ownsRow_nil _ _ _ _) (Kept.refl _ _)
  · have hd : decide ((4096 : Int) < (n : Int)) = false := decide_eq_false (by omega)
    have hs : s.size ≤ 4096 := by omega
    obtain ⟨i0, hi0, hz0, hz1, hz2⟩ := info_parts infoTok
    refine (callsIn_wide (n := 9)).1 ?_
    refine callsIn_of_wp_marks Tryd.func8 rfl trivial ?_ rfl
    simp only [Tryd.ntmps8, List.size_toArray, List.length_cons, List.length_nil, Nat.reduceAdd, Nat.reduceSub, Array.replicate_succ, Array.replicate_zero, List.push_toArray, List.append_toArray, List.nil_append, List.cons_append]
    gi_wp2_with (refine ⟨trivial, ?_⟩; gi_at_call 14; refine (callsIn_wide.2 (lWalk_any s _)).mono ?_; rintro e w' ⟨rfl, rfl⟩)
    have b0 := ((Boxed.new w 22 (.slice none 0 0)).alloc (.cells #[.int .i64 0] 3)).alloc (.cells #[.string s] 9)
    have b1 := (Boxed.new (w.alloc (.cells #[.slice none 0 0] 22)) 3 (.int .i64 0)).alloc (.cells #[.string s] 9)
    have b2 := Boxed.new ((w.alloc (.cells #[.slice none 0 0] 22)).alloc (.cells #[.int .i64 0] 3)) 9 (.string s)
    have hK0 : Kept [] w (((w.alloc (.cells #[.slice none 0 0] 22)).alloc (.cells #[.int .i64 0] 3)).alloc (.cells #[.string s] 9)) := (((Kept.refl [] w).alloc _).alloc _).alloc _
    simp only [World.size_alloc] at b1 b2
    have hsz : (((w.alloc (.cells #[.slice none 0 0] 22)).alloc (.cells #[.int .i64 0] 3)).alloc (.cells #[.string s] 9)).heap.size = w.heap.size + 3 := by simp
    obtain ⟨W0, hW0⟩ : ∃ W0, ((w.alloc (.cells #[.slice none 0 0] 22)).alloc (.cells #[.int .i64 0] 3)).alloc (.cells #[.string s] 9) = W0 := ⟨_, rfl⟩
    rw [hW0] at b0 b1 b2 hK0 hsz ⊢
    clear hW0
    have HLAST := Lib.hid (words_last s (by omega))
    have HWK := Lib.hid (walkV_of (s := s) (by omega))
    have HBAD : Hid (∀ L p, wordsV s 0 = (L, p) → p < n → scanV s = ([], p, 50)) := fun L p h1 h2 => scanV_bad hn hlong h1 h2
    have HOK : Hid (∀ L p, wordsV s 0 = (L, p) → ¬ p < n → scanV s = (L, 0, 0)) := fun L p h1 h2 => scanV_ok hn hlong h1 h2
    clear hn
    refine wpIn_rangeFunc_ownH rfl (by omega) (gf := 25) (lb := #[.pointer (some ⟨w.heap.size + 1 + 1, 0, none⟩)]) rfl trivial (enters_of Tryd.func25 (by kernel_rfl) rfl)
      (walk1_stops 8 (by omega) (w.heap.size + 1 + 1) s w W0 hv hK0.below b2.cell) KpT.t (KpT.b (by omega)) (Below.refl _ _) (fun _ => rfl)
      (ScanI s w) (fun _ _ _ => False) (ScanI.own s w (by omega)) (fun _ _ _ _ _ hs _ _ => hs)
      ⟨⟨⟨_, b0, World.ownsRow_nil _ _ _ _, trivial⟩, b1, b2⟩, hK0.below⟩
      (fun x a' W => ∃ Bx, w.heap.size + 2 < Bx ∧ Blk W Bx #[.int .i64 x.kind, .string x.text, .int .i64 x.val.1, .int .i64 x.val.2.1, .string x.val.2.2, .int .i64 x.place] 40 ∧ (∃ v, Boxed W w.heap.size 22 v ∧ v.ownBlock ≠ some Bx) ∧
        a' = { tmps := #[.string s, undef, .slice none 0 0, .int .i64 0, .int .i64 0, .pointer (some ⟨w.heap.size, 0, none⟩), .pointer (some ⟨w.heap.size + 1, 0, none⟩), .pointer (some ⟨Bx, 0, none⟩), .string s, .int .i64 n, .bool false, .string s, .func (.func 25) #[] #[.pointer (some ⟨w.heap.size + 1 + 1, 0, none⟩)], tokV x, undef, undef, undef, undef, undef, undef, undef, undef, undef, undef, undef, undef, undef, undef, undef, undef, undef, undef, undef], defers := [] })
      (fun x a' _ X Y row hs hg hr => by obtain ⟨Bx, h1, h2, ⟨v, h4, h5⟩, h3⟩ := hs; exact ⟨Bx, h1, blk_keep h2 hg (fun r e => (hr r e).2), ⟨v, boxed_keep h4 hg (fun r e => (hr r e).2), h5⟩, h3⟩) ?assign ?body ?done ?stop
    case assign =>
      rintro l pre ⟨K, T, ⟨v1, v2, v3⟩, pl⟩ W K' ⟨⟨⟨v, c0, hrow, _⟩, c1, c2⟩, hB1⟩ hK
      have hl2 := c2.lt
      have hob : v.ownBlock ≠ some W.heap.size := fun e => by have := (hrow.lt _ e).2; omega
      dsimp only [encT, tokV]
      dsimp only [tokV] at hK
      gi_wp2_with fail
      exact hK _ _ ((KeepsOthers.alloc _ _).from _) ⟨(Below.refl _ W).alloc hB1.size _, fun h => ((Kept.refl [] W).alloc _).cell (by simp) h⟩ ⟨⟨⟨v, c0.alloc _, hrow.alloc _, trivial⟩, c1.alloc _, c2.alloc _⟩, hB1.alloc hB1.size _⟩ ⟨W.heap.size, by omega, Blk.new W _ _, ⟨v, c0.alloc _, hob⟩, rfl⟩
    case body =>
      rintro l pre ⟨K, T, ⟨v1, v2, v3⟩, pl⟩ a' W hl' ⟨rr, hrr⟩ ⟨⟨⟨v, c0, hrow, _⟩, c1, c2⟩, hB⟩ ⟨Bx, hBx, bX, ⟨vv, c0', hob⟩, rfl⟩ hlt
      have : vv = v := by
        have := (show W.heap[_]? = _ from c0).symm.trans (show W.heap[_]? = _ from c0')
        simpa using this.symm
      subst this
      dsimp only at bX
      obtain ⟨⟨t0, t1, t2, t3, t4, t5⟩, ft0, ft1, ft2, ft3, ft4, ft5⟩ := bX.six
      have cl := c0.cell
      have hlT := len_at T rfl
      dsimp only [tokV]
      gi_wp2_with (gi_at_builtin; refine wpListIn_append_own _ rfl _ _ 22 rfl w.heap.size 40 i0 (.agg #[.int .i64 0, .string { data := #[] }, .int .i64 0, .int .i64 0, .string { data := #[] }, .int .i64 0]) 6 64 Tryd.underlying22 hi0 hz0 hz1 hz2 rfl (by decide) _ _ _ rfl (hrow.alloc _) ⟨W.heap.size, 0, none⟩ 1 1 [.int .i64 K, .string T, .int .i64 v1, .int .i64 v2, .string v3, .int .i64 pl] rfl rfl (by have h := cell_six_new W (.int .i64 K) (.string T) (.int .i64 v1) (.int .i64 v2) (.string v3) (.int .i64 pl) 40; simpa using h) (by simp [Value.oneCell']) (by unfold maxLen; omega) (by omega) (by have := hB.size; simp; omega) ?_; intro v' w1 hown' hgrow _; obtain ⟨g', cap', rfl⟩ := ownsRow_succ hown'; obtain ⟨hv1, hv2, hr2, hk2, hb2⟩ := c0.appended (by decide) hrow hB.size (Nat.le_refl _) hown' hgrow; have hc1 := hv1.cell; have hf1 := hv1.frozen; have d1 := ((c1.alloc (.cells #[.int .i64 K, .string T, .int .i64 v1, .int .i64 v2, .string v3, .int .i64 pl] 40)).kept hgrow (c1.not_row (by decide) hrow)).other (B' := w.heap.size) (by omega) (.slice (some ⟨g', 0, none⟩) (pre.length + 1) cap'); have d2 := ((c2.alloc (.cells #[.int .i64 K, .string T, .int .i64 v1, .int .i64 v2, .string v3, .int .i64 pl] 40)).kept hgrow (c2.not_row (by decide) hrow)).other (B' := w.heap.size) (by omega) (.slice (some ⟨g', 0, none⟩) (pre.length + 1) cap'); have bX2 : Blk _ _ _ _ := Blk.set_other ((hgrow.block Bx (bX.alloc _).lt (fun e => hob e.symm)).trans (bX.alloc _)) (p := ⟨w.heap.size, 0, none⟩) (by simp; omega) (.slice (some ⟨g', 0, none⟩) (pre.length + 1) cap'); obtain ⟨⟨t0, t1, t2, t3, t4, t5⟩, _⟩ := bX2.six; have hd1 := d1.cell; have hdf1 := d1.frozen)
      have hw : wrap64 (pl + (T.size : Int)) = lastAt (pre ++ [⟨K, T, (v1, v2, v3), pl⟩]) := by rw [lastAt_snoc]; rfl
      have hr3 := hr2.kept (grownBy_setCell' _ (w.heap.size + 1) (.int .i64 (wrap64 (pl + (T.size : Int))))) (.inr (d1.not_row (by decide) hr2).symm)
      refine ⟨(hk2.trans (KeepsOthers.setCell _ _ _)).from _, ⟨hb2.setCell (p := ⟨w.heap.size + 1, 0, none⟩) (by simp) _, fun _ => (d2.other (by omega) _).cell⟩, ⟨⟨_, hv2.other (by omega) _, ?_, trivial⟩, ?_, d2.other (by omega) _⟩, (hB.trans hb2).setCell (p := ⟨w.heap.size + 1, 0, none⟩) (by simp) _⟩
      · rw [cT_app, List.length_append]; exact hr3
      · rw [← hw]; exact d1.set _
    case done =>
      rintro D ys W hD rfl ⟨⟨⟨v, c0, hrow, _⟩, c1, c2⟩, hB⟩ hK
      obtain ⟨k, hk, hla, hwp, hln⟩ := HLAST.out
      rw [HWK.out] at hrow c1
      rw [hla] at c1
      have hc0 := c0.cell
      have hc1 := c1.cell
      have hf1 := c1.frozen
      obtain ⟨L, hL⟩ : ∃ L, (wordsV s 0).1 = L := ⟨_, rfl⟩
      have HW : Hid (wordsV s 0 = (L, blankV s k)) := by show _ = _; rw [← hL, ← hwp]
      rw [hL] at hrow
      clear hL hla hwp hln
      have e0 := c0.other (B' := w.heap.size + 1) (by omega) (.int .i64 (blankV s k))
      have he0 := e0.cell
      have e1 := c1.set (.int .i64 (blankV s k))
      have he1 := e1.cell
      have hr3 := hrow.kept (grownBy_setCell' _ (w.heap.size + 1) (.int .i64 (blankV s k))) (.inr (c1.not_row (by decide) hrow).symm)
      have hB3 := hB.setCell (p := ⟨w.heap.size + 1, 0, none⟩) (by simp) (.int .i64 (blankV s k))
      have hK3 := (KeepsOthers.setCell W ⟨w.heap.size + 1, 0, none⟩ (.int .i64 (blankV s k))).same D _ hK rfl
      have HBK := Lib.hid (fun W => lBlank_in s k hk (by omega) W)
      obtain ⟨p, hp⟩ : ∃ p, blankV s k = p := ⟨_, rfl⟩
      rw [hp] at HW e0 he0 e1 he1 hr3 hB3 hK3 HBK
      clear hp
      have HR := Lib.hid hr3
      have HB3 := Lib.hid hB3
      clear hr3 hB3 hrow hB
      have hnone : ∀ W' : World, W'.ownsRow w.heap.size 40 6 (.slice none 0 0) ([] : List TokD).length (cT []) := fun W' => World.ownsRow_nil _ _ _ _
      by_cases hlt : p < n
      · have HE := Lib.hid (HBAD.out _ _ HW.out hlt)
        gi_wp2_with (refine ⟨trivial, ?_⟩; gi_at_call 15; refine (callsIn_wide.2 (HBK.out _)).mono ?_; rintro e w' ⟨rfl, rfl⟩)
        gi_quiet (fail)
        rename_i nq
        gi_wp2_with fail
        have hKn : ((W.setCell ⟨w.heap.size + 1, 0, none⟩ (.int .i64 p)).drewN nq).heap[D]? = some (.deferred (some [])) := hK3
        have hBn : Below w.heap.size w ((W.setCell ⟨w.heap.size + 1, 0, none⟩ (.int .i64 p)).drewN nq) := ⟨HB3.out.os, HB3.out.tape, HB3.out.output, HB3.out.size, HB3.out.block⟩
        refine ⟨by simp, .inl ⟨_, _, rfl, run_takeDeferred hKn, ?_⟩⟩
        refine ⟨.tuple #[.slice none 0 0, .int .i64 p, .int .i64 50], by simp [results, Tryd.f8, go_sem], ?_⟩
        exact ScanPost.of HE.out rfl (hnone _) (Kept.of_below (hBn.trans (belowK_b (w := w) (Nat.le_refl _) _ D _ _ (by omega) hKn rfl rfl)))
      · have HE := Lib.hid (HOK.out _ _ HW.out hlt)
        gi_wp2_with (refine ⟨trivial, ?_⟩; gi_at_call 15; refine (callsIn_wide.2 (HBK.out _)).mono ?_; rintro e w' ⟨rfl, rfl⟩)
        refine ⟨by simp, .inl ⟨_, _, rfl, run_takeDeferred hK3, ?_⟩⟩
        refine ⟨.tuple #[v, .int .i64 0, .int .i64 0], by simp [results, Tryd.f8, go_sem], ?_⟩
        exact ScanPost.of HE.out rfl (ownsRow_putObj HR.out _ hK3 rfl) (Kept.of_below (HB3.out.trans (belowK_b (w := w) (Nat.le_refl _) _ D _ _ (by omega) hK3 rfl rfl)))
    case stop =>
      rintro D c pre W _ _ h _
      exact h.elim

end Go.Proofs.YtmkpbffjgpoplaaDoor
