/- tells: what is told of is told, with its span. -/
import Derived.Test.YtdboipjbpkhacaaS8
import Derived.Sort.QuietIn
set_option linter.unusedVariables false
set_option linter.unusedSimpArgs false
set_option linter.unnecessarySimpa false
namespace Go.Proofs.Ytdboipjbpkhacaa
open Go.RowKit Go.Shelf
attribute [local go_sem] Oper.semAt_some

theorem KeepsOthers.drewN' (W : World) (q : Nat) : KeepsOthers W (W.drewN q) := ⟨Nat.le_refl _, fun k o hk ho => hk⟩
/-- No operation is a defer statement. -/
def noDefer (l : List Oper) : Bool := l.all fun o => match o.op with | .defer _ => false | _ => true
theorem noDefer_ne {l : List Oper} (h : noDefer l = true) {o : Oper} (ho : o ∈ l) : ∀ c, o.op ≠ .defer c := fun c e => by
  have := List.all_eq_true.1 h o ho
  rw [e] at this
  cases this
theorem anyIn_round {P : Program} {n l : Nat} {md : Region.Mode} {ops : Array Oper} {Q : Exit → Act → World → Prop} (hnd : ∀ o ∈ ops.toList, ∀ c, o.op ≠ .defer c) : ∀ (fuel : Nat) (listed : Array Bool) (a : Act) (w : World),
    wpAnyIn Fence.wide n P md ops Q fuel listed a w → wpAnyIn (Fence.wide.inRound l) n P md ops Q fuel listed a w
  | 0, _, _, _, h => h
  | fuel + 1, listed, a, w, h => ⟨h.1, fun i hi => by
    have h2 := h.2 i hi
    unfold wpOpIn at h2 ⊢
    cases ho : ops[i]? with
    | none => simp only [ho] at h2 ⊢; exact anyIn_round hnd fuel _ _ _ h2
    | some o =>
      simp only [ho] at h2 ⊢
      split
      · rename_i hw
        simp only [hw, if_true] at h2
        have h3 := Oper.wpIn_mono (fun a w hh => anyIn_round (l := l) hnd fuel _ a w hh) h2
        unfold Oper.wpIn at h3 ⊢
        rw [Oper.semAt_eq _ _ _ (hnd o (by rw [← Array.getElem?_toList] at ho; exact List.mem_of_getElem? ho))] at h3 ⊢
        exact h3
      · rename_i hw
        simp only [hw] at h2
        exact ⟨h2.1, anyIn_round hnd fuel _ _ _ h2.2⟩⟩
/-- A region that only reads, in a round: one walk in the order of the text. -/
theorem quiet_round {P : Program} {n l2 id : Nat} {Q : Exit → Act → World → Prop} {a : Act} {w : World} {l : List Oper} (hm : P.follows .mixedOrders = true) (hB : Region.lexB .any l.toArray = true) (hnd : noDefer l = true)
    (h : wpQuietIn Fence.wide n P l.toArray (fun w' => ∃ n, w' = w.drewN n) (fun a' => ∀ w', (∃ n, w' = w.drewN n) → Q .normal a' w') l a) : (Code.region id l.toArray true).wpIn (Fence.wide.inRound l2) n P Q a w := by
  have hB2 := hB
  simp only [Region.lexB, Bool.and_eq_true] at hB2
  refine wpIn_region_any hm (anyIn_round (by simpa using fun o ho => noDefer_ne hnd ho) _ _ _ _ (wpAnyIn_of_quiet (C := fun w' => ∃ n, w' = w.drewN n) (Q := fun a' => ∀ w', (∃ n, w' = w.drewN n) → Q .normal a' w') rfl (fun _ w' hw' h => h w' hw') _ _ _ _ ⟨1, rfl⟩ ?_))
  have := wpAnyQIn_lex (F := Fence.wide) (n := n) (C := fun w' => ∃ n, w' = w.drewN n) (md := .any) hB2.1 l 0 (Array.replicate l.toArray.size false) a (by simp) (by simpa using hB2.2) h
  simpa using this

set_option maxRecDepth 100000 in
set_option maxHeartbeats 8000000 in
theorem tells_any (v u : Value) (xs : List Th) (stop : Int) (w : World) (hit : ItT w v xs) (hu : RdT w u xs) :
    Calls Try.prog 12 #[v, u, .int .i64 stop] w fun e w' => e = .returned (.bool true) ∧ Kept [] w w' := by
  obtain ⟨g, lb, rfl, eg, hseq⟩ := hit
  have HU := Lib.hid hu
  obtain ⟨A, c, rfl, hmx, hu⟩ := hu
  obtain ⟨L, hL⟩ : ∃ L, xs.length = L := ⟨_, rfl⟩
  rw [hL] at hmx HU ⊢
  have HL := Lib.hid hL
  clear hL hu
  refine (callsIn_wide (n := 9)).1 ?_
  refine callsIn_of_wp_marks Try.func12 rfl trivial ?_ rfl
  simp only [Try.ntmps12, List.size_toArray, List.length_cons, List.length_nil, Nat.reduceAdd, Nat.reduceSub, Array.replicate_succ, Array.replicate_zero, List.push_toArray, List.append_toArray, List.nil_append, List.cons_append]
  gi_wp2_with fail
  have b0 := (((Boxed.new w 35 (.slice A L c)).alloc (.cells #[.int .i64 stop] 3)).alloc (.cells #[.bool false] 4)).alloc (.cells #[.int .i64 0] 3)
  have b1 := ((Boxed.new (w.alloc (.cells #[.slice A L c] 35)) 3 (.int .i64 stop)).alloc (.cells #[.bool false] 4)).alloc (.cells #[.int .i64 0] 3)
  have b2 := (Boxed.new ((w.alloc (.cells #[.slice A L c] 35)).alloc (.cells #[.int .i64 stop] 3)) 4 (.bool false)).alloc (.cells #[.int .i64 0] 3)
  have b3 := Boxed.new (((w.alloc (.cells #[.slice A L c] 35)).alloc (.cells #[.int .i64 stop] 3)).alloc (.cells #[.bool false] 4)) 3 (.int .i64 0)
  have hK0 : Kept [] w ((((w.alloc (.cells #[.slice A L c] 35)).alloc (.cells #[.int .i64 stop] 3)).alloc (.cells #[.bool false] 4)).alloc (.cells #[.int .i64 0] 3)) := ((((Kept.refl [] w).alloc _).alloc _).alloc _).alloc _
  simp only [World.size_alloc] at b1 b2 b3
  have hsz : ((((w.alloc (.cells #[.slice A L c] 35)).alloc (.cells #[.int .i64 stop] 3)).alloc (.cells #[.bool false] 4)).alloc (.cells #[.int .i64 0] 3)).heap.size = w.heap.size + 4 := by simp
  obtain ⟨W0, hW0⟩ : ∃ W0, (((w.alloc (.cells #[.slice A L c] 35)).alloc (.cells #[.int .i64 stop] 3)).alloc (.cells #[.bool false] 4)).alloc (.cells #[.int .i64 0] 3) = W0 := ⟨_, rfl⟩
  rw [hW0] at b0 b1 b2 b3 hK0 hsz ⊢
  clear hW0
  have ok : ∀ {A B : World} {row : Option Nat} {b : Nat} {t : TypeId} {v : Value}, Boxed A b t v → A.grownBy B row → (∀ r, row = some r → ∃ o : Obj, A.heap[r]? = some o ∧ o.isCells = false) → Boxed B b t v :=
    fun {A B row b t v} h hg hr => h.kept hg (fun e' => by obtain ⟨o, ho, hc⟩ := hr b e'.symm; rw [show A.heap[b]? = _ from h] at ho; cases ho; cases hc)
  have okb : ∀ {A B : World} {row : Option Nat} {b : Nat} {t : TypeId} {cs : Array Value}, Blk A b cs t → A.grownBy B row → (∀ r, row = some r → ∃ o : Obj, A.heap[r]? = some o ∧ o.isCells = false) → Blk B b cs t :=
    fun {A B row b t v} h hg hr => (hg.block b h.lt (fun e' => by obtain ⟨o, ho, hc⟩ := hr b e'.symm; rw [show A.heap[b]? = _ from h] at ho; cases ho; cases hc)).trans h
  refine wpIn_rangeFunc_ownH rfl (by omega) (gf := g) (lb := lb) rfl trivial eg (hseq W0 [w.heap.size + 1 + 1, w.heap.size + 1 + 1 + 1] hK0 (by intro x hx; simp at hx; omega) 8 (by omega)) KeptC.trans (fun W l o o' _ h hc _ => KeptC.putObj h hc) (Below.refl _ _) (fun _ => rfl)
    (fun pre W => (pre <+: xs ∧ Boxed W w.heap.size 35 (.slice A L c) ∧ Boxed W (w.heap.size + 1) 3 (.int .i64 stop) ∧ Boxed W (w.heap.size + 1 + 1) 4 (.bool false) ∧ Boxed W (w.heap.size + 1 + 1 + 1) 3 (.int .i64 pre.length)) ∧ Below w.heap.size w W)
    (StopA xs w)
    (OwnFrom.and (Own.from (fun s A B row hs hg hr => ⟨hs.1, ok hs.2.1 hg hr, ok hs.2.2.1 hg hr, ok hs.2.2.2.1 hg hr, ok hs.2.2.2.2 hg hr⟩) _) (ownFrom_below (Nat.le_refl _) (by omega)))
    (fun cc => OwnFrom.and (Own.from (fun s A B row hs hg hr => ⟨hs.1, hs.2.choose, hs.2.choose_spec.1, ok hs.2.choose_spec.2 hg hr⟩) _) (ownFrom_below (Nat.le_refl _) (by omega)))
    ⟨⟨List.nil_prefix, b0, b1, b2, b3⟩, hK0.below⟩
    (fun x a' W => ∃ Bx, w.heap.size + 3 < Bx ∧ Blk W Bx #[.int .i64 x.1, .int .i64 x.2.1] 29 ∧ a' = { tmps := #[.func (.func g) #[] lb, .slice A L c, .int .i64 stop, undef, .pointer (some ⟨w.heap.size, 0, none⟩), .pointer (some ⟨w.heap.size + 1, 0, none⟩), .pointer (some ⟨w.heap.size + 1 + 1, 0, none⟩), .pointer (some ⟨w.heap.size + 1 + 1 + 1, 0, none⟩), .pointer (some ⟨Bx, 0, none⟩), .string x.2.2, .func (.func g) #[] lb, .agg #[.int .i64 x.1, .int .i64 x.2.1], .string x.2.2, undef, undef, undef, undef, undef, undef, undef, undef, undef, undef, undef, undef, undef, undef, undef, undef, undef, undef, undef, undef, undef, undef, undef, undef, undef, undef, undef, undef, undef, undef, undef], defers := [] })
    (fun x a' _ X Y row hs hg hr => by obtain ⟨Bx, h1, h2, h3⟩ := hs; exact ⟨Bx, h1, okb h2 hg (fun r e => (hr r e).2), h3⟩) ?assign ?body ?done ?stop
  case assign =>
    rintro l pre x W K ⟨⟨hp, c0, c1, c2, c3⟩, hB1⟩ hK
    have hl3 := c3.lt
    dsimp only [encT]
    gi_wp2
    exact hK _ _ ((KeepsOthers.alloc _ _).from _) (KeptC.nil ((Kept.refl [] W).alloc _)) ⟨⟨hp, c0.alloc _, c1.alloc _, c2.alloc _, c3.alloc _⟩, hB1.alloc hB1.size _⟩ ⟨W.heap.size, by omega, Blk.new W _ _, rfl⟩
  case body =>
    rintro l pre ⟨x1, x2, xt⟩ a' W hl ⟨rr, hrr⟩ ⟨⟨hpre, bW, bS, bR, bN⟩, hB⟩ ⟨Bx, hBx, bX, rfl⟩ hlt
    have cX0 := bX.cell 0
    have cX1 := bX.cell 1
    simp at cX0 cX1
    dsimp only
    have cW := bW.cell
    have cS := bS.cell
    have cR := bR.cell
    have fR := bR.frozen
    have cN := bN.cell
    have fN := bN.frozen
    have hUW := (RdT.keep HU.out (Kept.of_below hB))
    have hsW := hB.size
    obtain ⟨k, hk⟩ : ∃ k, pre.length = k := ⟨_, rfl⟩
    rw [hk] at cN hlt bN
    have HPK : Hid (xs[k]? = some (x1, x2, xt) → pre ++ [(x1, x2, xt)] <+: xs) := fun h => take_get hpre (by rw [hk]; exact h)
    have HPG : Hid (pre ++ [(x1, x2, xt)] <+: xs → xs[k]? = some (x1, x2, xt)) := fun h => pre_get hk h
    have HPL : Hid ((pre ++ [(x1, x2, xt)]).length = k + 1) := by show _ = _; simp [hk]
    have HUW := Lib.hid hUW
    clear hk hUW
    have BAD : Hid (∀ (q : Nat), (pre ++ [(x1, x2, xt)] <+: xs → False) → ownPostG W0.heap.size (KeptC [w.heap.size + 1 + 1, w.heap.size + 1 + 1 + 1])
        (fun pre W => (pre <+: xs ∧ Boxed W w.heap.size 35 (.slice A L c) ∧ Boxed W (w.heap.size + 1) 3 (.int .i64 stop) ∧ Boxed W (w.heap.size + 1 + 1) 4 (.bool false) ∧ Boxed W (w.heap.size + 1 + 1 + 1) 3 (.int .i64 pre.length)) ∧ Below w.heap.size w W)
        (StopA xs w) (pre ++ [(x1, x2, xt)]) W .ret { tmps := #[], defers := [] } ((W.drewN q).setCell ⟨w.heap.size + 1 + 1, 0, none⟩ (.bool false))) := fun q hno =>
      ⟨((KeepsOthers.drewN' W q).trans (KeepsOthers.setCell _ _ _)).from _, ⟨rfl, false, fun hp => (hno hp).elim, (show Boxed (W.drewN q) _ _ _ from bR).set _⟩, (show Below w.heap.size w (W.drewN q) from ⟨hB.os, hB.tape, hB.output, hB.size, hB.block⟩).setCell (p := ⟨w.heap.size + 1 + 1, 0, none⟩) (by simp; omega) _⟩
    have hmx2 : Try.prog.follows .mixedOrders = true := by kernel_rfl
    by_cases hkL : L ≤ k
    · gi_wp2_with fail
      refine quiet_round (by kernel_rfl) (by kernel_rfl) (by kernel_rfl) ?_
      repeat (first | gi_big_quiet_skip | (gi_big_quiet_want; gi_big_quiet_op; go_big_quiet_on))
      refine wpQuietIn_nil ?_
      rintro _ ⟨nq, rfl⟩
      gi_wp2_with fail
      refine BAD.out _ (fun hp => ?_)
      have := hp.length_le
      rw [HPL.out, HL.out] at this
      omega
    · obtain ⟨⟨y1, y2, yt⟩, hy⟩ : ∃ y, xs[k]? = some y := ⟨_, List.getElem?_eq_getElem (by rw [HL.out]; omega)⟩
      obtain ⟨A', c', he, _, hcell⟩ := HUW.out
      obtain ⟨bb, off, rfl, hcc⟩ := hcell (by rintro rfl; simp at hy)
      injection he with he1 he2 he3
      subst he1 he3
      obtain ⟨hck1, hck2, hck3⟩ := hcc k _ hy
      have HY := Lib.hid hy
      clear hcc hy hcell he2
      dsimp only at hck1 hck2 hck3
      have HNO : Hid ((x1 = y1 → x2 = y2 → xt = yt → False) → (pre ++ [(x1, x2, xt)] <+: xs → False)) := fun hno hp => by
        have h1 := HPG.out hp
        rw [HY.out] at h1
        have := Option.some.inj h1
        injection this with h2 h3
        injection h3 with h3 h4
        exact hno h2.symm h3.symm h4.symm
      cases hx1 : (x1 == y1) with
      | false =>
        have HX1 := Lib.hid hx1
        gi_wp2_with fail
        refine quiet_round (by kernel_rfl) (by kernel_rfl) (by kernel_rfl) ?_
        repeat (first | gi_big_quiet_skip | (gi_big_quiet_want; gi_big_quiet_op; go_big_quiet_on))
        refine wpQuietIn_nil ?_
        rintro _ ⟨nq, rfl⟩
        gi_wp2_with fail
        refine BAD.out _ (HNO.out (fun h1 _ _ => ?_))
        have := HX1.out
        rw [h1] at this; simp at this
      | true =>
        have e1 : x1 = y1 := by simpa using hx1
        subst e1
        cases hx2 : (x2 == y2) with
        | false =>
          have HX2 := Lib.hid hx2
          gi_wp2_with fail
          refine quiet_round (by kernel_rfl) (by kernel_rfl) (by kernel_rfl) ?_
          repeat (first | gi_big_quiet_skip | (gi_big_quiet_want; gi_big_quiet_op; go_big_quiet_on))
          refine wpQuietIn_nil ?_
          rintro _ ⟨nq, rfl⟩
          gi_wp2_with fail
          refine BAD.out _ (HNO.out (fun _ h1 _ => ?_))
          have := HX2.out
          rw [h1] at this; simp at this
        | true =>
          have e2 : x2 = y2 := by simpa using hx2
          subst e2
          by_cases hxy : xt = yt
          · subst hxy
            have HPRE : Hid (pre ++ [(x1, x2, xt)] <+: xs) := HPK.out HY.out
            gi_wp2_with fail
            refine quiet_round (by kernel_rfl) (by kernel_rfl) (by kernel_rfl) ?_
            repeat (first | gi_big_quiet_skip | (gi_big_quiet_want; gi_big_quiet_op; go_big_quiet_on))
            refine wpQuietIn_nil ?_
            rintro _ ⟨nq, rfl⟩
            have hwk : IntKind.i64.wrap ((k : Int) + 1) = (k : Int) + 1 := by unfold IntKind.wrap; simp [IntKind.signed, IntKind.bits]; omega
            have bN' : Boxed (W.drewN nq) (w.heap.size + 1 + 1 + 1) 3 (.int .i64 k) := bN
            have bS' : Boxed (W.drewN nq) (w.heap.size + 1) 3 (.int .i64 stop) := bS
            have bR' : Boxed (W.drewN nq) (w.heap.size + 1 + 1) 4 (.bool false) := bR
            have bW' : Boxed (W.drewN nq) w.heap.size 35 (.slice (some ⟨bb, off, none⟩) L c) := bW
            have hB' : Below w.heap.size w (W.drewN nq) := ⟨hB.os, hB.tape, hB.output, hB.size, hB.block⟩
            have hN1 := bN'.set (.int .i64 ((k : Int) + 1))
            have hS1 := bS'.other (B' := w.heap.size + 1 + 1 + 1) (by omega) (.int .i64 ((k : Int) + 1))
            have hR1 := bR'.other (B' := w.heap.size + 1 + 1 + 1) (by omega) (.int .i64 ((k : Int) + 1))
            have hW1 := bW'.other (B' := w.heap.size + 1 + 1 + 1) (by omega) (.int .i64 ((k : Int) + 1))
            have hB1 := hB'.setCell (p := ⟨w.heap.size + 1 + 1 + 1, 0, none⟩) (by simp; omega) (.int .i64 ((k : Int) + 1))
            have hko := (KeepsOthers.drewN' W nq).trans (KeepsOthers.setCell (W.drewN nq) ⟨w.heap.size + 1 + 1 + 1, 0, none⟩ (.int .i64 ((k : Int) + 1)))
            have hkc : KeptC [w.heap.size + 1 + 1, w.heap.size + 1 + 1 + 1] W ((W.drewN nq).setCell ⟨w.heap.size + 1 + 1 + 1, 0, none⟩ (.int .i64 ((k : Int) + 1))) := KeptC.of (((Kept.refl _ W).drewN nq).setCell (.inl (by simp)) _)
            have cN1 := hN1.cell
            have cS1 := hS1.cell
            have cR1 := hR1.cell
            have fR1 := hR1.frozen
            cases hst : ((k : Int) + 1 == stop) with
            | true =>
              gi_wp2_with fail
              exact ⟨(hko.trans (KeepsOthers.setCell _ _ _)).from _, ⟨rfl, true, fun _ => rfl, hR1.set _⟩, hB1.setCell (p := ⟨w.heap.size + 1 + 1, 0, none⟩) (by simp; omega) _⟩
            | false =>
              gi_wp2_with fail
              refine ⟨hko.from _, hkc, ⟨HPRE.out, hW1, hS1, hR1, ?_⟩, hB1⟩
              rw [HPL.out]
              exact hN1
          · have hne := str_ne hxy
            gi_wp2_with fail
            refine quiet_round (by kernel_rfl) (by kernel_rfl) (by kernel_rfl) ?_
            repeat (first | gi_big_quiet_skip | (gi_big_quiet_want; gi_big_quiet_op; go_big_quiet_on))
            refine wpQuietIn_nil ?_
            rintro _ ⟨nq, rfl⟩
            gi_wp2_with fail
            exact BAD.out _ (HNO.out (fun _ _ h1 => hxy h1))
  case done =>
    rintro D ys W hD rfl ⟨⟨_, bW, bS, bR, bN⟩, hB⟩ hK
    have cW := bW.cell
    have cN := bN.cell
    have cR := bR.cell
    have fR := bR.frozen
    rw [HL.out] at cN
    gi_wp2_with fail
    have hK' := (KeepsOthers.setCell W ⟨w.heap.size + 1 + 1, 0, none⟩ (.bool true)).same D _ hK rfl
    refine ⟨by simp, .inl ⟨_, _, rfl, run_takeDeferred hK', ?_⟩⟩
    have hc5 := cell_kept (bR.set (.bool true)).cell (grownBy_putObj' _ D (.deferred none)) (fun r e => by cases e; exact ⟨_, hK', rfl⟩)
    refine ⟨.bool true, ?_, rfl, Kept.of_below ((hB.setCell (p := ⟨w.heap.size + 1 + 1, 0, none⟩) (by simp; omega) _).trans (belowK_b (w := w) (Nat.le_refl _) _ D _ _ (by omega) hK' rfl rfl))⟩
    simp [results, Try.f12, go_sem, hc5]
  case stop =>
    rintro D cc pre W hD hpre ⟨⟨rfl, B, hbt, bR⟩, hB⟩ hK
    obtain rfl := hbt hpre
    gi_wp2_with fail
    refine ⟨by simp, .inl ⟨_, _, rfl, run_takeDeferred hK, ?_⟩⟩
    have hc5 := cell_kept bR.cell (grownBy_putObj' _ D (.deferred none)) (fun r e => by cases e; exact ⟨_, hK, rfl⟩)
    refine ⟨.bool true, ?_, rfl, Kept.of_below (hB.trans (belowK_b (w := w) (Nat.le_refl _) W D _ _ (by omega) hK rfl rfl))⟩
    simp [results, Try.f12, go_sem, hc5]

end Go.Proofs.Ytdboipjbpkhacaa
