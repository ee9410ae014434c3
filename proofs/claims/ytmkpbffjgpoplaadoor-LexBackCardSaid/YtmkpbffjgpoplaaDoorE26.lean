/- tells: what the iterator gives is held against the words. -/
import Derived.Test.YtmkpbffjgpoplaaDoorE25
import Derived.Sort.CutIn
import Derived.Sort.QuietIn
set_option linter.unusedVariables false
set_option linter.unusedSimpArgs false
set_option linter.unnecessarySimpa false
namespace Go.Proofs.YtmkpbffjgpoplaaDoor
open Go.RowKit Go.Shelf
attribute [local go_sem] Oper.semAt_some

theorem take_getW {α : Type} {xs pre : List α} {x : α} (h : pre <+: xs) (hx : xs[pre.length]? = some x) : pre ++ [x] <+: xs := by
  obtain ⟨t, rfl⟩ := h
  rw [List.getElem?_append_right (Nat.le_refl _), Nat.sub_self] at hx
  cases t with
  | nil => simp at hx
  | cons y t =>
    simp at hx
    subst hx
    exact ⟨t, by simp⟩

theorem KeepsOthers.drewN' (W : World) (q : Nat) : KeepsOthers W (W.drewN q) := ⟨Nat.le_refl _, fun k o hk ho => hk⟩
/-- No operation is a defer statement. -/
def noDefer (l : List Oper) : Bool := l.all fun o => match o.op with | .defer _ => false | _ => true
theorem noDefer_ne {l : List Oper} (h : noDefer l = true) {o : Oper} (ho : o ∈ l) : ∀ c, o.op ≠ .defer c := fun c e => by
  have := List.all_eq_true.1 h o ho
  rw [e] at this
  cases this
theorem anyIn_round {P : Program} {n l : Nat} {md : Region.Mode} {ops : Array Oper} {Q : Exit → Act → World → Prop} (hnd : ∀ o ∈ ops.toList, ∀ c, o.op ≠ .defer c) : ∀ (fuel : Nat) (listed : Array Bool) (a : Act) (w : World),
    wpAnyIn Fence.wide n P md ops Q fuel listed a w → wpAnyIn (Fence.wide.inRound l) n P md ops Q fuel listed a w
  | 0, _, _, _, h => h
  | fuel + 1, listed, a, w, h => ⟨h.1, fun i hi => by
    have h2 := h.2 i hi
    unfold wpOpIn at h2 ⊢
    cases ho : ops[i]? with
    | none => simp only [ho] at h2 ⊢; exact anyIn_round hnd fuel _ _ _ h2
    | some o =>
      simp only [ho] at h2 ⊢
      split
      · rename_i hw
        simp only [hw, if_true] at h2
        have h3 := Oper.wpIn_mono (fun a w hh => anyIn_round (l := l) hnd fuel _ a w hh) h2
        unfold Oper.wpIn at h3 ⊢
        rw [Oper.semAt_eq _ _ _ (hnd o (by rw [← Array.getElem?_toList] at ho; exact List.mem_of_getElem? ho))] at h3 ⊢
        exact h3
      · rename_i hw
        simp only [hw] at h2
        exact ⟨h2.1, anyIn_round hnd fuel _ _ _ h2.2⟩⟩
/-- A region that only reads, in a round: one walk in the order of the text. -/
theorem quiet_round {P : Program} {n l2 id : Nat} {Q : Exit → Act → World → Prop} {a : Act} {w : World} {l : List Oper} (hm : P.follows .mixedOrders = true) (hB : Region.lexB .any l.toArray = true) (hnd : noDefer l = true)
    (h : wpQuietIn Fence.wide n P l.toArray (fun w' => ∃ n, w' = w.drewN n) (fun a' => ∀ w', (∃ n, w' = w.drewN n) → Q .normal a' w') l a) : (Code.region id l.toArray true).wpIn (Fence.wide.inRound l2) n P Q a w := by
  have hB2 := hB
  simp only [Region.lexB, Bool.and_eq_true] at hB2
  refine wpIn_region_any hm (anyIn_round (by simpa using fun o ho => noDefer_ne hnd ho) _ _ _ _ (wpAnyIn_of_quiet (C := fun w' => ∃ n, w' = w.drewN n) (Q := fun a' => ∀ w', (∃ n, w' = w.drewN n) → Q .normal a' w') rfl (fun _ w' hw' h => h w' hw') _ _ _ _ ⟨1, rfl⟩ ?_))
  have := wpAnyQIn_lex (F := Fence.wide) (n := n) (C := fun w' => ∃ n, w' = w.drewN n) (md := .any) hB2.1 l 0 (Array.replicate l.toArray.size false) a (by simp) (by simpa using hB2.2) h
  simpa using this

theorem str_ne {x y : ByteArray} (h : x ≠ y) : (!x.toList == y.toList) = true := by
  have : x.toList ≠ y.toList := fun e => h (by rw [ByteArray.toList_eq, ByteArray.toList_eq] at e; exact WideShapes.bytes_inj e)
  simpa using this
theorem ba_ne {x y : ByteArray} (h : x ≠ y) : (x == y) = false := by
  cases hb : (x == y) with
  | false => rfl
  | true => exact absurd (ByteArray.ext (eq_of_beq (show (x.data == y.data) = true from hb))) h
def StopT (xs : List TokD) (w : World) (cc : Code) (pre : List TokD) (W : World) : Prop :=
  (cc = .ret ∧ ∃ B, (pre <+: xs → B = true) ∧ Boxed W (w.heap.size + 1 + 1) 4 (.bool B)) ∧ Below w.heap.size w W

set_option maxRecDepth 100000 in
set_option maxHeartbeats 8000000 in
theorem tells_any (tb : Nat) (s : ByteArray) (u : Value) (xs : List TokD) (stop : Int) (w : World) (hv : Vars w) (htb : w.cell? ⟨tb, 0, none⟩ = some (.string s)) (hu : RdT w u xs) (hxs : walkV s = xs) :
    Calls Tryd.prog 13 #[.func (.func 25) #[] #[.pointer (some ⟨tb, 0, none⟩)], u, .int .i64 stop] w fun e w' => e = .returned (.bool true) ∧ Kept [] w w' := by
  have HU := Lib.hid hu
  obtain ⟨A, c, rfl, hmx, hu⟩ := hu
  obtain ⟨L, hL⟩ : ∃ L, xs.length = L := ⟨_, rfl⟩
  rw [hL] at HU ⊢
  have HL := Lib.hid hL
  clear hL hmx hu
  refine (callsIn_wide (n := 9)).1 ?_
  refine callsIn_of_wp_marks Tryd.func13 rfl trivial ?_ rfl
  simp only [Tryd.ntmps13, List.size_toArray, List.length_cons, List.length_nil, Nat.reduceAdd, Nat.reduceSub, Array.replicate_succ, Array.replicate_zero, List.push_toArray, List.append_toArray, List.nil_append, List.cons_append]
  gi_wp2_with fail
  have b0 := (((Boxed.new w 22 (.slice A L c)).alloc (.cells #[.int .i64 stop] 3)).alloc (.cells #[.bool false] 4)).alloc (.cells #[.int .i64 0] 3)
  have b1 := ((Boxed.new (w.alloc (.cells #[.slice A L c] 22)) 3 (.int .i64 stop)).alloc (.cells #[.bool false] 4)).alloc (.cells #[.int .i64 0] 3)
  have b2 := (Boxed.new ((w.alloc (.cells #[.slice A L c] 22)).alloc (.cells #[.int .i64 stop] 3)) 4 (.bool false)).alloc (.cells #[.int .i64 0] 3)
  have b3 := Boxed.new (((w.alloc (.cells #[.slice A L c] 22)).alloc (.cells #[.int .i64 stop] 3)).alloc (.cells #[.bool false] 4)) 3 (.int .i64 0)
  have hK0 : Kept [] w ((((w.alloc (.cells #[.slice A L c] 22)).alloc (.cells #[.int .i64 stop] 3)).alloc (.cells #[.bool false] 4)).alloc (.cells #[.int .i64 0] 3)) := ((((Kept.refl [] w).alloc _).alloc _).alloc _).alloc _
  simp only [World.size_alloc] at b1 b2 b3
  have hsz : ((((w.alloc (.cells #[.slice A L c] 22)).alloc (.cells #[.int .i64 stop] 3)).alloc (.cells #[.bool false] 4)).alloc (.cells #[.int .i64 0] 3)).heap.size = w.heap.size + 4 := by simp
  obtain ⟨W0, hW0⟩ : ∃ W0, (((w.alloc (.cells #[.slice A L c] 22)).alloc (.cells #[.int .i64 stop] 3)).alloc (.cells #[.bool false] 4)).alloc (.cells #[.int .i64 0] 3) = W0 := ⟨_, rfl⟩
  rw [hW0] at b0 b1 b2 b3 hK0 hsz ⊢
  clear hW0
  refine wpIn_rangeFunc_ownH rfl (by omega) (gf := 25) (lb := #[.pointer (some ⟨tb, 0, none⟩)]) rfl trivial (enters_of Tryd.func25 (by kernel_rfl) rfl) (walk1_stops 8 (by omega) tb s w W0 hv hK0.below (hK0.cell (by simp) htb)) KpT.t (KpT.b (by omega)) (Below.refl _ _) (fun _ => rfl)
    (fun pre W => (pre <+: xs ∧ Boxed W w.heap.size 22 (.slice A L c) ∧ Boxed W (w.heap.size + 1) 3 (.int .i64 stop) ∧ Boxed W (w.heap.size + 1 + 1) 4 (.bool false) ∧ Boxed W (w.heap.size + 1 + 1 + 1) 3 (.int .i64 pre.length)) ∧ Below w.heap.size w W)
    (StopT xs w)
    (OwnFrom.and (Own.from (fun s A B row hs hg hr => ⟨hs.1, boxed_keep hs.2.1 hg hr, boxed_keep hs.2.2.1 hg hr, boxed_keep hs.2.2.2.1 hg hr, boxed_keep hs.2.2.2.2 hg hr⟩) _) (ownFrom_below (Nat.le_refl _) (by omega)))
    (fun cc => OwnFrom.and (Own.from (fun s A B row hs hg hr => ⟨hs.1, hs.2.choose, hs.2.choose_spec.1, boxed_keep hs.2.choose_spec.2 hg hr⟩) _) (ownFrom_below (Nat.le_refl _) (by omega)))
    ⟨⟨List.nil_prefix, b0, b1, b2, b3⟩, hK0.below⟩
    (fun x a' W => ∃ Bx, w.heap.size + 3 < Bx ∧ Blk W Bx #[.int .i64 x.kind, .string x.text, .int .i64 x.val.1, .int .i64 x.val.2.1, .string x.val.2.2, .int .i64 x.place] 40 ∧ a' = { tmps := #[.func (.func 25) #[] #[.pointer (some ⟨tb, 0, none⟩)], .slice A L c, .int .i64 stop, undef, .pointer (some ⟨w.heap.size, 0, none⟩), .pointer (some ⟨w.heap.size + 1, 0, none⟩), .pointer (some ⟨w.heap.size + 1 + 1, 0, none⟩), .pointer (some ⟨w.heap.size + 1 + 1 + 1, 0, none⟩), .pointer (some ⟨Bx, 0, none⟩), .func (.func 25) #[] #[.pointer (some ⟨tb, 0, none⟩)], tokV x, undef, undef, undef, undef, undef, undef, undef, undef, undef, undef, undef, undef, undef, undef, undef, undef, undef, undef, undef, undef, undef], defers := [] })
    (fun x a' _ X Y row hs hg hr => by obtain ⟨Bx, h1, h2, h3⟩ := hs; exact ⟨Bx, h1, blk_keep h2 hg (fun r e => (hr r e).2), h3⟩) ?assign ?body ?done ?stop
  case assign =>
    rintro l pre ⟨K, T, ⟨v1, v2, v3⟩, pl⟩ W K' ⟨⟨hp, c0, c1, c2, c3⟩, hB1⟩ hK
    have hl3 := c3.lt
    dsimp only [encT, tokV]
    dsimp only [tokV] at hK
    gi_wp2_with fail
    exact hK _ _ ((KeepsOthers.alloc _ _).from _) ⟨(Below.refl _ W).alloc hB1.size _, fun h => ((Kept.refl [] W).alloc _).cell (by simp) h⟩ ⟨⟨hp, c0.alloc _, c1.alloc _, c2.alloc _, c3.alloc _⟩, hB1.alloc hB1.size _⟩ ⟨W.heap.size, by omega, Blk.new W _ _, rfl⟩
  case body =>
    rintro l pre ⟨K, T, ⟨v1, v2, v3⟩, pl⟩ a' W hl ⟨rr, hrr⟩ ⟨⟨hpre, bW, bS, bR, bN⟩, hB⟩ ⟨Bx, hBx, bX, rfl⟩ hlt
    have cW := bW.cell
    have cS := bS.cell
    have cR := bR.cell
    have fR := bR.frozen
    have cN := bN.cell
    have fN := bN.frozen
    dsimp only at bX
    obtain ⟨⟨t0, t1, t2, t3, t4, t5⟩, _⟩ := bX.six
    have hUW := (RdT.keep HU.out (Kept.of_below hB))
    have hsW := hB.size
    obtain ⟨k, hk⟩ : ∃ k, pre.length = k := ⟨_, rfl⟩
    rw [hk] at cN hlt bN
    have hpk : xs[k]? = some ⟨K, T, (v1, v2, v3), pl⟩ → pre ++ [⟨K, T, (v1, v2, v3), pl⟩] <+: xs := fun h => take_getW hpre (by rw [hk]; exact h)
    have hpl : (pre ++ [(⟨K, T, (v1, v2, v3), pl⟩ : TokD)]).length = k + 1 := by simp [hk]
    have hno : ∀ y, xs[k]? = some y → pre ++ [⟨K, T, (v1, v2, v3), pl⟩] <+: xs → y = ⟨K, T, (v1, v2, v3), pl⟩ := fun y hy hp => by
      obtain ⟨t, ht⟩ := hp
      have h1 : xs[k]? = some ⟨K, T, (v1, v2, v3), pl⟩ := by
        rw [← ht, List.append_assoc, List.getElem?_append_right (by omega), hk, Nat.sub_self]; rfl
      rw [hy] at h1
      exact Option.some.inj h1
    have HPK := Lib.hid hpk
    have HPL := Lib.hid hpl
    have HNO := Lib.hid hno
    have HUW := Lib.hid hUW
    clear hk hpk hpl hUW hno
    have BAD : Hid (∀ (q : Nat), (pre ++ [⟨K, T, (v1, v2, v3), pl⟩] <+: xs → False) → ownPostG W0.heap.size (KpT w.heap.size tb s)
        (fun pre W => (pre <+: xs ∧ Boxed W w.heap.size 22 (.slice A L c) ∧ Boxed W (w.heap.size + 1) 3 (.int .i64 stop) ∧ Boxed W (w.heap.size + 1 + 1) 4 (.bool false) ∧ Boxed W (w.heap.size + 1 + 1 + 1) 3 (.int .i64 pre.length)) ∧ Below w.heap.size w W)
        (StopT xs w) (pre ++ [⟨K, T, (v1, v2, v3), pl⟩]) W .ret { tmps := #[], defers := [] } ((W.drewN q).setCell ⟨w.heap.size + 1 + 1, 0, none⟩ (.bool false))) := fun q hno =>
      ⟨((KeepsOthers.drewN' W q).trans (KeepsOthers.setCell _ _ _)).from _, ⟨rfl, false, fun hp => (hno hp).elim, (show Boxed (W.drewN q) _ _ _ from bR).set _⟩, (show Below w.heap.size w (W.drewN q) from ⟨hB.os, hB.tape, hB.output, hB.size, hB.block⟩).setCell (p := ⟨w.heap.size + 1 + 1, 0, none⟩) (by simp; omega) _⟩
    dsimp only [tokV]
    by_cases hkL : L ≤ k
    · gi_wp2_with fail
      refine quiet_round (by kernel_rfl) (by kernel_rfl) (by kernel_rfl) ?_
      repeat (first | gi_big_quiet_skip | (gi_big_quiet_want; gi_big_quiet_op; go_big_quiet_on))
      refine wpQuietIn_nil ?_
      rintro _ ⟨nq, rfl⟩
      gi_wp2_with fail
      refine BAD.out _ (fun hp => ?_)
      have := hp.length_le
      rw [HPL.out, HL.out] at this
      omega
    · obtain ⟨⟨K', T', ⟨y1, y2, y3⟩, pl'⟩, hy⟩ : ∃ y, xs[k]? = some y := ⟨_, List.getElem?_eq_getElem (by rw [HL.out]; omega)⟩
      obtain ⟨A', c', he, _, hcell⟩ := HUW.out
      obtain ⟨bb, rfl, hcc⟩ := hcell (by rintro rfl; simp at hy)
      injection he with he1 he2 he3
      subst he1 he3
      have hc0 : W.cell? ⟨bb, k * 6, none⟩ = some (.int .i64 K') := hcc k _ hy 0 _ rfl
      have hc1 : W.cell? ⟨bb, k * 6 + 1, none⟩ = some (.string T') := hcc k _ hy 1 _ rfl
      have hc2 : W.cell? ⟨bb, k * 6 + 2, none⟩ = some (.int .i64 y1) := hcc k _ hy 2 _ rfl
      have hc3 : W.cell? ⟨bb, k * 6 + 3, none⟩ = some (.int .i64 y2) := hcc k _ hy 3 _ rfl
      have hc4 : W.cell? ⟨bb, k * 6 + 4, none⟩ = some (.string y3) := hcc k _ hy 4 _ rfl
      have hc5 : W.cell? ⟨bb, k * 6 + 5, none⟩ = some (.int .i64 pl') := hcc k _ hy 5 _ rfl
      have HNX := Lib.hid (HNO.out _ hy)
      have HPX : Hid ((⟨K', T', (y1, y2, y3), pl'⟩ : TokD) = ⟨K, T, (v1, v2, v3), pl⟩ → pre ++ [⟨K, T, (v1, v2, v3), pl⟩] <+: xs) := fun e => HPK.out (e ▸ hy)
      clear hcc hy hcell he2
      by_cases hx : K = K'
      case neg =>
        have hxb : (K == K') = false := by simpa using hx
        have HX := Lib.hid hx
        clear hx
        gi_wp2_with fail
        refine quiet_round (by kernel_rfl) (by kernel_rfl) (by kernel_rfl) ?_
        repeat (first | gi_big_quiet_skip | (gi_big_quiet_want; gi_big_quiet_op; go_big_quiet_on))
        refine wpQuietIn_nil ?_
        rintro _ ⟨nq, rfl⟩
        gi_wp2_with fail
        exact BAD.out _ (fun hp => HX.out (by have h := HNX.out hp; injection h with e1 e2 e3 e4; try (injection e3 with e5 e6; injection e6 with e7 e8); simp_all))
      subst hx
      by_cases hx : T = T'
      case neg =>
        have hxb := ba_ne hx
        have hxl := str_ne hx
        have hxm : (T.toList == T'.toList) = false := by simpa using hxl
        have HX := Lib.hid hx
        clear hx
        gi_wp2_with fail
        refine quiet_round (by kernel_rfl) (by kernel_rfl) (by kernel_rfl) ?_
        repeat (first | gi_big_quiet_skip | (gi_big_quiet_want; gi_big_quiet_op; go_big_quiet_on))
        refine wpQuietIn_nil ?_
        rintro _ ⟨nq, rfl⟩
        gi_wp2_with fail
        exact BAD.out _ (fun hp => HX.out (by have h := HNX.out hp; injection h with e1 e2 e3 e4; try (injection e3 with e5 e6; injection e6 with e7 e8); simp_all))
      subst hx
      by_cases hx : v1 = y1
      case neg =>
        have hxb : (v1 == y1) = false := by simpa using hx
        have HX := Lib.hid hx
        clear hx
        gi_wp2_with fail
        refine quiet_round (by kernel_rfl) (by kernel_rfl) (by kernel_rfl) ?_
        repeat (first | gi_big_quiet_skip | (gi_big_quiet_want; gi_big_quiet_op; go_big_quiet_on))
        refine wpQuietIn_nil ?_
        rintro _ ⟨nq, rfl⟩
        gi_wp2_with fail
        exact BAD.out _ (fun hp => HX.out (by have h := HNX.out hp; injection h with e1 e2 e3 e4; try (injection e3 with e5 e6; injection e6 with e7 e8); simp_all))
      subst hx
      by_cases hx : v2 = y2
      case neg =>
        have hxb : (v2 == y2) = false := by simpa using hx
        have HX := Lib.hid hx
        clear hx
        gi_wp2_with fail
        refine quiet_round (by kernel_rfl) (by kernel_rfl) (by kernel_rfl) ?_
        repeat (first | gi_big_quiet_skip | (gi_big_quiet_want; gi_big_quiet_op; go_big_quiet_on))
        refine wpQuietIn_nil ?_
        rintro _ ⟨nq, rfl⟩
        gi_wp2_with fail
        exact BAD.out _ (fun hp => HX.out (by have h := HNX.out hp; injection h with e1 e2 e3 e4; try (injection e3 with e5 e6; injection e6 with e7 e8); simp_all))
      subst hx
      by_cases hx : v3 = y3
      case neg =>
        have hxb := ba_ne hx
        have hxl := str_ne hx
        have hxm : (v3.toList == y3.toList) = false := by simpa using hxl
        have HX := Lib.hid hx
        clear hx
        gi_wp2_with fail
        refine quiet_round (by kernel_rfl) (by kernel_rfl) (by kernel_rfl) ?_
        repeat (first | gi_big_quiet_skip | (gi_big_quiet_want; gi_big_quiet_op; go_big_quiet_on))
        refine wpQuietIn_nil ?_
        rintro _ ⟨nq, rfl⟩
        gi_wp2_with fail
        exact BAD.out _ (fun hp => HX.out (by have h := HNX.out hp; injection h with e1 e2 e3 e4; try (injection e3 with e5 e6; injection e6 with e7 e8); simp_all))
      subst hx
      by_cases hx : pl = pl'
      case neg =>
        have hxb : (pl == pl') = false := by simpa using hx
        have HX := Lib.hid hx
        clear hx
        gi_wp2_with fail
        refine quiet_round (by kernel_rfl) (by kernel_rfl) (by kernel_rfl) ?_
        repeat (first | gi_big_quiet_skip | (gi_big_quiet_want; gi_big_quiet_op; go_big_quiet_on))
        refine wpQuietIn_nil ?_
        rintro _ ⟨nq, rfl⟩
        gi_wp2_with fail
        exact BAD.out _ (fun hp => HX.out (by have h := HNX.out hp; injection h with e1 e2 e3 e4; try (injection e3 with e5 e6; injection e6 with e7 e8); simp_all))
      subst hx
      have HPRE : Hid (pre ++ [⟨K, T, (v1, v2, v3), pl⟩] <+: xs) := HPX.out rfl
      gi_wp2_with fail
      refine quiet_round (by kernel_rfl) (by kernel_rfl) (by kernel_rfl) ?_
      repeat (first | gi_big_quiet_skip | (gi_big_quiet_want; gi_big_quiet_op; go_big_quiet_on))
      refine wpQuietIn_nil ?_
      rintro _ ⟨nq, rfl⟩
      have hwk : IntKind.i64.wrap ((k : Int) + 1) = (k : Int) + 1 := by unfold IntKind.wrap; simp [IntKind.signed, IntKind.bits]; omega
      have bN' : Boxed (W.drewN nq) (w.heap.size + 1 + 1 + 1) 3 (.int .i64 k) := bN
      have bS' : Boxed (W.drewN nq) (w.heap.size + 1) 3 (.int .i64 stop) := bS
      have bR' : Boxed (W.drewN nq) (w.heap.size + 1 + 1) 4 (.bool false) := bR
      have bW' : Boxed (W.drewN nq) w.heap.size 22 (.slice (some ⟨bb, 0, none⟩) L c) := bW
      have hB' : Below w.heap.size w (W.drewN nq) := ⟨hB.os, hB.tape, hB.output, hB.size, hB.block⟩
      have hN1 := bN'.set (.int .i64 ((k : Int) + 1))
      have hS1 := bS'.other (B' := w.heap.size + 1 + 1 + 1) (by omega) (.int .i64 ((k : Int) + 1))
      have hR1 := bR'.other (B' := w.heap.size + 1 + 1 + 1) (by omega) (.int .i64 ((k : Int) + 1))
      have hW1 := bW'.other (B' := w.heap.size + 1 + 1 + 1) (by omega) (.int .i64 ((k : Int) + 1))
      have hB1 := hB'.setCell (p := ⟨w.heap.size + 1 + 1 + 1, 0, none⟩) (by simp; omega) (.int .i64 ((k : Int) + 1))
      have hko := (KeepsOthers.drewN' W nq).trans (KeepsOthers.setCell (W.drewN nq) ⟨w.heap.size + 1 + 1 + 1, 0, none⟩ (.int .i64 ((k : Int) + 1)))
      have hbk : Below w.heap.size W ((W.drewN nq).setCell ⟨w.heap.size + 1 + 1 + 1, 0, none⟩ (.int .i64 ((k : Int) + 1))) := (show Below w.heap.size W (W.drewN nq) from ⟨rfl, rfl, rfl, Nat.le_refl _, fun _ _ => rfl⟩).setCell (p := ⟨w.heap.size + 1 + 1 + 1, 0, none⟩) (by simp; omega) _
      have hkc : KpT w.heap.size tb s W ((W.drewN nq).setCell ⟨w.heap.size + 1 + 1 + 1, 0, none⟩ (.int .i64 ((k : Int) + 1))) := ⟨hbk, fun h => (hbk.cell (p := ⟨tb, 0, none⟩) (World.block_lt_of_cell? w _ htb)).trans h⟩
      have cN1 := hN1.cell
      have cS1 := hS1.cell
      have cR1 := hR1.cell
      have fR1 := hR1.frozen
      cases hst : ((k : Int) + 1 == stop) with
      | true =>
        gi_wp2_with fail
        exact ⟨(hko.trans (KeepsOthers.setCell _ _ _)).from _, ⟨rfl, true, fun _ => rfl, hR1.set _⟩, hB1.setCell (p := ⟨w.heap.size + 1 + 1, 0, none⟩) (by simp; omega) _⟩
      | false =>
        gi_wp2_with fail
        refine ⟨hko.from _, hkc, ⟨HPRE.out, hW1, hS1, hR1, ?_⟩, hB1⟩
        rw [HPL.out]
        exact hN1
  case done =>
    rintro D ys W hD hys ⟨⟨_, bW, bS, bR, bN⟩, hB⟩ hK
    have cW := bW.cell
    have cN := bN.cell
    have cR := bR.cell
    have fR := bR.frozen
    rw [hys, hxs, HL.out] at cN
    gi_wp2_with fail
    have hK' := (KeepsOthers.setCell W ⟨w.heap.size + 1 + 1, 0, none⟩ (.bool true)).same D _ hK rfl
    refine ⟨by simp, .inl ⟨_, _, rfl, run_takeDeferred hK', ?_⟩⟩
    have hc5 := cell_kept (bR.set (.bool true)).cell (grownBy_putObj' _ D (.deferred none)) (fun r e => by cases e; exact ⟨_, hK', rfl⟩)
    refine ⟨.bool true, ?_, rfl, Kept.of_below ((hB.setCell (p := ⟨w.heap.size + 1 + 1, 0, none⟩) (by simp; omega) _).trans (belowK_b (w := w) (Nat.le_refl _) _ D _ _ (by omega) hK' rfl rfl))⟩
    simp [results, Tryd.f13, go_sem, hc5]
  case stop =>
    rintro D cc pre W hD hpre ⟨⟨rfl, B, hbt, bR⟩, hB⟩ hK
    obtain rfl := hbt (hxs ▸ hpre)
    gi_wp2_with fail
    refine ⟨by simp, .inl ⟨_, _, rfl, run_takeDeferred hK, ?_⟩⟩
    have hc5 := cell_kept bR.cell (grownBy_putObj' _ D (.deferred none)) (fun r e => by cases e; exact ⟨_, hK, rfl⟩)
    refine ⟨.bool true, ?_, rfl, Kept.of_below (hB.trans (belowK_b (w := w) (Nat.le_refl _) W D _ _ (by omega) hK rfl rfl))⟩
    simp [results, Tryd.f13, go_sem, hc5]

end Go.Proofs.YtmkpbffjgpoplaaDoor
