/- told: what is told of is told. -/
import Derived.Test.YtdboipjbpkhacaaS7
import Derived.Laws.Strings
import Derived.WideShapes
set_option linter.unusedVariables false
set_option linter.unusedSimpArgs false
set_option linter.unnecessarySimpa false
namespace Go.Proofs.Ytdboipjbpkhacaa
open Go.RowKit Go.Shelf
attribute [local go_sem] Oper.semAt_some

/-- v reads as the texts xs. -/
def RdS (w : World) (v : Value) (xs : List ByteArray) : Prop :=
  ∃ A c, v = .slice A xs.length c ∧ xs.length ≤ 16384 ∧ (xs ≠ [] → ∃ b off, A = some ⟨b, off, none⟩ ∧ ∀ i x, xs[i]? = some x → w.cell? ⟨b, off + i, none⟩ = some (.string x))
theorem RdS.keep {w w' : World} {v : Value} {xs : List ByteArray} (h : RdS w v xs) (hk : Kept [] w w') : RdS w' v xs := by
  obtain ⟨A, c, rfl, hm, h⟩ := h
  refine ⟨A, c, rfl, hm, fun hn => ?_⟩
  obtain ⟨b, off, rfl, hc⟩ := h hn
  exact ⟨b, off, rfl, fun i x hx => hk.cell (by simp) (hc i x hx)⟩
theorem RdS.nil (w : World) : RdS w (.slice none 0 0) [] := ⟨none, 0, rfl, by simp, fun h => absurd rfl h⟩

theorem take_get {α : Type} {xs pre : List α} {x : α} (h : pre <+: xs) (hx : xs[pre.length]? = some x) : pre ++ [x] <+: xs := by
  obtain ⟨t, rfl⟩ := h
  rw [List.getElem?_append_right (Nat.le_refl _), Nat.sub_self] at hx
  cases t with
  | nil => simp at hx
  | cons y t =>
    simp at hx
    subst hx
    exact ⟨t, by simp⟩
theorem pre_get {α : Type} {xs pre : List α} {x : α} {k : Nat} (hk : pre.length = k) (h : pre ++ [x] <+: xs) : xs[k]? = some x := by
  obtain ⟨t, rfl⟩ := h
  subst hk
  rw [List.getElem?_append_left (by simp), List.getElem?_append_right (Nat.le_refl _)]
  simp

theorem str_ne {x y : ByteArray} (h : x ≠ y) : (!x.toList == y.toList) = true := by
  have : x.toList ≠ y.toList := fun e => h (by rw [ByteArray.toList_eq, ByteArray.toList_eq] at e; exact WideShapes.bytes_inj e)
  simpa using this

def StopA {α : Type} (xs : List α) (w : World) (cc : Code) (pre : List α) (W : World) : Prop :=
  (cc = .ret ∧ ∃ B, (pre <+: xs → B = true) ∧ Boxed W (w.heap.size + 1 + 1) 4 (.bool B)) ∧ Below w.heap.size w W

set_option maxRecDepth 100000 in
set_option maxHeartbeats 8000000 in
theorem told_any (v u : Value) (xs : List ByteArray) (stop : Int) (w : World) (hit : ItS w v xs) (hu : RdS w u xs) :
    Calls Try.prog 20 #[v, u, .int .i64 stop] w fun e w' => e = .returned (.bool true) ∧ Kept [] w w' := by
  obtain ⟨g, lb, rfl, eg, hseq⟩ := hit
  have HU := Lib.hid hu
  obtain ⟨A, c, rfl, hmx, hu⟩ := hu
  obtain ⟨L, hL⟩ : ∃ L, xs.length = L := ⟨_, rfl⟩
  rw [hL] at hmx HU ⊢
  have HL := Lib.hid hL
  clear hL hu
  refine (callsIn_wide (n := 9)).1 ?_
  refine callsIn_of_wp_marks Try.func20 rfl trivial ?_ rfl
  simp only [Try.ntmps20, List.size_toArray, List.length_cons, List.length_nil, Nat.reduceAdd, Nat.reduceSub, Array.replicate_succ, Array.replicate_zero, List.push_toArray, List.append_toArray, List.nil_append, List.cons_append]
  gi_wp2_with fail
  have b0 := (((Boxed.new w 73 (.slice A L c)).alloc (.cells #[.int .i64 stop] 3)).alloc (.cells #[.bool false] 4)).alloc (.cells #[.int .i64 0] 3)
  have b1 := ((Boxed.new (w.alloc (.cells #[.slice A L c] 73)) 3 (.int .i64 stop)).alloc (.cells #[.bool false] 4)).alloc (.cells #[.int .i64 0] 3)
  have b2 := (Boxed.new ((w.alloc (.cells #[.slice A L c] 73)).alloc (.cells #[.int .i64 stop] 3)) 4 (.bool false)).alloc (.cells #[.int .i64 0] 3)
  have b3 := Boxed.new (((w.alloc (.cells #[.slice A L c] 73)).alloc (.cells #[.int .i64 stop] 3)).alloc (.cells #[.bool false] 4)) 3 (.int .i64 0)
  have hK0 : Kept [] w ((((w.alloc (.cells #[.slice A L c] 73)).alloc (.cells #[.int .i64 stop] 3)).alloc (.cells #[.bool false] 4)).alloc (.cells #[.int .i64 0] 3)) := ((((Kept.refl [] w).alloc _).alloc _).alloc _).alloc _
  simp only [World.size_alloc] at b1 b2 b3
  have hsz : ((((w.alloc (.cells #[.slice A L c] 73)).alloc (.cells #[.int .i64 stop] 3)).alloc (.cells #[.bool false] 4)).alloc (.cells #[.int .i64 0] 3)).heap.size = w.heap.size + 4 := by simp
  obtain ⟨W0, hW0⟩ : ∃ W0, (((w.alloc (.cells #[.slice A L c] 73)).alloc (.cells #[.int .i64 stop] 3)).alloc (.cells #[.bool false] 4)).alloc (.cells #[.int .i64 0] 3) = W0 := ⟨_, rfl⟩
  rw [hW0] at b0 b1 b2 b3 hK0 hsz ⊢
  clear hW0
  have ok : ∀ {A B : World} {row : Option Nat} {b : Nat} {t : TypeId} {v : Value}, Boxed A b t v → A.grownBy B row → (∀ r, row = some r → ∃ o : Obj, A.heap[r]? = some o ∧ o.isCells = false) → Boxed B b t v :=
    fun {A B row b t v} h hg hr => h.kept hg (fun e' => by obtain ⟨o, ho, hc⟩ := hr b e'.symm; rw [show A.heap[b]? = _ from h] at ho; cases ho; cases hc)
  refine wpIn_rangeFunc_O (by omega) (gf := g) (lb := lb) rfl eg (hseq W0 [w.heap.size + 1 + 1, w.heap.size + 1 + 1 + 1] hK0 (by intro x hx; simp at hx; omega) 8 (by omega)) KeptC.trans (fun W l o o' _ h hc _ => KeptC.putObj h hc) (Below.refl _ _) (fun _ => rfl)
    (fun pre W => (pre <+: xs ∧ Boxed W w.heap.size 73 (.slice A L c) ∧ Boxed W (w.heap.size + 1) 3 (.int .i64 stop) ∧ Boxed W (w.heap.size + 1 + 1) 4 (.bool false) ∧ Boxed W (w.heap.size + 1 + 1 + 1) 3 (.int .i64 pre.length)) ∧ Below w.heap.size w W)
    (StopA xs w)
    (OwnFrom.and (Own.from (fun s A B row hs hg hr => ⟨hs.1, ok hs.2.1 hg hr, ok hs.2.2.1 hg hr, ok hs.2.2.2.1 hg hr, ok hs.2.2.2.2 hg hr⟩) _) (ownFrom_below (Nat.le_refl _) (by omega)))
    (fun cc => OwnFrom.and (Own.from (fun s A B row hs hg hr => ⟨hs.1, hs.2.choose, hs.2.choose_spec.1, ok hs.2.choose_spec.2 hg hr⟩) _) (ownFrom_below (Nat.le_refl _) (by omega)))
    ⟨⟨List.nil_prefix, b0, b1, b2, b3⟩, hK0.below⟩
    (fun x a' W => a' = { tmps := #[.func (.func g) #[] lb, .slice A L c, .int .i64 stop, undef, .pointer (some ⟨w.heap.size, 0, none⟩), .pointer (some ⟨w.heap.size + 1, 0, none⟩), .pointer (some ⟨w.heap.size + 1 + 1, 0, none⟩), .pointer (some ⟨w.heap.size + 1 + 1 + 1, 0, none⟩), .string x, .func (.func g) #[] lb, .string x, undef, undef, undef, undef, undef, undef, undef, undef, undef, undef, undef, undef, undef, undef, undef, undef, undef, undef, undef, undef, undef], defers := [] })
    (fun x a' _ X Y row hs hg hr => hs) ?assign ?body ?done ?stop
  case assign =>
    rintro l pre x W K ⟨⟨hp, c0, c1, c2, c3⟩, hB1⟩ hK
    dsimp only [encS]
    gi_wp2
    exact hK _ _ (KeepsFrom.refl _ _) (KeptC.refl _ _) ⟨⟨hp, c0, c1, c2, c3⟩, hB1⟩ rfl
  case body =>
    rintro l pre x a' W hl ⟨rr, hrr⟩ ⟨⟨hpre, bW, bS, bR, bN⟩, hB⟩ rfl hlt
    have cW := bW.cell
    have cS := bS.cell
    have cR := bR.cell
    have fR := bR.frozen
    have cN := bN.cell
    have fN := bN.frozen
    have hUW := (RdS.keep HU.out (Kept.of_below hB))
    have hsW := hB.size
    obtain ⟨k, hk⟩ : ∃ k, pre.length = k := ⟨_, rfl⟩
    rw [hk] at cN hlt bN
    have HPK : Hid (xs[k]? = some x → pre ++ [x] <+: xs) := fun h => take_get hpre (by rw [hk]; exact h)
    have HPG : Hid (pre ++ [x] <+: xs → xs[k]? = some x) := fun h => pre_get hk h
    have HPL : Hid ((pre ++ [x]).length = k + 1) := by show _ = _; simp [hk]
    have HUW := Lib.hid hUW
    clear hk hUW
    by_cases hkL : L ≤ k
    · gi_wp2_with fail
      refine ⟨(KeepsOthers.setCell _ _ _).from _, ⟨rfl, false, fun hp => ?_, bR.set _⟩, hB.setCell (p := ⟨w.heap.size + 1 + 1, 0, none⟩) (by simp; omega) _⟩
      have := hp.length_le
      rw [HPL.out, HL.out] at this
      omega
    · obtain ⟨y, hy⟩ : ∃ y, xs[k]? = some y := ⟨_, List.getElem?_eq_getElem (by rw [HL.out]; omega)⟩
      obtain ⟨A', c', he, _, hcell⟩ := HUW.out
      obtain ⟨bb, off, rfl, hcc⟩ := hcell (by rintro rfl; simp at hy)
      injection he with he1 he2 he3
      subst he1 he3
      have hck := hcc k _ hy
      have HY := Lib.hid hy
      clear hcc hy hcell he2
      by_cases hxy : x = y
      · subst hxy
        have HPRE : Hid (pre ++ [x] <+: xs) := HPK.out HY.out
        have hwk : IntKind.i64.wrap ((k : Int) + 1) = (k : Int) + 1 := by unfold IntKind.wrap; simp [IntKind.signed, IntKind.bits]; omega
        have hN1 := bN.set (.int .i64 ((k : Int) + 1))
        have hS1 := bS.other (B' := w.heap.size + 1 + 1 + 1) (by omega) (.int .i64 ((k : Int) + 1))
        have hR1 := bR.other (B' := w.heap.size + 1 + 1 + 1) (by omega) (.int .i64 ((k : Int) + 1))
        have hW1 := bW.other (B' := w.heap.size + 1 + 1 + 1) (by omega) (.int .i64 ((k : Int) + 1))
        have hB1 := hB.setCell (p := ⟨w.heap.size + 1 + 1 + 1, 0, none⟩) (by simp; omega) (.int .i64 ((k : Int) + 1))
        have hko := KeepsOthers.setCell W ⟨w.heap.size + 1 + 1 + 1, 0, none⟩ (.int .i64 ((k : Int) + 1))
        have hkc : KeptC [w.heap.size + 1 + 1, w.heap.size + 1 + 1 + 1] W (W.setCell ⟨w.heap.size + 1 + 1 + 1, 0, none⟩ (.int .i64 ((k : Int) + 1))) := KeptC.of ((Kept.refl _ W).setCell (.inl (by simp)) _)
        have cN1 := hN1.cell
        have cS1 := hS1.cell
        have cR1 := hR1.cell
        have fR1 := hR1.frozen
        cases hst : ((k : Int) + 1 == stop) with
        | true =>
          gi_wp2_with fail
          exact ⟨(hko.trans (KeepsOthers.setCell _ _ _)).from _, ⟨rfl, true, fun _ => rfl, hR1.set _⟩, hB1.setCell (p := ⟨w.heap.size + 1 + 1, 0, none⟩) (by simp; omega) _⟩
        | false =>
          gi_wp2_with fail
          refine ⟨hko.from _, hkc, ⟨HPRE.out, hW1, hS1, hR1, ?_⟩, hB1⟩
          rw [HPL.out]
          exact hN1
      · have hne := str_ne hxy
        gi_wp2_with fail
        refine ⟨(KeepsOthers.setCell _ _ _).from _, ⟨rfl, false, fun hp => ?_, bR.set _⟩, hB.setCell (p := ⟨w.heap.size + 1 + 1, 0, none⟩) (by simp; omega) _⟩
        have h1 := HPG.out hp
        rw [HY.out] at h1
        exact absurd (Option.some.inj h1).symm hxy
  case done =>
    rintro D ys W hD rfl ⟨⟨_, bW, bS, bR, bN⟩, hB⟩ hK
    have cW := bW.cell
    have cN := bN.cell
    have cR := bR.cell
    have fR := bR.frozen
    rw [HL.out] at cN
    gi_wp2_with fail
    have hK' := (KeepsOthers.setCell W ⟨w.heap.size + 1 + 1, 0, none⟩ (.bool true)).same D _ hK rfl
    refine ⟨by simp, .inl ⟨_, _, rfl, run_takeDeferred hK', ?_⟩⟩
    have hc5 := cell_kept (bR.set (.bool true)).cell (grownBy_putObj' _ D (.deferred none)) (fun r e => by cases e; exact ⟨_, hK', rfl⟩)
    refine ⟨.bool true, ?_, rfl, Kept.of_below ((hB.setCell (p := ⟨w.heap.size + 1 + 1, 0, none⟩) (by simp; omega) _).trans (belowK_b (w := w) (Nat.le_refl _) _ D _ _ (by omega) hK' rfl rfl))⟩
    simp [results, Try.f20, go_sem, hc5]
  case stop =>
    rintro D cc pre W hD hpre ⟨⟨rfl, B, hbt, bR⟩, hB⟩ hK
    obtain rfl := hbt hpre
    gi_wp2_with fail
    refine ⟨by simp, .inl ⟨_, _, rfl, run_takeDeferred hK, ?_⟩⟩
    have hc5 := cell_kept bR.cell (grownBy_putObj' _ D (.deferred none)) (fun r e => by cases e; exact ⟨_, hK, rfl⟩)
    refine ⟨.bool true, ?_, rfl, Kept.of_below (hB.trans (belowK_b (w := w) (Nat.le_refl _) W D _ _ (by omega) hK rfl rfl))⟩
    simp [results, Try.f20, go_sem, hc5]

end Go.Proofs.Ytdboipjbpkhacaa
