/- Kids; tells of numbers. -/
import Derived.Test.YtikpnlmimhnmmaaT15
set_option linter.unusedVariables false
set_option linter.unusedSimpArgs false
set_option linter.unnecessarySimpa false
namespace Go.Proofs.Ytikpnlmimhnmmaa
open Go.RowKit Go.Shelf Tr
attribute [local go_sem] Oper.semAt_some

def ItPost (w : World) (xs : List Int) (e : Ending) (w' : World) : Prop := ∃ v, e = .returned v ∧ ItI w' w'.heap.size v xs ∧ Kept [] w w'

set_option maxHeartbeats 2000000 in
theorem kids_any (b : Nat) (P : List Int) (i : Int) (w : World) (h : TreeAt w b P) :
    Calls Try.prog 34 #[.pointer (some ⟨b, 0, none⟩), .int .i64 i] w (ItPost w (sel (kidB P i) P.length)) := by
  have h16 := h.1
  have k1 : Kept [] w ((w.alloc (.cells #[.pointer (some ⟨b, 0, none⟩)] 23)).alloc (.cells #[.int .i64 i] 3)) := ((Kept.refl [] w).alloc _).alloc _
  have c1 : ((w.alloc (.cells #[.pointer (some ⟨b, 0, none⟩)] 23)).alloc (.cells #[.int .i64 i] 3)).cell? ⟨w.heap.size, 0, none⟩ = some (.pointer (some ⟨b, 0, none⟩)) := ((Blk.new w _ _).alloc _).cell 0
  have c2 : ((w.alloc (.cells #[.pointer (some ⟨b, 0, none⟩)] 23)).alloc (.cells #[.int .i64 i] 3)).cell? ⟨w.heap.size + 1, 0, none⟩ = some (.int .i64 i) := by
    have := (Blk.new (w.alloc (.cells #[.pointer (some ⟨b, 0, none⟩)] 23)) #[.int .i64 i] 3).cell 0
    simpa using this
  obtain ⟨w1, hw1⟩ : ∃ w1, (w.alloc (.cells #[.pointer (some ⟨b, 0, none⟩)] 23)).alloc (.cells #[.int .i64 i] 3) = w1 := ⟨_, rfl⟩
  have hs1 : w1.heap.size = w.heap.size + 2 := by rw [← hw1]; simp
  rw [hw1] at k1 c1 c2
  have IT := it_such (some ⟨b, 0, none⟩) 54 P.length #[.pointer (some ⟨w.heap.size, 0, none⟩), .pointer (some ⟨w.heap.size + 1, 0, none⟩)] (kidB P i) w1 (enters_of Try.func54 (by kernel_rfl) rfl)
    (fun W hW => len_some b P.length _ W ((RawAt.keep h k1).keep hW)) h16 (fun W k hW hk => kids1_any b w.heap.size (w.heap.size + 1) P i k W ((RawAt.keep h k1).keep hW) hk (hW.cell (by simp) c1) (hW.cell (by simp) c2)) _ rfl _ (Kept.refl _ _)
  rw [hs1] at IT
  have HW1 := Lib.hid hw1
  have HIT := Lib.hid IT
  have HS1 := Lib.hid hs1
  clear hw1 IT hs1 c1 c2
  go_enter Try.func34, Try.ntmps34
  go_wp2_with fail
  refine (such_any _ _ _ ⟨_, rfl⟩ ⟨_, _, rfl⟩).mono ?_
  rintro e w2 ⟨rfl, rfl⟩
  rw [HW1.out, HS1.out]
  go_wp2_with fail
  go_ret
  exact ⟨_, rfl, HIT.out, (k1.alloc _).alloc _⟩

theorem take_get {xs pre : List Int} {x : Int} (h : pre <+: xs) (hx : xs[pre.length]? = some x) : pre ++ [x] <+: xs := by
  obtain ⟨t, rfl⟩ := h
  rw [List.getElem?_append_right (Nat.le_refl _), Nat.sub_self] at hx
  cases t with
  | nil => simp at hx
  | cons y t =>
    simp at hx
    subst hx
    exact ⟨t, by simp⟩

set_option maxRecDepth 100000 in
set_option maxHeartbeats 8000000 in
/-- What is told of is told: whatever the count of those that are asked for. -/
theorem tells_any (n₀ : Nat) (v u : Value) (xs : List Int) (stop : Int) (w : World) (hx16 : xs.length ≤ 16) (hit : ItI w n₀ v xs) (hu : RdI w .i64 u xs) :
    Calls Try.prog 33 #[v, u, .int .i64 stop] w fun e w' => e = .returned (.bool true) ∧ Kept [] w w' := by
  obtain ⟨g, lb, rfl, hn0, eg, hseq⟩ := hit
  have HU := Lib.hid hu
  obtain ⟨A, c, rfl, hmx, hu⟩ := hu
  obtain ⟨L, hL⟩ : ∃ L, xs.length = L := ⟨_, rfl⟩
  rw [hL] at hx16 HU ⊢
  have HL := Lib.hid hL
  clear hL hmx hu
  refine (callsIn_wide (n := 9)).1 ?_
  refine callsIn_of_wp_marks Try.func33 rfl trivial ?_ rfl
  simp only [Try.ntmps33, List.size_toArray, List.length_cons, List.length_nil, Nat.reduceAdd, Nat.reduceSub, Array.replicate_succ, Array.replicate_zero, List.push_toArray, List.append_toArray, List.nil_append, List.cons_append]
  gi_wp2_with fail
  have b0 := (((Boxed.new w 22 (.slice A L c)).alloc (.cells #[.int .i64 stop] 3)).alloc (.cells #[.bool false] 4)).alloc (.cells #[.int .i64 0] 3)
  have b1 := ((Boxed.new (w.alloc (.cells #[.slice A L c] 22)) 3 (.int .i64 stop)).alloc (.cells #[.bool false] 4)).alloc (.cells #[.int .i64 0] 3)
  have b2 := (Boxed.new ((w.alloc (.cells #[.slice A L c] 22)).alloc (.cells #[.int .i64 stop] 3)) 4 (.bool false)).alloc (.cells #[.int .i64 0] 3)
  have b3 := Boxed.new (((w.alloc (.cells #[.slice A L c] 22)).alloc (.cells #[.int .i64 stop] 3)).alloc (.cells #[.bool false] 4)) 3 (.int .i64 0)
  have hB0 : Below w.heap.size w ((((w.alloc (.cells #[.slice A L c] 22)).alloc (.cells #[.int .i64 stop] 3)).alloc (.cells #[.bool false] 4)).alloc (.cells #[.int .i64 0] 3)) := ((((Kept.refl [] w).alloc _).alloc _).alloc _).alloc _ |>.below
  simp only [World.size_alloc] at b1 b2 b3
  have hsz : ((((w.alloc (.cells #[.slice A L c] 22)).alloc (.cells #[.int .i64 stop] 3)).alloc (.cells #[.bool false] 4)).alloc (.cells #[.int .i64 0] 3)).heap.size = w.heap.size + 4 := by simp
  obtain ⟨W0, hW0⟩ : ∃ W0, (((w.alloc (.cells #[.slice A L c] 22)).alloc (.cells #[.int .i64 stop] 3)).alloc (.cells #[.bool false] 4)).alloc (.cells #[.int .i64 0] 3) = W0 := ⟨_, rfl⟩
  rw [hW0] at b0 b1 b2 b3 hB0 hsz ⊢
  clear hW0
  have ok : ∀ {A B : World} {row : Option Nat} {b : Nat} {t : TypeId} {v : Value}, Boxed A b t v → A.grownBy B row → (∀ r, row = some r → ∃ o : Obj, A.heap[r]? = some o ∧ o.isCells = false) → Boxed B b t v :=
    fun {A B row b t v} h hg hr => h.kept hg (fun e' => by obtain ⟨o, ho, hc⟩ := hr b e'.symm; rw [show A.heap[b]? = _ from h] at ho; cases ho; cases hc)
  refine wpIn_rangeFunc_ownG rfl (by omega) (gf := g) (lb := lb) rfl trivial eg (hseq 8 (by omega)) belowK_t (belowK_b (by omega)) hB0 (fun _ => rfl)
    (fun pre W => (pre <+: xs ∧ Boxed W w.heap.size 22 (.slice A L c) ∧ Boxed W (w.heap.size + 1) 3 (.int .i64 stop) ∧ Boxed W (w.heap.size + 1 + 1) 4 (.bool false) ∧ Boxed W (w.heap.size + 1 + 1 + 1) 3 (.int .i64 pre.length)) ∧ Below w.heap.size w W)
    (fun cc pre W => (cc = .ret ∧ ∃ B, (pre <+: xs → B = true) ∧ Boxed W (w.heap.size + 1 + 1) 4 (.bool B)) ∧ Below w.heap.size w W)
    (OwnFrom.and (Own.from (fun s A B row hs hg hr => ⟨hs.1, ok hs.2.1 hg hr, ok hs.2.2.1 hg hr, ok hs.2.2.2.1 hg hr, ok hs.2.2.2.2 hg hr⟩) _) (ownFrom_below (Nat.le_refl _) (by omega)))
    (fun cc => OwnFrom.and (Own.from (fun s A B row hs hg hr => ⟨hs.1, hs.2.choose, hs.2.choose_spec.1, ok hs.2.choose_spec.2 hg hr⟩) _) (ownFrom_below (Nat.le_refl _) (by omega)))
    ⟨⟨List.nil_prefix, b0, b1, b2, b3⟩, hB0⟩
    (fun x => { tmps := #[.func (.func g) #[] lb, .slice A L c, .int .i64 stop, undef, .pointer (some ⟨w.heap.size, 0, none⟩), .pointer (some ⟨w.heap.size + 1, 0, none⟩), .pointer (some ⟨w.heap.size + 1 + 1, 0, none⟩), .pointer (some ⟨w.heap.size + 1 + 1 + 1, 0, none⟩), .int .i64 x, .func (.func g) #[] lb, .int .i64 x, undef, undef, undef, undef, undef, undef, undef, undef, undef, undef, undef, undef, undef, undef, undef, undef, undef, undef, undef, undef, undef], defers := [] }) ?assign ?body ?done ?stop
  case assign =>
    intro l x W K hK
    gi_wp2
    exact hK
  case body =>
    rintro l pre x W ⟨⟨hpre, bW, bS, bR, bN⟩, hB⟩ hlt
    have cW := bW.cell
    have cS := bS.cell
    have cR := bR.cell
    have fR := bR.frozen
    have cN := bN.cell
    have fN := bN.frozen
    have hUW := (RdI.keep HU.out (Kept.of_below hB))
    have hsW := hB.size
    obtain ⟨k, hk⟩ : ∃ k, pre.length = k := ⟨_, rfl⟩
    rw [hk] at cN hlt bN
    have hpk : xs[k]? = some x → pre ++ [x] <+: xs := fun h => take_get hpre (by rw [hk]; exact h)
    have hpl : (pre ++ [x]).length = k + 1 := by simp [hk]
    have HPK := Lib.hid hpk
    have HPL := Lib.hid hpl
    have HUW := Lib.hid hUW
    clear hk hpk hpl hUW
    by_cases hkL : L ≤ k
    · gi_wp2_with fail
      refine ⟨(KeepsOthers.setCell _ _ _).from _, ⟨rfl, false, fun hp => ?_, bR.set _⟩, hB.setCell (p := ⟨w.heap.size + 1 + 1, 0, none⟩) (by simp; omega) _⟩
      have := hp.length_le
      rw [HPL.out, HL.out] at this
      omega
    · obtain ⟨y, hy⟩ : ∃ y, xs[k]? = some y := ⟨_, List.getElem?_eq_getElem (by rw [HL.out]; omega)⟩
      obtain ⟨A', c', he, _, hcell⟩ := HUW.out
      obtain ⟨bb, off, rfl, hcc⟩ := hcell (by rintro rfl; simp at hy)
      injection he with he1 he2 he3
      subst he1 he3
      have hck := hcc k y hy
      have HCC := Lib.hid hcc
      have HY := Lib.hid hy
      clear hcc hy hcell he2
      cases hxy : (x == y) with
      | false =>
        have hxy2 : (x != y) = true := by simp [bne, hxy]
        have HXY := Lib.hid hxy
        gi_wp2_with fail
        refine ⟨(KeepsOthers.setCell _ _ _).from _, ⟨rfl, false, fun hp => ?_, bR.set _⟩, hB.setCell (p := ⟨w.heap.size + 1 + 1, 0, none⟩) (by simp; omega) _⟩
        obtain ⟨t, ht⟩ := hp
        have h1 : xs[k]? = some x := by
          rw [← ht]
          have : k < (pre ++ [x]).length := by rw [HPL.out]; omega
          rw [List.getElem?_append_left this, List.getElem?_append_right (by have := HPL.out; simp at this; omega)]
          have e : k - pre.length = 0 := by have := HPL.out; simp at this; omega
          rw [e]; rfl
        rw [HY.out] at h1
        have := Option.some.inj h1
        have h2 := HXY.out
        rw [this] at h2
        simp at h2
      | true =>
        have hxy2 : (x != y) = false := by simp [bne, hxy]
        have hxe : x = y := by simpa using hxy
        have HPRE : Hid (pre ++ [x] <+: xs) := HPK.out (by rw [hxe]; exact HY.out)
        have HXE := Lib.hid hxe
        clear hxe
        have hwk : IntKind.i64.wrap ((k : Int) + 1) = (k : Int) + 1 := by unfold IntKind.wrap; simp [IntKind.signed, IntKind.bits]; omega
        have hN1 := bN.set (.int .i64 ((k : Int) + 1))
        have hS1 := bS.other (B' := w.heap.size + 1 + 1 + 1) (by omega) (.int .i64 ((k : Int) + 1))
        have hR1 := bR.other (B' := w.heap.size + 1 + 1 + 1) (by omega) (.int .i64 ((k : Int) + 1))
        have hW1 := bW.other (B' := w.heap.size + 1 + 1 + 1) (by omega) (.int .i64 ((k : Int) + 1))
        have hB1 := hB.setCell (p := ⟨w.heap.size + 1 + 1 + 1, 0, none⟩) (by simp; omega) (.int .i64 ((k : Int) + 1))
        have hko := KeepsOthers.setCell W ⟨w.heap.size + 1 + 1 + 1, 0, none⟩ (.int .i64 ((k : Int) + 1))
        have cN1 := hN1.cell
        have cS1 := hS1.cell
        have cR1 := hR1.cell
        have fR1 := hR1.frozen
        cases hst : ((k : Int) + 1 == stop) with
        | true =>
          gi_wp2_with fail
          exact ⟨(hko.trans (KeepsOthers.setCell _ _ _)).from _, ⟨rfl, true, fun _ => rfl, hR1.set _⟩, hB1.setCell (p := ⟨w.heap.size + 1 + 1, 0, none⟩) (by simp; omega) _⟩
        | false =>
          gi_wp2_with fail
          refine ⟨hko.from _, (Below.refl n₀ W).setCell (p := ⟨w.heap.size + 1 + 1 + 1, 0, none⟩) (by simp; omega) _, ⟨HPRE.out, hW1, hS1, hR1, ?_⟩, hB1⟩
          rw [HPL.out]
          exact hN1
  case done =>
    rintro D ys W hD rfl ⟨⟨_, bW, bS, bR, bN⟩, hB⟩ hK
    have cW := bW.cell
    have cN := bN.cell
    have cR := bR.cell
    have fR := bR.frozen
    rw [HL.out] at cN
    gi_wp2_with fail
    have hK' := (KeepsOthers.setCell W ⟨w.heap.size + 1 + 1, 0, none⟩ (.bool true)).same D _ hK rfl
    refine ⟨by simp, .inl ⟨_, _, rfl, run_takeDeferred hK', ?_⟩⟩
    have hc5 := cell_kept (bR.set (.bool true)).cell (grownBy_putObj' _ D (.deferred none)) (fun r e => by cases e; exact ⟨_, hK', rfl⟩)
    refine ⟨.bool true, ?_, rfl, Kept.of_below ((hB.setCell (p := ⟨w.heap.size + 1 + 1, 0, none⟩) (by simp; omega) _).trans (belowK_b (w := w) (Nat.le_refl _) _ D _ _ (by omega) hK' rfl rfl))⟩
    simp [results, Try.f33, go_sem, hc5]
  case stop =>
    rintro D cc pre W hD hpre ⟨⟨rfl, B, hbt, bR⟩, hB⟩ hK
    obtain rfl := hbt hpre
    gi_wp2_with fail
    refine ⟨by simp, .inl ⟨_, _, rfl, run_takeDeferred hK, ?_⟩⟩
    have hc5 := cell_kept bR.cell (grownBy_putObj' _ D (.deferred none)) (fun r e => by cases e; exact ⟨_, hK, rfl⟩)
    refine ⟨.bool true, ?_, rfl, Kept.of_below (hB.trans (belowK_b (w := w) (Nat.le_refl _) W D _ _ (by omega) hK rfl rfl))⟩
    simp [results, Try.f33, go_sem, hc5]

end Go.Proofs.Ytikpnlmimhnmmaa
