/- Ways as an iterator; tells of ways. -/
import Derived.Test.YtikpnlmimhnmmaaT21
import Derived.Sort.CutIn
set_option linter.unusedVariables false
set_option linter.unusedSimpArgs false
set_option linter.unnecessarySimpa false
namespace Go.Proofs.Ytikpnlmimhnmmaa
open Go.RowKit Go.Shelf Tr
attribute [local go_sem] Oper.semAt_some

/-- v is an iterator of ways that gives xs. -/
def ItW (w : World) (v : Value) (xs : List (Int × Int)) : Prop :=
  ∃ (g : Nat) (lb : Array Value), v = .func (.func g) #[] lb ∧ (∀ args w, (callFunc g args).run Try.prog w = .ok (.enter g args) w) ∧
    ∀ (w' : World) (S : List Nat), Kept [] w w' → (∀ x ∈ S, w.heap.size ≤ x ∧ x < w'.heap.size) → ∀ m, 1 ≤ m → SeqStopsK Fence.wide m Try.prog g lb encW (KeptC S) (fun ys => ys = xs) (fun pre => pre <+: xs) 256 w'
def WPost (w : World) (xs : List (Int × Int)) (e : Ending) (w' : World) : Prop := ∃ v, e = .returned v ∧ ItW w' v xs ∧ Kept [] w w'

theorem RawAt.keptC {S : List Nat} {w w' : World} {b n : Nat} {l : List Int} (h : RawAt w b n l) (k : KeptC S w w') (hs : b ∉ S) : RawAt w' b n l := ⟨h.1, h.2.1, h.2.2.keptC k hs⟩

theorem ways_gen (tp : Option Addr) (nn : Nat) (NL : Nat → List Int) (w : World) (Good : World → Prop) (hG1 : ∀ W W', Good W → Kept [] W W' → Good W') (hG2 : ∀ S W W', (∀ x ∈ S, w.heap.size ≤ x) → Good W → KeptC S W W' → Good W')
    (hlen : ∀ W, Good W → Calls Try.prog 13 #[.pointer tp] W fun e W' => e = .returned (.int .i64 nn) ∧ W = W') (hn16 : nn ≤ 16) (hNL : ∀ k, (NL k).length ≤ 16)
    (hnear : ∀ W (k : Nat), Good W → k < nn → Calls Try.prog 18 #[.pointer tp, .int .i64 k] W (RisePost W (NL k))) (hg : Good w) :
    Calls Try.prog 27 #[.pointer tp] w (WPost w (waysL NL nn)) := by
  have k1 := (Kept.refl [] w).alloc (.cells #[.pointer tp] 23)
  have IT : ItW (w.alloc (.cells #[.pointer tp] 23)) (.func (.func 52) #[] #[.pointer (some ⟨w.heap.size, 0, none⟩)]) (waysL NL nn) := by
    refine ⟨_, _, rfl, enters_of Try.func52 (by kernel_rfl) rfl, fun w' S hk hS m hm => ?_⟩
    have hS' : ∀ x ∈ S, w.heap.size + 1 ≤ x ∧ x < w'.heap.size := fun x hx => by have := hS x hx; simpa using this
    refine ways1_stops m hm w.heap.size nn tp NL S Good hG1 (fun W W' => hG2 S W W' (fun x hx => by have := (hS' x hx).1; omega)) hlen hn16 hNL hnear w' (hG1 _ _ (hG1 _ _ hg k1) hk) (hk.cell (by simp) ((Blk.new w _ _).cell 0)) (fun h => by have := (hS' _ h).1; omega) (fun x hx => (hS' x hx).2) (fun W hW => hG1 _ _ (hG1 _ _ (hG1 _ _ hg k1) hk) (Kept.of_below hW))
  have HIT := Lib.hid IT
  clear IT hG1 hG2 hlen hnear hNL
  go_enter Try.func27, Try.ntmps27
  go_wp2_with fail
  go_ret
  exact ⟨_, rfl, HIT.out, k1⟩

theorem ways_any (b : Nat) (P : List Int) (w : World) (h : TreeAt w b P) :
    Calls Try.prog 27 #[.pointer (some ⟨b, 0, none⟩)] w (WPost w (waysL (fun k => sel (nearB P k) P.length) P.length)) := by
  have hb := h.2.2.lt
  have h16 := h.1
  exact ways_gen (some ⟨b, 0, none⟩) P.length _ w (fun W => TreeAt W b P) (fun W W' h k => RawAt.keep h k) (fun S W W' hS h k => RawAt.keptC h k (fun hbs => by have := hS b hbs; omega))
    (fun W h => len_some b P.length _ W h) h16 (fun k => Nat.le_trans (sel_le _ _) h16) (fun W k h hk => near_any b P k W h) h
theorem dead_ways (tp : Option Addr) (w : World) (h : Dead w tp) : Calls Try.prog 27 #[.pointer tp] w (WPost w []) := by
  rcases h with rfl | ⟨b, l, rfl, hr⟩
  · exact ways_gen none 0 (fun _ => []) w (fun W => Dead W none) (fun W W' h k => Dead.keep h k) (fun S W W' hS h k => .inl rfl) (fun W h => dead_len none W h) (by omega) (by simp) (fun W k h hk => absurd hk (by omega)) (.inl rfl)
  · have hb := hr.2.2.lt
    exact ways_gen (some ⟨b, 0, none⟩) 0 (fun _ => []) w (fun W => RawAt W b 0 l) (fun W W' h k => RawAt.keep h k) (fun S W W' hS h k => RawAt.keptC h k (fun hbs => by have := hS b hbs; omega))
      (fun W h => len_some b 0 l W h) (by omega) (by simp) (fun W k h hk => absurd hk (by omega)) hr

/-- v reads as the ways xs. -/
def RdW (w : World) (v : Value) (xs : List (Int × Int)) : Prop :=
  ∃ A c, v = .slice A xs.length c ∧ xs.length ≤ 256 ∧ (xs ≠ [] → ∃ b off, A = some ⟨b, off, none⟩ ∧ ∀ i x, xs[i]? = some x → w.cell? ⟨b, off + i * 2, none⟩ = some (.int .i64 x.1) ∧ w.cell? ⟨b, off + i * 2 + 1, none⟩ = some (.int .i64 x.2))
theorem RdW.keep {w w' : World} {v : Value} {xs : List (Int × Int)} (h : RdW w v xs) (hk : Kept [] w w') : RdW w' v xs := by
  obtain ⟨A, c, rfl, hm, h⟩ := h
  refine ⟨A, c, rfl, hm, fun hn => ?_⟩
  obtain ⟨b, off, rfl, hc⟩ := h hn
  exact ⟨b, off, rfl, fun i x hx => ⟨hk.cell (by simp) (hc i x hx).1, hk.cell (by simp) (hc i x hx).2⟩⟩
theorem RdW.nil (w : World) : RdW w (.slice none 0 0) [] := ⟨none, 0, rfl, by simp, fun h => absurd rfl h⟩

theorem take_getW {α : Type} {xs pre : List α} {x : α} (h : pre <+: xs) (hx : xs[pre.length]? = some x) : pre ++ [x] <+: xs := by
  obtain ⟨t, rfl⟩ := h
  rw [List.getElem?_append_right (Nat.le_refl _), Nat.sub_self] at hx
  cases t with
  | nil => simp at hx
  | cons y t =>
    simp at hx
    subst hx
    exact ⟨t, by simp⟩

def StopW (xs : List (Int × Int)) (w : World) (cc : Code) (pre : List (Int × Int)) (W : World) : Prop :=
  (cc = .ret ∧ ∃ B, (pre <+: xs → B = true) ∧ Boxed W (w.heap.size + 1 + 1) 4 (.bool B)) ∧ Below w.heap.size w W

set_option maxRecDepth 100000 in
set_option maxHeartbeats 8000000 in
/-- What is told of is told: whatever the count of those that are asked for. -/
theorem tellsW_any (v u : Value) (xs : List (Int × Int)) (stop : Int) (w : World) (hx256 : xs.length ≤ 256) (hit : ItW w v xs) (hu : RdW w u xs) :
    Calls Try.prog 26 #[v, u, .int .i64 stop] w fun e w' => e = .returned (.bool true) ∧ Kept [] w w' := by
  obtain ⟨g, lb, rfl, eg, hseq⟩ := hit
  have HU := Lib.hid hu
  obtain ⟨A, c, rfl, hmx, hu⟩ := hu
  obtain ⟨L, hL⟩ : ∃ L, xs.length = L := ⟨_, rfl⟩
  rw [hL] at hx256 HU ⊢
  have HL := Lib.hid hL
  clear hL hmx hu
  refine (callsIn_wide (n := 9)).1 ?_
  refine callsIn_of_wp_marks Try.func26 rfl trivial ?_ rfl
  simp only [Try.ntmps26, List.size_toArray, List.length_cons, List.length_nil, Nat.reduceAdd, Nat.reduceSub, Array.replicate_succ, Array.replicate_zero, List.push_toArray, List.append_toArray, List.nil_append, List.cons_append]
  gi_wp2_with fail
  have b0 := (((Boxed.new w 49 (.slice A L c)).alloc (.cells #[.int .i64 stop] 3)).alloc (.cells #[.bool false] 4)).alloc (.cells #[.int .i64 0] 3)
  have b1 := ((Boxed.new (w.alloc (.cells #[.slice A L c] 49)) 3 (.int .i64 stop)).alloc (.cells #[.bool false] 4)).alloc (.cells #[.int .i64 0] 3)
  have b2 := (Boxed.new ((w.alloc (.cells #[.slice A L c] 49)).alloc (.cells #[.int .i64 stop] 3)) 4 (.bool false)).alloc (.cells #[.int .i64 0] 3)
  have b3 := Boxed.new (((w.alloc (.cells #[.slice A L c] 49)).alloc (.cells #[.int .i64 stop] 3)).alloc (.cells #[.bool false] 4)) 3 (.int .i64 0)
  have hK0 : Kept [] w ((((w.alloc (.cells #[.slice A L c] 49)).alloc (.cells #[.int .i64 stop] 3)).alloc (.cells #[.bool false] 4)).alloc (.cells #[.int .i64 0] 3)) := ((((Kept.refl [] w).alloc _).alloc _).alloc _).alloc _
  simp only [World.size_alloc] at b1 b2 b3
  have hsz : ((((w.alloc (.cells #[.slice A L c] 49)).alloc (.cells #[.int .i64 stop] 3)).alloc (.cells #[.bool false] 4)).alloc (.cells #[.int .i64 0] 3)).heap.size = w.heap.size + 4 := by simp
  obtain ⟨W0, hW0⟩ : ∃ W0, (((w.alloc (.cells #[.slice A L c] 49)).alloc (.cells #[.int .i64 stop] 3)).alloc (.cells #[.bool false] 4)).alloc (.cells #[.int .i64 0] 3) = W0 := ⟨_, rfl⟩
  rw [hW0] at b0 b1 b2 b3 hK0 hsz ⊢
  clear hW0
  have ok : ∀ {A B : World} {row : Option Nat} {b : Nat} {t : TypeId} {v : Value}, Boxed A b t v → A.grownBy B row → (∀ r, row = some r → ∃ o : Obj, A.heap[r]? = some o ∧ o.isCells = false) → Boxed B b t v :=
    fun {A B row b t v} h hg hr => h.kept hg (fun e' => by obtain ⟨o, ho, hc⟩ := hr b e'.symm; rw [show A.heap[b]? = _ from h] at ho; cases ho; cases hc)
  have okb : ∀ {A B : World} {row : Option Nat} {b : Nat} {t : TypeId} {cs : Array Value}, Blk A b cs t → A.grownBy B row → (∀ r, row = some r → ∃ o : Obj, A.heap[r]? = some o ∧ o.isCells = false) → Blk B b cs t :=
    fun {A B row b t v} h hg hr => (hg.block b h.lt (fun e' => by obtain ⟨o, ho, hc⟩ := hr b e'.symm; rw [show A.heap[b]? = _ from h] at ho; cases ho; cases hc)).trans h
  refine wpIn_rangeFunc_ownH rfl (by omega) (gf := g) (lb := lb) rfl trivial eg (hseq W0 [w.heap.size + 1 + 1, w.heap.size + 1 + 1 + 1] hK0 (by intro x hx; simp at hx; omega) 8 (by omega)) KeptC.trans (fun W l o o' _ h hc _ => KeptC.putObj h hc) (Below.refl _ _) (fun _ => rfl)
    (fun pre W => (pre <+: xs ∧ Boxed W w.heap.size 49 (.slice A L c) ∧ Boxed W (w.heap.size + 1) 3 (.int .i64 stop) ∧ Boxed W (w.heap.size + 1 + 1) 4 (.bool false) ∧ Boxed W (w.heap.size + 1 + 1 + 1) 3 (.int .i64 pre.length)) ∧ Below w.heap.size w W)
    (StopW xs w)
    (OwnFrom.and (Own.from (fun s A B row hs hg hr => ⟨hs.1, ok hs.2.1 hg hr, ok hs.2.2.1 hg hr, ok hs.2.2.2.1 hg hr, ok hs.2.2.2.2 hg hr⟩) _) (ownFrom_below (Nat.le_refl _) (by omega)))
    (fun cc => OwnFrom.and (Own.from (fun s A B row hs hg hr => ⟨hs.1, hs.2.choose, hs.2.choose_spec.1, ok hs.2.choose_spec.2 hg hr⟩) _) (ownFrom_below (Nat.le_refl _) (by omega)))
    ⟨⟨List.nil_prefix, b0, b1, b2, b3⟩, hK0.below⟩
    (fun x a' W => ∃ Bx, w.heap.size + 3 < Bx ∧ Blk W Bx #[.int .i64 x.1, .int .i64 x.2] 45 ∧ a' = { tmps := #[.func (.func g) #[] lb, .slice A L c, .int .i64 stop, undef, .pointer (some ⟨w.heap.size, 0, none⟩), .pointer (some ⟨w.heap.size + 1, 0, none⟩), .pointer (some ⟨w.heap.size + 1 + 1, 0, none⟩), .pointer (some ⟨w.heap.size + 1 + 1 + 1, 0, none⟩), .pointer (some ⟨Bx, 0, none⟩), .func (.func g) #[] lb, .agg #[.int .i64 x.1, .int .i64 x.2], undef, undef, undef, undef, undef, undef, undef, undef, undef, undef, undef, undef, undef, undef, undef, undef, undef, undef, undef, undef, undef], defers := [] })
    (fun x a' _ X Y row hs hg hr => by obtain ⟨Bx, h1, h2, h3⟩ := hs; exact ⟨Bx, h1, okb h2 hg (fun r e => (hr r e).2), h3⟩) ?assign ?body ?done ?stop
  case assign =>
    rintro l pre x W K ⟨⟨hp, c0, c1, c2, c3⟩, hB1⟩ hK
    have hl3 := c3.lt
    dsimp only [encW]
    gi_wp2
    exact hK _ _ ((KeepsOthers.alloc _ _).from _) (KeptC.nil ((Kept.refl [] W).alloc _)) ⟨⟨hp, c0.alloc _, c1.alloc _, c2.alloc _, c3.alloc _⟩, hB1.alloc hB1.size _⟩ ⟨W.heap.size, by omega, Blk.new W _ _, rfl⟩
  case body =>
    rintro l pre ⟨x1, x2⟩ a' W hl ⟨rr, hrr⟩ ⟨⟨hpre, bW, bS, bR, bN⟩, hB⟩ ⟨Bx, hBx, bX, rfl⟩ hlt
    have cW := bW.cell
    have cS := bS.cell
    have cR := bR.cell
    have fR := bR.frozen
    have cN := bN.cell
    have fN := bN.frozen
    have cX0 := bX.cell 0
    have cX1 := bX.cell 1
    have hUW := (RdW.keep HU.out (Kept.of_below hB))
    have hsW := hB.size
    obtain ⟨k, hk⟩ : ∃ k, pre.length = k := ⟨_, rfl⟩
    rw [hk] at cN hlt bN
    have hpk : xs[k]? = some (x1, x2) → pre ++ [(x1, x2)] <+: xs := fun h => take_getW hpre (by rw [hk]; exact h)
    have hpl : (pre ++ [(x1, x2)]).length = k + 1 := by simp [hk]
    have HPK := Lib.hid hpk
    have HPL := Lib.hid hpl
    have HUW := Lib.hid hUW
    clear hk hpk hpl hUW
    have hmx : Try.prog.follows .mixedOrders = true := by kernel_rfl
    by_cases hkL : L ≤ k
    · gi_wp2_with fail
      gi_region_with_o (fail)
      all_goals gi_wp2
      all_goals
        refine ⟨((KeepsOthers.drew _).trans (KeepsOthers.setCell _ _ _)).from _, ⟨rfl, false, fun hp => ?_, (show Boxed W.drew _ _ _ from bR).set _⟩, (show Below w.heap.size w W.drew from ⟨hB.os, hB.tape, hB.output, hB.size, hB.block⟩).setCell (p := ⟨w.heap.size + 1 + 1, 0, none⟩) (by simp; omega) _⟩
        have := hp.length_le
        rw [HPL.out, HL.out] at this
        omega
    · obtain ⟨⟨y1, y2⟩, hy⟩ : ∃ y, xs[k]? = some y := ⟨_, List.getElem?_eq_getElem (by rw [HL.out]; omega)⟩
      obtain ⟨A', c', he, _, hcell⟩ := HUW.out
      obtain ⟨bb, off, rfl, hcc⟩ := hcell (by rintro rfl; simp at hy)
      injection he with he1 he2 he3
      subst he1 he3
      obtain ⟨hck1, hck2⟩ := hcc k _ hy
      have HCC := Lib.hid hcc
      have HY := Lib.hid hy
      clear hcc hy hcell he2
      cases hx1 : (x1 == y1) with
      | false =>
       have HX1 := Lib.hid hx1
       gi_upto_region 4 with fail
       gi_cut [22] from 11 (fun s wc => s = .bool true ∧ wc = W.drew)
       case first =>
         gi_region_with_o (fail)
         all_goals gi_wp2_with fail
         all_goals gi_meet
         all_goals exact ⟨rfl, rfl⟩
       case rest =>
         obtain ⟨rfl, rfl⟩ := hcut
         gi_wp2_with fail
         refine ⟨((KeepsOthers.drew _).trans (KeepsOthers.setCell _ _ _)).from _, ⟨rfl, false, fun hp => ?_, (show Boxed W.drew _ _ _ from bR).set _⟩, (show Below w.heap.size w W.drew from ⟨hB.os, hB.tape, hB.output, hB.size, hB.block⟩).setCell (p := ⟨w.heap.size + 1 + 1, 0, none⟩) (by simp; omega) _⟩
         obtain ⟨t, ht⟩ := hp
         have h1 : xs[k]? = some (x1, x2) := by
           rw [← ht]
           have : k < (pre ++ [(x1, x2)]).length := by rw [HPL.out]; omega
           rw [List.getElem?_append_left this, List.getElem?_append_right (by have := HPL.out; simp at this; omega)]
           have e : k - pre.length = 0 := by have := HPL.out; simp at this; omega
           rw [e]; rfl
         rw [HY.out] at h1
         have := Option.some.inj h1
         injection this with h2 h3
         rw [← h2] at HX1; have := HX1.out; simp at this
      | true =>
       cases hx2 : (x2 == y2) with
       | false =>
        have HX2 := Lib.hid hx2
        gi_upto_region 4 with fail
        gi_cut [22] from 11 (fun s wc => s = .bool true ∧ wc = W.drew)
        case first =>
          gi_region_with_o (fail)
          all_goals gi_wp2_with fail
          all_goals gi_meet
          all_goals exact ⟨rfl, rfl⟩
        case rest =>
          obtain ⟨rfl, rfl⟩ := hcut
          gi_wp2_with fail
          refine ⟨((KeepsOthers.drew _).trans (KeepsOthers.setCell _ _ _)).from _, ⟨rfl, false, fun hp => ?_, (show Boxed W.drew _ _ _ from bR).set _⟩, (show Below w.heap.size w W.drew from ⟨hB.os, hB.tape, hB.output, hB.size, hB.block⟩).setCell (p := ⟨w.heap.size + 1 + 1, 0, none⟩) (by simp; omega) _⟩
          obtain ⟨t, ht⟩ := hp
          have h1 : xs[k]? = some (x1, x2) := by
            rw [← ht]
            have : k < (pre ++ [(x1, x2)]).length := by rw [HPL.out]; omega
            rw [List.getElem?_append_left this, List.getElem?_append_right (by have := HPL.out; simp at this; omega)]
            have e : k - pre.length = 0 := by have := HPL.out; simp at this; omega
            rw [e]; rfl
          rw [HY.out] at h1
          have := Option.some.inj h1
          injection this with h2 h3
          rw [← h3] at HX2; have := HX2.out; simp at this
       | true =>
        have e1 : x1 = y1 := by simpa using hx1
        have e2 : x2 = y2 := by simpa using hx2
        subst e1
        subst e2
        gi_upto_region 4 with fail
        gi_cut [22] from 11 (fun s wc => s = .bool false ∧ wc = W.drew)
        case first =>
          gi_region_with_o (fail)
          all_goals gi_wp2_with fail
          all_goals gi_meet
          all_goals exact ⟨rfl, rfl⟩
        case rest =>
          obtain ⟨rfl, rfl⟩ := hcut
          have HPRE : Hid (pre ++ [(x1, x2)] <+: xs) := HPK.out HY.out
          have hwk : IntKind.i64.wrap ((k : Int) + 1) = (k : Int) + 1 := by unfold IntKind.wrap; simp [IntKind.signed, IntKind.bits]; omega
          have bN' : Boxed W.drew (w.heap.size + 1 + 1 + 1) 3 (.int .i64 k) := bN
          have bS' : Boxed W.drew (w.heap.size + 1) 3 (.int .i64 stop) := bS
          have bR' : Boxed W.drew (w.heap.size + 1 + 1) 4 (.bool false) := bR
          have bW' : Boxed W.drew w.heap.size 49 (.slice (some ⟨bb, off, none⟩) L c) := bW
          have hB' : Below w.heap.size w W.drew := ⟨hB.os, hB.tape, hB.output, hB.size, hB.block⟩
          have hN1 := bN'.set (.int .i64 ((k : Int) + 1))
          have hS1 := bS'.other (B' := w.heap.size + 1 + 1 + 1) (by omega) (.int .i64 ((k : Int) + 1))
          have hR1 := bR'.other (B' := w.heap.size + 1 + 1 + 1) (by omega) (.int .i64 ((k : Int) + 1))
          have hW1 := bW'.other (B' := w.heap.size + 1 + 1 + 1) (by omega) (.int .i64 ((k : Int) + 1))
          have hB1 := hB'.setCell (p := ⟨w.heap.size + 1 + 1 + 1, 0, none⟩) (by simp; omega) (.int .i64 ((k : Int) + 1))
          have hko := (KeepsOthers.drew W).trans (KeepsOthers.setCell W.drew ⟨w.heap.size + 1 + 1 + 1, 0, none⟩ (.int .i64 ((k : Int) + 1)))
          have hkc : KeptC [w.heap.size + 1 + 1, w.heap.size + 1 + 1 + 1] W (W.drew.setCell ⟨w.heap.size + 1 + 1 + 1, 0, none⟩ (.int .i64 ((k : Int) + 1))) := KeptC.of ((Kept.refl _ W).drew.setCell (.inl (by simp)) _)
          have cN1 := hN1.cell
          have cS1 := hS1.cell
          have cR1 := hR1.cell
          have fR1 := hR1.frozen
          cases hst : ((k : Int) + 1 == stop) with
          | true =>
            gi_wp2_with fail
            exact ⟨(hko.trans (KeepsOthers.setCell _ _ _)).from _, ⟨rfl, true, fun _ => rfl, hR1.set _⟩, hB1.setCell (p := ⟨w.heap.size + 1 + 1, 0, none⟩) (by simp; omega) _⟩
          | false =>
            gi_wp2_with fail
            refine ⟨hko.from _, hkc, ⟨HPRE.out, hW1, hS1, hR1, ?_⟩, hB1⟩
            rw [HPL.out]
            exact hN1
  case done =>
    rintro D ys W hD rfl ⟨⟨_, bW, bS, bR, bN⟩, hB⟩ hK
    have cW := bW.cell
    have cN := bN.cell
    have cR := bR.cell
    have fR := bR.frozen
    rw [HL.out] at cN
    gi_wp2_with fail
    have hK' := (KeepsOthers.setCell W ⟨w.heap.size + 1 + 1, 0, none⟩ (.bool true)).same D _ hK rfl
    refine ⟨by simp, .inl ⟨_, _, rfl, run_takeDeferred hK', ?_⟩⟩
    have hc5 := cell_kept (bR.set (.bool true)).cell (grownBy_putObj' _ D (.deferred none)) (fun r e => by cases e; exact ⟨_, hK', rfl⟩)
    refine ⟨.bool true, ?_, rfl, Kept.of_below ((hB.setCell (p := ⟨w.heap.size + 1 + 1, 0, none⟩) (by simp; omega) _).trans (belowK_b (w := w) (Nat.le_refl _) _ D _ _ (by omega) hK' rfl rfl))⟩
    simp [results, Try.f26, go_sem, hc5]
  case stop =>
    rintro D cc pre W hD hpre ⟨⟨rfl, B, hbt, bR⟩, hB⟩ hK
    obtain rfl := hbt hpre
    gi_wp2_with fail
    refine ⟨by simp, .inl ⟨_, _, rfl, run_takeDeferred hK, ?_⟩⟩
    have hc5 := cell_kept bR.cell (grownBy_putObj' _ D (.deferred none)) (fun r e => by cases e; exact ⟨_, hK, rfl⟩)
    refine ⟨.bool true, ?_, rfl, Kept.of_below (hB.trans (belowK_b (w := w) (Nat.le_refl _) W D _ _ (by omega) hK rfl rfl))⟩
    simp [results, Try.f26, go_sem, hc5]

end Go.Proofs.Ytikpnlmimhnmmaa
