/- ShelfClears. -/
import Derived.Test.YtdboipjbpkhacaaS11
import Derived.Test.YtdboipjbpkhacaaS9

set_option linter.unusedVariables false
set_option linter.unusedSimpArgs false
set_option linter.unnecessarySimpa false
namespace Go.Proofs.Ytdboipjbpkhacaa
open Go.RowKit Go.Shelf
attribute [local go_sem] Oper.semAt_some

theorem infoThing : (Try.prog.info? 40).map (fun i => (i.zero.map (fun z => z.cells.size), i.size, i.bytes)) = some (some 3, 3, 32) := by kernel_rfl
theorem thingInfo : ∃ i z, Try.prog.info? 40 = some i ∧ i.zero = some z ∧ i.size = 3 ∧ i.bytes = 32 ∧ z.cells.size = 3 := by
  have h := infoThing
  rw [Option.map_eq_some_iff] at h
  obtain ⟨i, hi, h⟩ := h
  simp only [Prod.mk.injEq] at h
  obtain ⟨hz, h1, h2⟩ := h
  rw [Option.map_eq_some_iff] at hz
  obtain ⟨z, hz, hs⟩ := hz
  exact ⟨i, z, hi, hz, h1, h2, hs⟩

/-- Rows of things of a shelf stand. -/
structure KeptT (A B : World) : Prop where
  size : A.heap.size ≤ B.heap.size
  row : ∀ (k : Nat) (cs : Array Value), Blk A k cs 75 → Blk B k cs 75
theorem KeptT.refl (A : World) : KeptT A A := ⟨Nat.le_refl _, fun _ _ h => h⟩
theorem KeptT.trans {A B C : World} (h : KeptT A B) (k : KeptT B C) : KeptT A C := ⟨Nat.le_trans h.size k.size, fun i cs hi => k.row i cs (h.row i cs hi)⟩
theorem KeptT.of {S : List Nat} {A B : World} (h : Go.Proofs.Ytdboipjbpkhacaa.Kept S A B) (hS : ∀ k ∈ S, ∀ cs, ¬ Blk A k cs 75) : KeptT A B :=
  ⟨h.size, fun k cs hk => hk.kept h (fun hm => hS k hm cs hk)⟩
theorem KeptT.putObj {W : World} {l : Nat} {o o' : Obj} (h : W.heap[l]? = some o) (hc : o.isCells = false) : KeptT W (W.putObj l o') :=
  ⟨by simp, fun k cs hk => (World.putObj_heap_other (fun e => by subst e; rw [show W.heap[k]? = _ from hk] at h; cases h; cases hc)).trans hk⟩
theorem Kept.from {S : List Nat} {A B : World} (h : Go.Proofs.Ytdboipjbpkhacaa.Kept S A B) (n : Nat) (hS : ∀ k ∈ S, ∃ cs t fr, A.heap[k]? = some (.cells cs t fr)) : KeepsFrom n A B :=
  ⟨h.size, fun k o _ hk ho => (h.block k (Array.getElem?_eq_some_iff.1 hk).1 (fun hm => by obtain ⟨cs, t, fr, hc⟩ := hS k hm; rw [hk] at hc; cases hc; cases ho)).trans hk⟩
theorem kept_own {β : Type} {B : Nat} {S : List Nat} {W0 : World} (hB : W0.heap.size ≤ B) : OwnFrom B (fun (_ : β) W => Kept S W0 W) := fun s X Y row h hg hr =>
  ⟨hg.os.trans h.os, hg.tape.trans h.tape, hg.output.trans h.output, Nat.le_trans h.size hg.size, fun k hk hs => (hg.block k (Nat.lt_of_lt_of_le hk h.size) (fun e => by have := (hr k e.symm).1; omega)).trans (h.block k hk hs)⟩
theorem blk_turned {A B : World} {row : Option Nat} {b : Nat} {t : TypeId} {cs : Array Value} (h : Blk A b cs t) (hg : A.grownBy B row) (hr : ∀ r, row = some r → ∃ o : Obj, A.heap[r]? = some o ∧ o.isCells = false) : Blk B b cs t :=
  (hg.block b h.lt (fun e' => by obtain ⟨o, ho, hc⟩ := hr b e'.symm; rw [show A.heap[b]? = _ from h] at ho; cases ho; cases hc)).trans h
theorem own_turned {A B : World} {row : Option Nat} {base : Nat} {e : TypeId} {size : Nat} {v : Value} {n : Nat} {xs : List Value} (h : A.ownsRow base e size v n xs) (hg : A.grownBy B row) (hr : ∀ r, row = some r → ∃ o : Obj, A.heap[r]? = some o ∧ o.isCells = false) : B.ownsRow base e size v n xs := by
  refine ⟨h.1, ?_⟩
  rcases h.2 with h0 | ⟨g, cap, cur, hv, h1, h2, h3⟩
  · exact .inl h0
  · exact .inr ⟨g, cap, cur, hv, h1, blk_turned (show Blk A g cur e from h2) hg hr, h3⟩

theorem left_left {mn mx : Int} (h : mn ≤ mx) (L : List Th) : leftOf (below mx) (leftOf (below mn) L) = leftOf (below mx) L := by
  unfold leftOf below
  rw [List.filter_filter]
  congr 1
  funext x
  by_cases h1 : x.1 < mx
  · simp [h1]
  · have : ¬ x.1 < mn := by omega
    simp [h1, this]
theorem left_ge {mx : Int} {L : List Th} {x : Th} (h : x ∈ leftOf (below mx) L) : ¬ x.1 < mx := by
  unfold leftOf below at h
  rw [List.mem_filter] at h
  simpa using h.2

def onlyNormal (Q : Exit → Act → World → Prop) : Exit → Act → World → Prop
  | .normal, a, w => Q .normal a w
  | _, _, _ => False
theorem onlyNormal_imp {Q : Exit → Act → World → Prop} : ∀ (e : Exit) (a : Act) (w : World), onlyNormal Q e a w → Q e a w := fun e a w h => by
  cases e <;> first | exact h | exact False.elim h
/-- The loop's law, the frame behind its assigning code told from the frame ahead of it. -/
theorem wpIn_rangeFunc_A {α : Type} {P : Program} {n : Nat} {g : Operand} {ps : Array Tmp} {assign body : Code} {Q : Exit → Act → World → Prop} {a : Act} {w : World}
    (h1 : 1 ≤ n) {gf : Nat} {lb : Array Value} (hg : a.eval g = .func (.func gf) #[] lb) (eg : ∀ args w, (callFunc gf args).run P w = .ok (.enter gf args) w)
    {encs : α → Array Value} {Kp : World → World → Prop} {S Sp : List α → Prop} {N : Nat} {w0 : World} (hseq : SeqStopsK Fence.wide (n - 1) P gf lb encs Kp S Sp N w0)
    (hKt : ∀ {A B C : World}, Kp A B → Kp B C → Kp A C) (hKb : ∀ (W : World) (l : Nat) (o o' : Obj), w.heap.size ≤ l → W.heap[l]? = some o → o.isCells = false → o.isWalk = false → Kp W (W.putObj l o')) (hb0 : Below w0.heap.size w0 w) (hps : ∀ x, (encs x).size = ps.size)
    (I : List α → World → Prop) (Ix : Code → List α → World → Prop) (hI : OwnFrom w.heap.size I) (hIx : ∀ c, OwnFrom w.heap.size (Ix c)) (h0 : I [] w) (Ax : Array Value → α → Act → World → Prop) (hAx : ∀ T x a', OwnFrom w.heap.size (fun (_ : Unit) W => Ax T x a' W))
    (hassign : ∀ (l : Nat) (pre : List α) (x : α) (W : World) (K : Act → World → Prop), I pre W → (∀ a' W', KeepsFrom w.heap.size W W' → Kp W W' → I pre W' → Ax a.tmps x a' W' → K a' W') →
      assign.wpIn (Fence.wide.inRound l) (n - 1 - 1) P (Exit.then K (fun _ _ _ => False)) { tmps := (ps.zip (encs x)).foldl (fun t (p, v) => t.setIfInBounds p v) a.tmps, defers := [] } W)
    (hbody : ∀ (l : Nat) (pre : List α) (x : α) (a' : Act) (W : World), w.heap.size ≤ l → (∃ r, W.heap[l]? = some (.loop r)) → I pre W → Ax a.tmps x a' W → pre.length < N → body.wpIn (Fence.wide.inRound l) (n - 1 - 1) P (ownPostG w.heap.size Kp I Ix (pre ++ [x]) W) a' W)
    (hdone : ∀ (D : Nat) (xs : List α) (W : World), w.heap.size ≤ D → S xs → I xs W → W.heap[D]? = some (.deferred (some [])) → Q .normal { a with defers := { target := .collected D, args := #[] } :: a.defers } W)
    (hstop : ∀ (D : Nat) (c : Code) (pre : List α) (W : World), w.heap.size ≤ D → Sp pre → Ix c pre W → W.heap[D]? = some (.deferred (some [])) → c.wpIn Fence.wide n P Q { a with defers := { target := .collected D, args := #[] } :: a.defers } W) :
    (Code.rangeFunc g ps assign body).wpIn Fence.wide n P Q a w :=
  wpIn_rangeFunc_ownH rfl h1 hg trivial eg hseq hKt hKb hb0 hps I Ix hI hIx h0 (Ax a.tmps) (hAx a.tmps) hassign hbody hdone hstop

/-- The state of the loop in ShelfClears: what has been collected. -/
def StopLow (mx : Int) (cc : Code) (pre : List Th) (X : World) : Prop := cc = .ret ∧ ∃ x ∈ pre, x.1 < mx
/-- What has been collected. -/
def Coll (X0 : World) (TW : Nat) (pre : List Th) (X : World) : Prop :=
  (∃ v, Blk X TW #[v] 35 ∧ X.ownsRow X0.heap.size 40 3 v pre.length (cellsT pre)) ∧ Kept [TW] X0 X
theorem Coll.own (X0 : World) (TW : Nat) : OwnFrom X0.heap.size (Coll X0 TW) := fun s A B row ⟨⟨v, h1, h2⟩, h3⟩ hg hr =>
  ⟨⟨v, blk_turned h1 hg (fun r e => (hr r e).2), own_turned h2 hg (fun r e => (hr r e).2)⟩, kept_own (β := List Th) (Nat.le_refl _) s A B row h3 hg hr⟩

/-- A round of that loop: one more is collected. -/
theorem coll_step {X0 X w1 : World} {TW n cc : Nat} {pre : List Th} {x : Th} {A : Option Addr} {v' : Value} (hT : TW < X0.heap.size) (h1 : Blk X TW #[.slice A n cc] 35) (h2 : X.ownsRow X0.heap.size 40 3 (.slice A n cc) n (cellsT pre)) (h3 : Kept [TW] X0 X)
    (hk : Kept ((Value.slice A n cc).ownBlock.toList) X w1) (hown : w1.ownsRow X0.heap.size 40 3 v' (n + 1) (cellsT pre ++ [.int .i64 x.1, .int .i64 x.2.1, .string x.2.2])) (hn : pre.length = n) :
    Kept [TW] X0 (w1.setCell ⟨TW, 0, none⟩ v') ∧ (∀ B, KeepsFrom B X (w1.setCell ⟨TW, 0, none⟩ v')) ∧ KeptT X (w1.setCell ⟨TW, 0, none⟩ v') ∧ Coll X0 TW (pre ++ [x]) (w1.setCell ⟨TW, 0, none⟩ v') := by
  have hks : Kept [TW] w1 (w1.setCell ⟨TW, 0, none⟩ v') := (Kept.refl [TW] w1).setCell (.inl (by simp)) _
  have hkk : Kept (TW :: (Value.slice A n cc).ownBlock.toList) X (w1.setCell ⟨TW, 0, none⟩ v') := (hk.mono (by intro z hz; exact List.mem_cons_of_mem _ hz)).trans (hks.mono (by simp))
  have hob : ∀ z, (Value.slice A n cc).ownBlock = some z → X0.heap.size ≤ z ∧ z < X.heap.size := fun z hz => h2.lt z hz
  have hblk : ∀ z, (Value.slice A n cc).ownBlock = some z → ∃ cur, X.heap[z]? = some (.cells cur 40 (0, 0)) := fun z hz => by
    rcases h2.2 with ⟨h0, _⟩ | ⟨g, cap, cur, hv, _, hg, _⟩
    · rw [h0] at hz; cases hz
    · rw [hv] at hz; injection hz with hz; subst hz; exact ⟨cur, hg⟩
  have hK : Kept [TW] X0 (w1.setCell ⟨TW, 0, none⟩ v') := Kept.after2 h3 hkk (fun z hz => by
    rw [List.mem_cons] at hz
    rcases hz with rfl | hz
    · exact .inl (by simp)
    · exact .inr (hob z (by simpa using hz)).1)
  refine ⟨hK, fun B => Kept.from hkk B (fun z hz => ?_), KeptT.of hkk (fun z hz cs hc => ?_), ⟨v', ?_, ?_⟩, hK⟩
  · rw [List.mem_cons] at hz
    rcases hz with rfl | hz
    · exact ⟨_, _, _, h1⟩
    · obtain ⟨cur, hc⟩ := hblk z (by simpa using hz)
      exact ⟨_, _, _, hc⟩
  · rw [List.mem_cons] at hz
    rcases hz with rfl | hz
    · unfold Blk at hc h1; rw [h1] at hc; cases hc
    · obtain ⟨cur, hcc⟩ := hblk z (by simpa using hz)
      unfold Blk at hc; rw [hcc] at hc; cases hc
  · exact (h1.kept hk (by intro hz; have := hob TW (by simpa using hz); omega)).set 0 _
  · rw [List.length_append, hn, cellsT_app]
    refine ownsRow_keep hown hks (fun z hz hzt => ?_)
    have := (hown.lt z hz).1
    simp at hzt
    omega

set_option maxRecDepth 100000 in
set_option maxHeartbeats 8000000 in
theorem shelfClears_lt (w : World) (v : Value) (l : List Opn) (a b : Int) (hab : a < b) (hx : RdO w v l) :
    Calls Try.prog 3 #[v, .int .i64 a, .int .i64 b] w fun e w' => e = .returned (.bool true) ∧ Kept [] w w' := by
  have HX := Lib.hid hx
  obtain ⟨A, c, rfl, hmx, hx⟩ := hx
  clear hx
  obtain ⟨n, hn⟩ : ∃ n, l.length = n := ⟨_, rfl⟩
  rw [hn] at hmx HX ⊢
  have HN := Lib.hid hn
  clear hn
  unfold maxLen at hmx
  refine (callsIn_wide (n := 9)).1 ?_
  refine callsIn_of_wp_marks Try.func3 rfl trivial ?_ rfl
  simp only [Try.ntmps3, List.size_toArray, List.length_cons, List.length_nil, Nat.reduceAdd, Nat.reduceSub, Array.replicate_succ, Array.replicate_zero, List.push_toArray, List.append_toArray, List.nil_append, List.cons_append]
  have b0 := ((Blk.new w #[.int .i64 a] 2).alloc (.cells #[.int .i64 b] 2)).alloc (.cells #[.bool false] 4)
  have b1 := (Blk.new (w.alloc (.cells #[.int .i64 a] 2)) #[.int .i64 b] 2).alloc (.cells #[.bool false] 4)
  have b2 := Blk.new ((w.alloc (.cells #[.int .i64 a] 2)).alloc (.cells #[.int .i64 b] 2)) #[.bool false] 4
  have hK0 := (((Kept.refl [] w).alloc (.cells #[.int .i64 a] 2)).alloc (.cells #[.int .i64 b] 2)).alloc (.cells #[.bool false] 4)
  have hsz : (((w.alloc (.cells #[.int .i64 a] 2)).alloc (.cells #[.int .i64 b] 2)).alloc (.cells #[.bool false] 4)).heap.size = w.heap.size + 3 := by simp
  simp only [World.size_alloc] at b1 b2
  gi_wp2_with fail
  obtain ⟨W0, hW0⟩ : ∃ W0, ((w.alloc (.cells #[.int .i64 a] 2)).alloc (.cells #[.int .i64 b] 2)).alloc (.cells #[.bool false] 4) = W0 := ⟨_, rfl⟩
  rw [hW0] at b0 b1 b2 hK0 hsz ⊢
  have HB0 := Lib.hid b0
  have HB1 := Lib.hid b1
  have HB2 := Lib.hid b2
  clear hW0 b0 b1 b2
  refine ⟨trivial, (callsIn_wide.2 (new_any 16384 _ (by omega))).mono ?_⟩
  rintro e w1 ⟨rfl, hs1, hK1⟩
  obtain ⟨sb, hsb⟩ : ∃ sb, W0.heap.size = sb := ⟨_, rfl⟩
  rw [hsb] at hs1 ⊢
  have hF1 : ∀ z ∈ [sb], W0.heap.size ≤ z := by simp; omega
  have hsbb : W0.heap.size ≤ sb := by omega
  clear hsb
  gi_wp2_with fail
  refine ⟨trivial, (callsIn_wide.2 (live_any _)).mono ?_⟩
  rintro e w2 ⟨rfl, hk2⟩
  have hs2 := hs1.keep hk2
  have hK2 := hK1.trans hk2
  clear hs1 hK1 hk2
  gi_wp2_with fail
  gi_loopw [27] (fun i wr => ∃ (k : Nat) (F : List Nat) (L : List Th), i = .int .i64 k ∧ k ≤ n ∧ Sh wr F sb 16384 L ∧ (∀ z ∈ F, W0.heap.size ≤ z) ∧ Kept [] W0 wr) (fun i _ => n - (intOf i).toNat)
  case atStart => exact ⟨0, _, [], rfl, by omega, hs2, hF1, hK2⟩
  case round =>
    obtain ⟨k, F, L, rfl, hk, hs, hF, hK⟩ := hrel
    by_cases hlt : k < n
    · obtain ⟨⟨d, ⟨x1, x2⟩, xt, at'⟩, ho⟩ : ∃ o, l[k]? = some o := ⟨_, List.getElem?_eq_getElem (by rw [HN.out]; exact hlt)⟩
      obtain ⟨A', c', he, _, hcell⟩ := HX.out.keep (hK0.trans hK)
      obtain ⟨bb, off, rfl, hcc⟩ := hcell (by rintro rfl; simp at ho)
      injection he with he1 he2 he3
      subst he1 he3
      have e0 := hcc k _ ho 0 (by omega)
      have e1 := hcc k _ ho 1 (by omega)
      have e2 := hcc k _ ho 2 (by omega)
      have e3 := hcc k _ ho 3 (by omega)
      have e4 := hcc k _ ho 4 (by omega)
      simp [opCells] at e0 e1 e2 e3 e4
      have hka := (Kept.refl [] wr).alloc (.cells #[.int .i64 d, .int .i64 x1, .int .i64 x2, .string xt, .int .i64 at'] 31)
      have PU := Lib.hid (put_any F sb 16384 L (x1, x2, xt) _ (hs.keep hka))
      have hwj : IntKind.i64.wrap ((k : Int) + 1) = ((k + 1 : Nat) : Int) := by unfold IntKind.wrap; simp [IntKind.signed, IntKind.bits]; omega
      have HKA := Lib.hid hka
      have HWJ := Lib.hid hwj
      clear hcc ho hcell he2 hka hs2 hwj
      gi_wp2_with fail
      refine ⟨trivial, (callsIn_wide.2 PU.out).mono ?_⟩
      rintro e w3 ⟨rfl, hk3, F3, hs3, hF3⟩
      obtain ⟨hK3, hF3'⟩ := step_sh (hK.trans HKA.out) hF hk3 hF3
      clear hs hK hF hk3 hF3
      gi_wp2_with fail
      go_roundw
      case rel => exact ⟨k + 1, F3, _, by go_num, by omega, hs3, hF3', hK3⟩
      case measure => simp [intOf]; omega
    · have hsbF : sb ∈ F := by obtain ⟨_, _, _, lv, _, _, hFF, _⟩ := hs; simp [hFF]
      obtain ⟨w3, rfl⟩ : ∃ x, x = wr := ⟨_, rfl⟩
      clear hs2 hK2
      gi_wp2_with fail
      refine ⟨trivial, (callsIn_wide.2 (clone_any F sb 16384 L _ hs (by decide))).mono ?_⟩
      rintro e w4 ⟨tb, G4, rfl, ht4, hG4, hk4⟩
      have hs4 := hs.keep hk4
      have hK4 := hK.trans hk4
      have htG : tb ∈ G4 := by obtain ⟨_, _, _, lv, _, _, hFF, _⟩ := ht4; simp [hFF]
      have hts : ∀ z ∈ F, z ∉ G4 := fun z hz hz2 => by have := hG4 z hz2; have := hs.lt z hz; omega
      have htb := hG4 tb htG
      have hsbl := hs.lt sb hsbF
      have hsz3 : W0.heap.size ≤ w3.heap.size := hK.size
      clear hs hK hk4
      have a4 := (HB0.out.kept hK4 (by simp)).cell 0
      have b4 := (HB1.out.kept hK4 (by simp)).cell 0
      simp at a4 b4
      gi_wp2_with fail
      refine ⟨trivial, (callsIn_wide.2 (clear_any F sb 16384 L a _ hs4)).mono ?_⟩
      rintro e w5 ⟨rfl, hk5, F5, hs5, hF5⟩
      have ht5 := ht4.kept hk5 (fun z hz => by simp; rintro rfl; exact hts _ hsbF hz)
      have hF5t : ∀ z ∈ F5, z = sb ∨ w4.heap.size ≤ z := hF5
      have hs45 := hk5.size
      obtain ⟨hK5, hF5'⟩ := step_take hK4 hsbb hk5 hF5
      have a5 := (HB0.out.kept hK5 (by simp)).cell 0
      have b5 := (HB1.out.kept hK5 (by simp)).cell 0
      simp at a5 b5
      have htl4 := ht4.lt
      clear hs4 ht4 hk5 hF5 a4 b4
      gi_wp2_with fail
      refine ⟨trivial, (callsIn_wide.2 (clear_any F5 sb 16384 _ b _ hs5)).mono ?_⟩
      rintro e w6 ⟨rfl, hk6, F6, hs6, hF6⟩
      rw [left_left (by omega)] at hs6
      have htsb : ∀ z ∈ G4, z ≠ sb := fun z hz e => by subst e; exact hts _ hsbF hz
      have ht6 := ht5.kept hk6 (fun z hz => by simpa using htsb z hz)
      obtain ⟨hK6, hF6'⟩ := step_take hK5 hsbb hk6 hF6
      have a6 := (HB0.out.kept hK6 (by simp)).cell 0
      have b6 := (HB1.out.kept hK6 (by simp)).cell 0
      simp at a6 b6
      have hF6t : tb ∉ F6 := fun h => by
        rcases hF6 tb h with h1 | h1
        · exact htsb tb htG h1
        · have := htl4 tb htG; omega
      have hF6n : ∀ z ∈ F6, z = sb ∨ w5.heap.size ≤ z := hF6
      clear hs5 ht5 hk6 hF6 a5 b5 hF5t
      gi_wp2_with fail
      refine ⟨trivial, (callsIn_wide.2 (clear_any G4 tb 16384 L b _ ht6)).mono ?_⟩
      rintro e w7 ⟨rfl, hk7, G7, ht7, hG7⟩
      have hs7 := hs6.kept hk7 (fun z hz => by simp; rintro rfl; exact hF6t hz)
      obtain ⟨hK7, hG7'⟩ := step_take hK6 (by omega) hk7 hG7
      clear hs6 ht6 hk7 hG7 a6 b6 hK6 hK5
      obtain ⟨M, hM⟩ : ∃ M, leftOf (below b) L = M := ⟨_, rfl⟩
      rw [hM] at hs7 ht7
      have hge : ∀ x ∈ M, ¬ x.1 < b := fun x hx => left_ge (by rw [hM]; exact hx)
      have HGE := Lib.hid hge
      clear hM hge
      gi_wp2_with fail
      refine ⟨trivial, (callsIn_wide.2 (all_sharp _ _)).mono ?_⟩
      rintro e w8 ⟨rfl, rfl⟩
      gi_wp2_with fail
      have hka := (Kept.refl [] w7).alloc (.cells #[.slice none 0 0] 35)
      have hkb := hka.alloc (.cells #[.pointer (some ⟨tb, 0, none⟩)] 23)
      have bT0 := (Blk.new w7 #[.slice none 0 0] 35).alloc (.cells #[.pointer (some ⟨tb, 0, none⟩)] 23)
      have cS0 := (Blk.new (w7.alloc (.cells #[.slice none 0 0] 35)) #[.pointer (some ⟨tb, 0, none⟩)] 23).cell 0
      simp only [World.size_alloc] at cS0
      obtain ⟨X0, hX0⟩ : ∃ X0, (w7.alloc (.cells #[.slice none 0 0] 35)).alloc (.cells #[.pointer (some ⟨tb, 0, none⟩)] 23) = X0 := ⟨_, rfl⟩
      have hsX0 : X0.heap.size = w7.heap.size + 2 := by rw [← hX0]; simp
      rw [hX0] at hkb bT0 cS0 ⊢
      have hK8 := hK7.trans hkb
      have hs8 := hs7.keep hkb
      have ht8 := ht7.keep hkb
      obtain ⟨TW, hTW⟩ : ∃ TW, w7.heap.size = TW := ⟨_, rfl⟩
      rw [hTW] at bT0 cS0 hsX0 ⊢
      have hMl : M.length ≤ 16384 := by obtain ⟨_, _, h, _⟩ := ht8; exact h
      have hs70 := hK7.size
      have hF6l : ∀ z ∈ F6, z ≠ TW := fun z hz => by have := hs7.lt z hz; omega
      clear hX0 hka hkb hs7 ht7 hK7
      refine wpIn_rangeFunc_A (by omega) (gf := 32) (lb := #[.pointer (some ⟨TW + 1, 0, none⟩)]) rfl (enters_of Try.func32 (by kernel_rfl) rfl)
        (all1_gen KeptT 8 (by omega) (TW + 1) G7 tb 16384 M X0 ht8 cS0 (fun A B h => ⟨h.size, fun k cs _ hk => h.row k cs hk⟩)) KeptT.trans (fun W l o o' _ h hc _ => KeptT.putObj h hc) (Below.refl _ _) (fun _ => rfl)
        (Coll X0 TW) (StopLow b) (Coll.own X0 TW) (fun cc _ _ _ _ hs _ _ => hs) ⟨⟨_, bT0, World.ownsRow_nil _ _ _ _⟩, Kept.refl _ _⟩
        (fun T x a' X => ∃ Bx, TW + 1 < Bx ∧ Blk X Bx #[.int .i64 x.1, .int .i64 x.2.1] 29 ∧ a' = { tmps := (((T.setIfInBounds 57 (.agg #[.int .i64 x.1, .int .i64 x.2.1])).setIfInBounds 58 (.string x.2.2)).setIfInBounds 13 (.pointer (some ⟨Bx, 0, none⟩))).setIfInBounds 14 (.string x.2.2), defers := [] })
        (fun T x a' _ X Y row hs hg hr => by obtain ⟨Bx, h1, h2, h3⟩ := hs; exact ⟨Bx, h1, blk_turned h2 hg (fun r e => (hr r e).2), h3⟩) ?assign ?body ?done ?stop
      case assign =>
        rintro l2 pre x X K ⟨⟨vv, h1, h2⟩, h3⟩ hK
        have hsX := h3.size
        dsimp only [encT]
        gi_wp2
        have k1 := (Kept.refl [] X).alloc (.cells #[.int .i64 x.1, .int .i64 x.2.1] 29)
        refine hK _ _ (Kept.from k1 _ (by simp)) (KeptT.of k1 (by simp)) ⟨⟨vv, h1.alloc _, ownsRow_keep h2 k1 (by simp)⟩, h3.trans k1.nil⟩ ⟨X.heap.size, by omega, Blk.new X _ _, ?_⟩
        simp
      case body =>
        rintro l2 pre ⟨x1, x2, xt⟩ a' X hl2 ⟨rr, hrr⟩ ⟨⟨vv, h1, h2⟩, h3⟩ ⟨Bx, hBx, bX, rfl⟩ hlt
        simp only [List.setIfInBounds_toArray, List.set_cons_succ, List.set_cons_zero]
        obtain ⟨i0, z0, hi0, hz0, hz1, hz2, hz3⟩ := thingInfo
        obtain ⟨A9, c9, rfl⟩ := own_len h2
        have hsX := h3.size
        have d0 := (HB0.out.kept hK8 (by simp)).kept h3 (by simp; omega)
        have d1 := (HB1.out.kept hK8 (by simp)).kept h3 (by simp; omega)
        have d2 := (HB2.out.kept hK8 (by simp)).kept h3 (by simp; omega)
        have cT := h1.cell 0
        have cx0 := bX.cell 0
        have cx1 := bX.cell 1
        simp at cT cx0 cx1
        have hob : ∀ z, z < X0.heap.size ∨ z = Bx → z ∉ (Value.slice A9 pre.length c9).ownBlock.toList := fun z hz hz2 => by
          have hz3 : (Value.slice A9 pre.length c9).ownBlock = some z := by simpa using hz2
          rcases hz with hz | hz
          · have := (h2.lt z hz3).1; omega
          · rcases h2.2 with ⟨h0, _⟩ | ⟨g, cap, cur, hv, _, hg, _⟩
            · rw [h0] at hz3; cases hz3
            · rw [hv] at hz3
              have e : g = z := Option.some.inj hz3
              rw [e, hz] at hg
              unfold Blk at bX
              rw [bX] at hg
              cases hg
        have HOB := Lib.hid hob
        have HH1 := Lib.hid h1
        have HH2 := Lib.hid h2
        have HH3 := Lib.hid h3
        obtain ⟨pl, hpl⟩ : ∃ pl, pre.length = pl := ⟨_, rfl⟩
        have HPL := Lib.hid hpl
        rw [hpl] at cT hlt HOB HH1 HH2
        have HD0 := Lib.hid d0
        have HD1 := Lib.hid d1
        have HD2 := Lib.hid d2
        have HBX := Lib.hid bX
        clear hpl hob h1 h2 h3 d0 d1 d2 bX
        gi_wp2_with (gi_at_builtin; refine wpListIn_append_own _ rfl _ _ 35 rfl X0.heap.size 40 i0 z0 3 32 Try.underlying35 hi0 hz0 hz1 hz2 hz3 (by decide) (.slice A9 pl c9) pl (cellsT pre) rfl (ownsRow_keep HH2.out ((Kept.refl [] X).alloc _) (by simp)) ⟨X.heap.size, 0, none⟩ 1 1 [.int .i64 x1, .int .i64 x2, .string xt] rfl rfl (cell_three_new _ _ _ _ _) (by simp [Value.oneCell']) (by unfold maxLen; omega) (by omega) (by simp; omega) ?_; intro v' w1 hown' hgrow _; obtain ⟨A5, c5, rfl⟩ := own_len hown'; have hk1 := Kept.grownOwn (v := .slice A9 pl c9) ((Kept.refl [] X).alloc _) hgrow; have t1 := HH1.out.kept hk1 (HOB.out _ (.inl (by omega))); have u1 := t1.cell 0; have uf := t1.free 0; have v0 := ((HD0.out.kept hk1 (HOB.out _ (.inl (by omega)))).set_other (p := ⟨TW, 0, none⟩) (by simp; omega) (.slice A5 (pl + 1) c5)).cell 0; have v1 := ((HD1.out.kept hk1 (HOB.out _ (.inl (by omega)))).set_other (p := ⟨TW, 0, none⟩) (by simp; omega) (.slice A5 (pl + 1) c5)).cell 0; have v2 := ((HD2.out.kept hk1 (HOB.out _ (.inl (by omega)))).set_other (p := ⟨TW, 0, none⟩) (by simp; omega) (.slice A5 (pl + 1) c5)).cell 0; have vf := ((HD2.out.kept hk1 (HOB.out _ (.inl (by omega)))).set_other (p := ⟨TW, 0, none⟩) (by simp; omega) (.slice A5 (pl + 1) c5)).free 0; have v3 := ((HBX.out.kept hk1 (HOB.out _ (.inr rfl))).set_other (p := ⟨TW, 0, none⟩) (by simp; omega) (.slice A5 (pl + 1) c5)).cell 0; simp at u1 v0 v1 v2 v3; have HOWN := Lib.hid hown'; have HK1 := Lib.hid hk1; clear hown' hgrow hk1 t1)
        all_goals obtain ⟨q1, q2, q3, q4⟩ := coll_step (by omega) HH1.out HH2.out HH3.out HK1.out (x := (x1, x2, xt)) HOWN.out HPL.out
        · refine ⟨(q2 _).trans ((KeepsOthers.setCell _ _ _).from _), rfl, (x1, x2, xt), by simp, ?_⟩
          dsimp only
          omega
        · exact ⟨q2 _, q3, q4⟩
      case stop =>
        rintro D cc pre X hD hpre ⟨rfl, x, hx, hlt⟩ hK
        have := HGE.out x (hpre.subset hx)
        omega
      case done =>
        rintro D ys X hD rfl ⟨⟨vv, h1, h2⟩, h3⟩ hK
        have cT := h1.cell 0
        simp at cT
        have hsX := hs8.kept h3 (fun z hz => by simpa using hF6l z hz)
        have hrd := (RdT.of_own h2 hMl).1
        have d2 := (HB2.out.kept hK8 (by simp)).kept h3 (by simp; omega)
        have hKX : Kept [] W0 X := hK8.after h3 (by simp; omega)
        have HRD := Lib.hid hrd
        have HD2 := Lib.hid d2
        have HDK := Lib.hid hK
        obtain ⟨A9, c9, rfl⟩ := own_len h2
        clear h1 h2 h3 hrd d2 hs8 ht8 hK
        have hmo : Try.prog.follows .mixedOrders = true := by kernel_rfl
        gi_wp2_with fail
        refine wpIn_mono (Q := onlyNormal _) ?_ onlyNormal_imp
        gi_region_with_o (first
          | (refine ⟨trivial, ?_⟩; gi_at_call 11; refine (callsIn_wide.2 (all_any F6 sb 16384 _ _ (hsX.keep (by first | exact Kept.refl [] X | exact (Kept.refl [] X).drew | exact (Kept.refl [] X).drewN _)))).mono ?_; rintro e w9 ⟨v9, rfl, hit9, hk9⟩; have hk9' : Kept [] X w9 := Kept.trans (by first | exact Kept.refl [] X | exact (Kept.refl [] X).drew | exact (Kept.refl [] X).drewN _) hk9; have cT9 := hk9'.cell (by simp) cT; clear hk9)
          | (refine ⟨trivial, ?_⟩; gi_at_call 12; refine (callsIn_wide.2 (tells_any v9 _ _ 0 _ hit9 (HRD.out.keep hk9'))).mono ?_; rintro e w10 ⟨rfl, hk10⟩; have hk11 := hk9'.trans hk10; have r2 := (HD2.out.kept hk11 (by simp)).cell 0; have f2 := (HD2.out.kept hk11 (by simp)).free 0; simp at r2))
        all_goals unfold onlyNormal
        all_goals
          gi_wp2_with fail
          have hDl := (Array.getElem?_eq_some_iff.1 HDK.out).1
          have bR := (HD2.out.kept hk11 (by simp))
          have hK' := (KeepsOthers.setCell w10 ⟨w.heap.size + 1 + 1, 0, none⟩ (.bool true)).same D _ ((hk11.block D hDl (by simp)).trans HDK.out) rfl
          refine ⟨by simp, .inl ⟨_, _, rfl, run_takeDeferred hK', ?_⟩⟩
          have hc5 := cell_kept ((show Boxed w10 _ _ _ from bR).set (.bool true)).cell (grownBy_putObj' _ D (.deferred none)) (fun r e => by cases e; exact ⟨_, hK', rfl⟩)
          have hKF := (((hK0.trans hKX).trans hk11).setCell (p := ⟨w.heap.size + 1 + 1, 0, none⟩) (.inr (by simp; omega)) (.bool true))
          refine ⟨.bool true, ?_, rfl, Kept.of_below (hKF.below.trans (belowK_b (w := w) (Nat.le_refl _) _ D _ _ (by omega) hK' rfl rfl))⟩
          simp [results, Try.f3, go_sem, hc5]

set_option maxRecDepth 100000 in
set_option maxHeartbeats 8000000 in
theorem shelfClears_eq (w : World) (v : Value) (l : List Opn) (a : Int) (hab : True) (hx : RdO w v l) :
    Calls Try.prog 3 #[v, .int .i64 a, .int .i64 a] w fun e w' => e = .returned (.bool true) ∧ Kept [] w w' := by
  have HX := Lib.hid hx
  obtain ⟨A, c, rfl, hmx, hx⟩ := hx
  clear hx
  obtain ⟨n, hn⟩ : ∃ n, l.length = n := ⟨_, rfl⟩
  rw [hn] at hmx HX ⊢
  have HN := Lib.hid hn
  clear hn
  unfold maxLen at hmx
  refine (callsIn_wide (n := 9)).1 ?_
  refine callsIn_of_wp_marks Try.func3 rfl trivial ?_ rfl
  simp only [Try.ntmps3, List.size_toArray, List.length_cons, List.length_nil, Nat.reduceAdd, Nat.reduceSub, Array.replicate_succ, Array.replicate_zero, List.push_toArray, List.append_toArray, List.nil_append, List.cons_append]
  have b0 := ((Blk.new w #[.int .i64 a] 2).alloc (.cells #[.int .i64 a] 2)).alloc (.cells #[.bool false] 4)
  have b1 := (Blk.new (w.alloc (.cells #[.int .i64 a] 2)) #[.int .i64 a] 2).alloc (.cells #[.bool false] 4)
  have b2 := Blk.new ((w.alloc (.cells #[.int .i64 a] 2)).alloc (.cells #[.int .i64 a] 2)) #[.bool false] 4
  have hK0 := (((Kept.refl [] w).alloc (.cells #[.int .i64 a] 2)).alloc (.cells #[.int .i64 a] 2)).alloc (.cells #[.bool false] 4)
  have hsz : (((w.alloc (.cells #[.int .i64 a] 2)).alloc (.cells #[.int .i64 a] 2)).alloc (.cells #[.bool false] 4)).heap.size = w.heap.size + 3 := by simp
  simp only [World.size_alloc] at b1 b2
  gi_wp2_with fail
  obtain ⟨W0, hW0⟩ : ∃ W0, ((w.alloc (.cells #[.int .i64 a] 2)).alloc (.cells #[.int .i64 a] 2)).alloc (.cells #[.bool false] 4) = W0 := ⟨_, rfl⟩
  rw [hW0] at b0 b1 b2 hK0 hsz ⊢
  have HB0 := Lib.hid b0
  have HB1 := Lib.hid b1
  have HB2 := Lib.hid b2
  clear hW0 b0 b1 b2
  refine ⟨trivial, (callsIn_wide.2 (new_any 16384 _ (by omega))).mono ?_⟩
  rintro e w1 ⟨rfl, hs1, hK1⟩
  obtain ⟨sb, hsb⟩ : ∃ sb, W0.heap.size = sb := ⟨_, rfl⟩
  rw [hsb] at hs1 ⊢
  have hF1 : ∀ z ∈ [sb], W0.heap.size ≤ z := by simp; omega
  have hsbb : W0.heap.size ≤ sb := by omega
  clear hsb
  gi_wp2_with fail
  refine ⟨trivial, (callsIn_wide.2 (live_any _)).mono ?_⟩
  rintro e w2 ⟨rfl, hk2⟩
  have hs2 := hs1.keep hk2
  have hK2 := hK1.trans hk2
  clear hs1 hK1 hk2
  gi_wp2_with fail
  gi_loopw [27] (fun i wr => ∃ (k : Nat) (F : List Nat) (L : List Th), i = .int .i64 k ∧ k ≤ n ∧ Sh wr F sb 16384 L ∧ (∀ z ∈ F, W0.heap.size ≤ z) ∧ Kept [] W0 wr) (fun i _ => n - (intOf i).toNat)
  case atStart => exact ⟨0, _, [], rfl, by omega, hs2, hF1, hK2⟩
  case round =>
    obtain ⟨k, F, L, rfl, hk, hs, hF, hK⟩ := hrel
    by_cases hlt : k < n
    · obtain ⟨⟨d, ⟨x1, x2⟩, xt, at'⟩, ho⟩ : ∃ o, l[k]? = some o := ⟨_, List.getElem?_eq_getElem (by rw [HN.out]; exact hlt)⟩
      obtain ⟨A', c', he, _, hcell⟩ := HX.out.keep (hK0.trans hK)
      obtain ⟨bb, off, rfl, hcc⟩ := hcell (by rintro rfl; simp at ho)
      injection he with he1 he2 he3
      subst he1 he3
      have e0 := hcc k _ ho 0 (by omega)
      have e1 := hcc k _ ho 1 (by omega)
      have e2 := hcc k _ ho 2 (by omega)
      have e3 := hcc k _ ho 3 (by omega)
      have e4 := hcc k _ ho 4 (by omega)
      simp [opCells] at e0 e1 e2 e3 e4
      have hka := (Kept.refl [] wr).alloc (.cells #[.int .i64 d, .int .i64 x1, .int .i64 x2, .string xt, .int .i64 at'] 31)
      have PU := Lib.hid (put_any F sb 16384 L (x1, x2, xt) _ (hs.keep hka))
      have hwj : IntKind.i64.wrap ((k : Int) + 1) = ((k + 1 : Nat) : Int) := by unfold IntKind.wrap; simp [IntKind.signed, IntKind.bits]; omega
      have HKA := Lib.hid hka
      have HWJ := Lib.hid hwj
      clear hcc ho hcell he2 hka hs2 hwj
      gi_wp2_with fail
      refine ⟨trivial, (callsIn_wide.2 PU.out).mono ?_⟩
      rintro e w3 ⟨rfl, hk3, F3, hs3, hF3⟩
      obtain ⟨hK3, hF3'⟩ := step_sh (hK.trans HKA.out) hF hk3 hF3
      clear hs hK hF hk3 hF3
      gi_wp2_with fail
      go_roundw
      case rel => exact ⟨k + 1, F3, _, by go_num, by omega, hs3, hF3', hK3⟩
      case measure => simp [intOf]; omega
    · have hsbF : sb ∈ F := by obtain ⟨_, _, _, lv, _, _, hFF, _⟩ := hs; simp [hFF]
      obtain ⟨w3, rfl⟩ : ∃ x, x = wr := ⟨_, rfl⟩
      clear hs2 hK2
      gi_wp2_with fail
      refine ⟨trivial, (callsIn_wide.2 (clone_any F sb 16384 L _ hs (by decide))).mono ?_⟩
      rintro e w4 ⟨tb, G4, rfl, ht4, hG4, hk4⟩
      have hs4 := hs.keep hk4
      have hK4 := hK.trans hk4
      have htG : tb ∈ G4 := by obtain ⟨_, _, _, lv, _, _, hFF, _⟩ := ht4; simp [hFF]
      have hts : ∀ z ∈ F, z ∉ G4 := fun z hz hz2 => by have := hG4 z hz2; have := hs.lt z hz; omega
      have htb := hG4 tb htG
      have hsbl := hs.lt sb hsbF
      have hsz3 : W0.heap.size ≤ w3.heap.size := hK.size
      clear hs hK hk4
      have a4 := (HB0.out.kept hK4 (by simp)).cell 0
      have b4 := (HB1.out.kept hK4 (by simp)).cell 0
      simp at a4 b4
      gi_wp2_with fail
      refine ⟨trivial, (callsIn_wide.2 (clear_any F sb 16384 L a _ hs4)).mono ?_⟩
      rintro e w5 ⟨rfl, hk5, F5, hs5, hF5⟩
      have ht5 := ht4.kept hk5 (fun z hz => by simp; rintro rfl; exact hts _ hsbF hz)
      have hF5t : ∀ z ∈ F5, z = sb ∨ w4.heap.size ≤ z := hF5
      have hs45 := hk5.size
      obtain ⟨hK5, hF5'⟩ := step_take hK4 hsbb hk5 hF5
      have a5 := (HB0.out.kept hK5 (by simp)).cell 0
      have b5 := (HB1.out.kept hK5 (by simp)).cell 0
      simp at a5 b5
      have htl4 := ht4.lt
      clear hs4 ht4 hk5 hF5 a4 b4
      gi_wp2_with fail
      refine ⟨trivial, (callsIn_wide.2 (clear_any F5 sb 16384 _ a _ hs5)).mono ?_⟩
      rintro e w6 ⟨rfl, hk6, F6, hs6, hF6⟩
      rw [left_left (by omega)] at hs6
      have htsb : ∀ z ∈ G4, z ≠ sb := fun z hz e => by subst e; exact hts _ hsbF hz
      have ht6 := ht5.kept hk6 (fun z hz => by simpa using htsb z hz)
      obtain ⟨hK6, hF6'⟩ := step_take hK5 hsbb hk6 hF6
      have a6 := (HB0.out.kept hK6 (by simp)).cell 0
      have b6 := (HB1.out.kept hK6 (by simp)).cell 0
      simp at a6 b6
      have hF6t : tb ∉ F6 := fun h => by
        rcases hF6 tb h with h1 | h1
        · exact htsb tb htG h1
        · have := htl4 tb htG; omega
      have hF6n : ∀ z ∈ F6, z = sb ∨ w5.heap.size ≤ z := hF6
      clear hs5 ht5 hk6 hF6 a5 b5 hF5t
      gi_wp2_with fail
      refine ⟨trivial, (callsIn_wide.2 (clear_any G4 tb 16384 L a _ ht6)).mono ?_⟩
      rintro e w7 ⟨rfl, hk7, G7, ht7, hG7⟩
      have hs7 := hs6.kept hk7 (fun z hz => by simp; rintro rfl; exact hF6t hz)
      obtain ⟨hK7, hG7'⟩ := step_take hK6 (by omega) hk7 hG7
      clear hs6 ht6 hk7 hG7 a6 b6 hK6 hK5
      obtain ⟨M, hM⟩ : ∃ M, leftOf (below a) L = M := ⟨_, rfl⟩
      rw [hM] at hs7 ht7
      have hge : ∀ x ∈ M, ¬ x.1 < a := fun x hx => left_ge (by rw [hM]; exact hx)
      have HGE := Lib.hid hge
      clear hM hge
      gi_wp2_with fail
      refine ⟨trivial, (callsIn_wide.2 (all_sharp _ _)).mono ?_⟩
      rintro e w8 ⟨rfl, rfl⟩
      gi_wp2_with fail
      have hka := (Kept.refl [] w7).alloc (.cells #[.slice none 0 0] 35)
      have hkb := hka.alloc (.cells #[.pointer (some ⟨tb, 0, none⟩)] 23)
      have bT0 := (Blk.new w7 #[.slice none 0 0] 35).alloc (.cells #[.pointer (some ⟨tb, 0, none⟩)] 23)
      have cS0 := (Blk.new (w7.alloc (.cells #[.slice none 0 0] 35)) #[.pointer (some ⟨tb, 0, none⟩)] 23).cell 0
      simp only [World.size_alloc] at cS0
      obtain ⟨X0, hX0⟩ : ∃ X0, (w7.alloc (.cells #[.slice none 0 0] 35)).alloc (.cells #[.pointer (some ⟨tb, 0, none⟩)] 23) = X0 := ⟨_, rfl⟩
      have hsX0 : X0.heap.size = w7.heap.size + 2 := by rw [← hX0]; simp
      rw [hX0] at hkb bT0 cS0 ⊢
      have hK8 := hK7.trans hkb
      have hs8 := hs7.keep hkb
      have ht8 := ht7.keep hkb
      obtain ⟨TW, hTW⟩ : ∃ TW, w7.heap.size = TW := ⟨_, rfl⟩
      rw [hTW] at bT0 cS0 hsX0 ⊢
      have hMl : M.length ≤ 16384 := by obtain ⟨_, _, h, _⟩ := ht8; exact h
      have hs70 := hK7.size
      have hF6l : ∀ z ∈ F6, z ≠ TW := fun z hz => by have := hs7.lt z hz; omega
      clear hX0 hka hkb hs7 ht7 hK7
      refine wpIn_rangeFunc_A (by omega) (gf := 32) (lb := #[.pointer (some ⟨TW + 1, 0, none⟩)]) rfl (enters_of Try.func32 (by kernel_rfl) rfl)
        (all1_gen KeptT 8 (by omega) (TW + 1) G7 tb 16384 M X0 ht8 cS0 (fun A B h => ⟨h.size, fun k cs _ hk => h.row k cs hk⟩)) KeptT.trans (fun W l o o' _ h hc _ => KeptT.putObj h hc) (Below.refl _ _) (fun _ => rfl)
        (Coll X0 TW) (StopLow a) (Coll.own X0 TW) (fun cc _ _ _ _ hs _ _ => hs) ⟨⟨_, bT0, World.ownsRow_nil _ _ _ _⟩, Kept.refl _ _⟩
        (fun T x a' X => ∃ Bx, TW + 1 < Bx ∧ Blk X Bx #[.int .i64 x.1, .int .i64 x.2.1] 29 ∧ a' = { tmps := (((T.setIfInBounds 57 (.agg #[.int .i64 x.1, .int .i64 x.2.1])).setIfInBounds 58 (.string x.2.2)).setIfInBounds 13 (.pointer (some ⟨Bx, 0, none⟩))).setIfInBounds 14 (.string x.2.2), defers := [] })
        (fun T x a' _ X Y row hs hg hr => by obtain ⟨Bx, h1, h2, h3⟩ := hs; exact ⟨Bx, h1, blk_turned h2 hg (fun r e => (hr r e).2), h3⟩) ?assign ?body ?done ?stop
      case assign =>
        rintro l2 pre x X K ⟨⟨vv, h1, h2⟩, h3⟩ hK
        have hsX := h3.size
        dsimp only [encT]
        gi_wp2
        have k1 := (Kept.refl [] X).alloc (.cells #[.int .i64 x.1, .int .i64 x.2.1] 29)
        refine hK _ _ (Kept.from k1 _ (by simp)) (KeptT.of k1 (by simp)) ⟨⟨vv, h1.alloc _, ownsRow_keep h2 k1 (by simp)⟩, h3.trans k1.nil⟩ ⟨X.heap.size, by omega, Blk.new X _ _, ?_⟩
        simp
      case body =>
        rintro l2 pre ⟨x1, x2, xt⟩ a' X hl2 ⟨rr, hrr⟩ ⟨⟨vv, h1, h2⟩, h3⟩ ⟨Bx, hBx, bX, rfl⟩ hlt
        simp only [List.setIfInBounds_toArray, List.set_cons_succ, List.set_cons_zero]
        obtain ⟨i0, z0, hi0, hz0, hz1, hz2, hz3⟩ := thingInfo
        obtain ⟨A9, c9, rfl⟩ := own_len h2
        have hsX := h3.size
        have d0 := (HB0.out.kept hK8 (by simp)).kept h3 (by simp; omega)
        have d1 := (HB1.out.kept hK8 (by simp)).kept h3 (by simp; omega)
        have d2 := (HB2.out.kept hK8 (by simp)).kept h3 (by simp; omega)
        have cT := h1.cell 0
        have cx0 := bX.cell 0
        have cx1 := bX.cell 1
        simp at cT cx0 cx1
        have hob : ∀ z, z < X0.heap.size ∨ z = Bx → z ∉ (Value.slice A9 pre.length c9).ownBlock.toList := fun z hz hz2 => by
          have hz3 : (Value.slice A9 pre.length c9).ownBlock = some z := by simpa using hz2
          rcases hz with hz | hz
          · have := (h2.lt z hz3).1; omega
          · rcases h2.2 with ⟨h0, _⟩ | ⟨g, cap, cur, hv, _, hg, _⟩
            · rw [h0] at hz3; cases hz3
            · rw [hv] at hz3
              have e : g = z := Option.some.inj hz3
              rw [e, hz] at hg
              unfold Blk at bX
              rw [bX] at hg
              cases hg
        have HOB := Lib.hid hob
        have HH1 := Lib.hid h1
        have HH2 := Lib.hid h2
        have HH3 := Lib.hid h3
        obtain ⟨pl, hpl⟩ : ∃ pl, pre.length = pl := ⟨_, rfl⟩
        have HPL := Lib.hid hpl
        rw [hpl] at cT hlt HOB HH1 HH2
        have HD0 := Lib.hid d0
        have HD1 := Lib.hid d1
        have HD2 := Lib.hid d2
        have HBX := Lib.hid bX
        clear hpl hob h1 h2 h3 d0 d1 d2 bX
        gi_wp2_with (gi_at_builtin; refine wpListIn_append_own _ rfl _ _ 35 rfl X0.heap.size 40 i0 z0 3 32 Try.underlying35 hi0 hz0 hz1 hz2 hz3 (by decide) (.slice A9 pl c9) pl (cellsT pre) rfl (ownsRow_keep HH2.out ((Kept.refl [] X).alloc _) (by simp)) ⟨X.heap.size, 0, none⟩ 1 1 [.int .i64 x1, .int .i64 x2, .string xt] rfl rfl (cell_three_new _ _ _ _ _) (by simp [Value.oneCell']) (by unfold maxLen; omega) (by omega) (by simp; omega) ?_; intro v' w1 hown' hgrow _; obtain ⟨A5, c5, rfl⟩ := own_len hown'; have hk1 := Kept.grownOwn (v := .slice A9 pl c9) ((Kept.refl [] X).alloc _) hgrow; have t1 := HH1.out.kept hk1 (HOB.out _ (.inl (by omega))); have u1 := t1.cell 0; have uf := t1.free 0; have v0 := ((HD0.out.kept hk1 (HOB.out _ (.inl (by omega)))).set_other (p := ⟨TW, 0, none⟩) (by simp; omega) (.slice A5 (pl + 1) c5)).cell 0; have v1 := ((HD1.out.kept hk1 (HOB.out _ (.inl (by omega)))).set_other (p := ⟨TW, 0, none⟩) (by simp; omega) (.slice A5 (pl + 1) c5)).cell 0; have v2 := ((HD2.out.kept hk1 (HOB.out _ (.inl (by omega)))).set_other (p := ⟨TW, 0, none⟩) (by simp; omega) (.slice A5 (pl + 1) c5)).cell 0; have vf := ((HD2.out.kept hk1 (HOB.out _ (.inl (by omega)))).set_other (p := ⟨TW, 0, none⟩) (by simp; omega) (.slice A5 (pl + 1) c5)).free 0; have v3 := ((HBX.out.kept hk1 (HOB.out _ (.inr rfl))).set_other (p := ⟨TW, 0, none⟩) (by simp; omega) (.slice A5 (pl + 1) c5)).cell 0; simp at u1 v0 v1 v2 v3; have HOWN := Lib.hid hown'; have HK1 := Lib.hid hk1; clear hown' hgrow hk1 t1)
        all_goals obtain ⟨q1, q2, q3, q4⟩ := coll_step (by omega) HH1.out HH2.out HH3.out HK1.out (x := (x1, x2, xt)) HOWN.out HPL.out
        · refine ⟨(q2 _).trans ((KeepsOthers.setCell _ _ _).from _), rfl, (x1, x2, xt), by simp, ?_⟩
          dsimp only
          omega
        · exact ⟨q2 _, q3, q4⟩
      case stop =>
        rintro D cc pre X hD hpre ⟨rfl, x, hx, hlt⟩ hK
        have := HGE.out x (hpre.subset hx)
        omega
      case done =>
        rintro D ys X hD rfl ⟨⟨vv, h1, h2⟩, h3⟩ hK
        have cT := h1.cell 0
        simp at cT
        have hsX := hs8.kept h3 (fun z hz => by simpa using hF6l z hz)
        have hrd := (RdT.of_own h2 hMl).1
        have d2 := (HB2.out.kept hK8 (by simp)).kept h3 (by simp; omega)
        have hKX : Kept [] W0 X := hK8.after h3 (by simp; omega)
        have HRD := Lib.hid hrd
        have HD2 := Lib.hid d2
        have HDK := Lib.hid hK
        obtain ⟨A9, c9, rfl⟩ := own_len h2
        clear h1 h2 h3 hrd d2 hs8 ht8 hK
        have hmo : Try.prog.follows .mixedOrders = true := by kernel_rfl
        gi_wp2_with fail
        refine wpIn_mono (Q := onlyNormal _) ?_ onlyNormal_imp
        gi_region_with_o (first
          | (refine ⟨trivial, ?_⟩; gi_at_call 11; refine (callsIn_wide.2 (all_any F6 sb 16384 _ _ (hsX.keep (by first | exact Kept.refl [] X | exact (Kept.refl [] X).drew | exact (Kept.refl [] X).drewN _)))).mono ?_; rintro e w9 ⟨v9, rfl, hit9, hk9⟩; have hk9' : Kept [] X w9 := Kept.trans (by first | exact Kept.refl [] X | exact (Kept.refl [] X).drew | exact (Kept.refl [] X).drewN _) hk9; have cT9 := hk9'.cell (by simp) cT; clear hk9)
          | (refine ⟨trivial, ?_⟩; gi_at_call 12; refine (callsIn_wide.2 (tells_any v9 _ _ 0 _ hit9 (HRD.out.keep hk9'))).mono ?_; rintro e w10 ⟨rfl, hk10⟩; have hk11 := hk9'.trans hk10; have r2 := (HD2.out.kept hk11 (by simp)).cell 0; have f2 := (HD2.out.kept hk11 (by simp)).free 0; simp at r2))
        all_goals unfold onlyNormal
        all_goals
          gi_wp2_with fail
          have hDl := (Array.getElem?_eq_some_iff.1 HDK.out).1
          have bR := (HD2.out.kept hk11 (by simp))
          have hK' := (KeepsOthers.setCell w10 ⟨w.heap.size + 1 + 1, 0, none⟩ (.bool true)).same D _ ((hk11.block D hDl (by simp)).trans HDK.out) rfl
          refine ⟨by simp, .inl ⟨_, _, rfl, run_takeDeferred hK', ?_⟩⟩
          have hc5 := cell_kept ((show Boxed w10 _ _ _ from bR).set (.bool true)).cell (grownBy_putObj' _ D (.deferred none)) (fun r e => by cases e; exact ⟨_, hK', rfl⟩)
          have hKF := (((hK0.trans hKX).trans hk11).setCell (p := ⟨w.heap.size + 1 + 1, 0, none⟩) (.inr (by simp; omega)) (.bool true))
          refine ⟨.bool true, ?_, rfl, Kept.of_below (hKF.below.trans (belowK_b (w := w) (Nat.le_refl _) _ D _ _ (by omega) hK' rfl rfl))⟩
          simp [results, Try.f3, go_sem, hc5]

set_option maxRecDepth 100000 in
set_option maxHeartbeats 8000000 in
theorem shelfClears_gt (w : World) (v : Value) (l : List Opn) (a b : Int) (hab : b < a) (hx : RdO w v l) :
    Calls Try.prog 3 #[v, .int .i64 a, .int .i64 b] w fun e w' => e = .returned (.bool true) ∧ Kept [] w w' := by
  have HX := Lib.hid hx
  obtain ⟨A, c, rfl, hmx, hx⟩ := hx
  clear hx
  obtain ⟨n, hn⟩ : ∃ n, l.length = n := ⟨_, rfl⟩
  rw [hn] at hmx HX ⊢
  have HN := Lib.hid hn
  clear hn
  unfold maxLen at hmx
  refine (callsIn_wide (n := 9)).1 ?_
  refine callsIn_of_wp_marks Try.func3 rfl trivial ?_ rfl
  simp only [Try.ntmps3, List.size_toArray, List.length_cons, List.length_nil, Nat.reduceAdd, Nat.reduceSub, Array.replicate_succ, Array.replicate_zero, List.push_toArray, List.append_toArray, List.nil_append, List.cons_append]
  have b0 := ((Blk.new w #[.int .i64 a] 2).alloc (.cells #[.int .i64 b] 2)).alloc (.cells #[.bool false] 4)
  have b1 := (Blk.new (w.alloc (.cells #[.int .i64 a] 2)) #[.int .i64 b] 2).alloc (.cells #[.bool false] 4)
  have b2 := Blk.new ((w.alloc (.cells #[.int .i64 a] 2)).alloc (.cells #[.int .i64 b] 2)) #[.bool false] 4
  have hK0 := (((Kept.refl [] w).alloc (.cells #[.int .i64 a] 2)).alloc (.cells #[.int .i64 b] 2)).alloc (.cells #[.bool false] 4)
  have hsz : (((w.alloc (.cells #[.int .i64 a] 2)).alloc (.cells #[.int .i64 b] 2)).alloc (.cells #[.bool false] 4)).heap.size = w.heap.size + 3 := by simp
  simp only [World.size_alloc] at b1 b2
  gi_wp2_with fail
  obtain ⟨W0, hW0⟩ : ∃ W0, ((w.alloc (.cells #[.int .i64 a] 2)).alloc (.cells #[.int .i64 b] 2)).alloc (.cells #[.bool false] 4) = W0 := ⟨_, rfl⟩
  rw [hW0] at b0 b1 b2 hK0 hsz ⊢
  have HB0 := Lib.hid b0
  have HB1 := Lib.hid b1
  have HB2 := Lib.hid b2
  clear hW0 b0 b1 b2
  refine ⟨trivial, (callsIn_wide.2 (new_any 16384 _ (by omega))).mono ?_⟩
  rintro e w1 ⟨rfl, hs1, hK1⟩
  obtain ⟨sb, hsb⟩ : ∃ sb, W0.heap.size = sb := ⟨_, rfl⟩
  rw [hsb] at hs1 ⊢
  have hF1 : ∀ z ∈ [sb], W0.heap.size ≤ z := by simp; omega
  have hsbb : W0.heap.size ≤ sb := by omega
  clear hsb
  gi_wp2_with fail
  refine ⟨trivial, (callsIn_wide.2 (live_any _)).mono ?_⟩
  rintro e w2 ⟨rfl, hk2⟩
  have hs2 := hs1.keep hk2
  have hK2 := hK1.trans hk2
  clear hs1 hK1 hk2
  gi_wp2_with fail
  gi_loopw [27] (fun i wr => ∃ (k : Nat) (F : List Nat) (L : List Th), i = .int .i64 k ∧ k ≤ n ∧ Sh wr F sb 16384 L ∧ (∀ z ∈ F, W0.heap.size ≤ z) ∧ Kept [] W0 wr) (fun i _ => n - (intOf i).toNat)
  case atStart => exact ⟨0, _, [], rfl, by omega, hs2, hF1, hK2⟩
  case round =>
    obtain ⟨k, F, L, rfl, hk, hs, hF, hK⟩ := hrel
    by_cases hlt : k < n
    · obtain ⟨⟨d, ⟨x1, x2⟩, xt, at'⟩, ho⟩ : ∃ o, l[k]? = some o := ⟨_, List.getElem?_eq_getElem (by rw [HN.out]; exact hlt)⟩
      obtain ⟨A', c', he, _, hcell⟩ := HX.out.keep (hK0.trans hK)
      obtain ⟨bb, off, rfl, hcc⟩ := hcell (by rintro rfl; simp at ho)
      injection he with he1 he2 he3
      subst he1 he3
      have e0 := hcc k _ ho 0 (by omega)
      have e1 := hcc k _ ho 1 (by omega)
      have e2 := hcc k _ ho 2 (by omega)
      have e3 := hcc k _ ho 3 (by omega)
      have e4 := hcc k _ ho 4 (by omega)
      simp [opCells] at e0 e1 e2 e3 e4
      have hka := (Kept.refl [] wr).alloc (.cells #[.int .i64 d, .int .i64 x1, .int .i64 x2, .string xt, .int .i64 at'] 31)
      have PU := Lib.hid (put_any F sb 16384 L (x1, x2, xt) _ (hs.keep hka))
      have hwj : IntKind.i64.wrap ((k : Int) + 1) = ((k + 1 : Nat) : Int) := by unfold IntKind.wrap; simp [IntKind.signed, IntKind.bits]; omega
      have HKA := Lib.hid hka
      have HWJ := Lib.hid hwj
      clear hcc ho hcell he2 hka hs2 hwj
      gi_wp2_with fail
      refine ⟨trivial, (callsIn_wide.2 PU.out).mono ?_⟩
      rintro e w3 ⟨rfl, hk3, F3, hs3, hF3⟩
      obtain ⟨hK3, hF3'⟩ := step_sh (hK.trans HKA.out) hF hk3 hF3
      clear hs hK hF hk3 hF3
      gi_wp2_with fail
      go_roundw
      case rel => exact ⟨k + 1, F3, _, by go_num, by omega, hs3, hF3', hK3⟩
      case measure => simp [intOf]; omega
    · have hsbF : sb ∈ F := by obtain ⟨_, _, _, lv, _, _, hFF, _⟩ := hs; simp [hFF]
      obtain ⟨w3, rfl⟩ : ∃ x, x = wr := ⟨_, rfl⟩
      clear hs2 hK2
      gi_wp2_with fail
      refine ⟨trivial, (callsIn_wide.2 (clone_any F sb 16384 L _ hs (by decide))).mono ?_⟩
      rintro e w4 ⟨tb, G4, rfl, ht4, hG4, hk4⟩
      have hs4 := hs.keep hk4
      have hK4 := hK.trans hk4
      have htG : tb ∈ G4 := by obtain ⟨_, _, _, lv, _, _, hFF, _⟩ := ht4; simp [hFF]
      have hts : ∀ z ∈ F, z ∉ G4 := fun z hz hz2 => by have := hG4 z hz2; have := hs.lt z hz; omega
      have htb := hG4 tb htG
      have hsbl := hs.lt sb hsbF
      have hsz3 : W0.heap.size ≤ w3.heap.size := hK.size
      clear hs hK hk4
      have a4 := (HB0.out.kept hK4 (by simp)).cell 0
      have b4 := (HB1.out.kept hK4 (by simp)).cell 0
      simp at a4 b4
      gi_wp2_with fail
      refine ⟨trivial, (callsIn_wide.2 (clear_any F sb 16384 L b _ hs4)).mono ?_⟩
      rintro e w5 ⟨rfl, hk5, F5, hs5, hF5⟩
      have ht5 := ht4.kept hk5 (fun z hz => by simp; rintro rfl; exact hts _ hsbF hz)
      have hF5t : ∀ z ∈ F5, z = sb ∨ w4.heap.size ≤ z := hF5
      have hs45 := hk5.size
      obtain ⟨hK5, hF5'⟩ := step_take hK4 hsbb hk5 hF5
      have a5 := (HB0.out.kept hK5 (by simp)).cell 0
      have b5 := (HB1.out.kept hK5 (by simp)).cell 0
      simp at a5 b5
      have htl4 := ht4.lt
      clear hs4 ht4 hk5 hF5 a4 b4
      gi_wp2_with fail
      refine ⟨trivial, (callsIn_wide.2 (clear_any F5 sb 16384 _ a _ hs5)).mono ?_⟩
      rintro e w6 ⟨rfl, hk6, F6, hs6, hF6⟩
      rw [left_left (by omega)] at hs6
      have htsb : ∀ z ∈ G4, z ≠ sb := fun z hz e => by subst e; exact hts _ hsbF hz
      have ht6 := ht5.kept hk6 (fun z hz => by simpa using htsb z hz)
      obtain ⟨hK6, hF6'⟩ := step_take hK5 hsbb hk6 hF6
      have a6 := (HB0.out.kept hK6 (by simp)).cell 0
      have b6 := (HB1.out.kept hK6 (by simp)).cell 0
      simp at a6 b6
      have hF6t : tb ∉ F6 := fun h => by
        rcases hF6 tb h with h1 | h1
        · exact htsb tb htG h1
        · have := htl4 tb htG; omega
      have hF6n : ∀ z ∈ F6, z = sb ∨ w5.heap.size ≤ z := hF6
      clear hs5 ht5 hk6 hF6 a5 b5 hF5t
      gi_wp2_with fail
      refine ⟨trivial, (callsIn_wide.2 (clear_any G4 tb 16384 L a _ ht6)).mono ?_⟩
      rintro e w7 ⟨rfl, hk7, G7, ht7, hG7⟩
      have hs7 := hs6.kept hk7 (fun z hz => by simp; rintro rfl; exact hF6t hz)
      obtain ⟨hK7, hG7'⟩ := step_take hK6 (by omega) hk7 hG7
      clear hs6 ht6 hk7 hG7 a6 b6 hK6 hK5
      obtain ⟨M, hM⟩ : ∃ M, leftOf (below a) L = M := ⟨_, rfl⟩
      rw [hM] at hs7 ht7
      have hge : ∀ x ∈ M, ¬ x.1 < a := fun x hx => left_ge (by rw [hM]; exact hx)
      have HGE := Lib.hid hge
      clear hM hge
      gi_wp2_with fail
      refine ⟨trivial, (callsIn_wide.2 (all_sharp _ _)).mono ?_⟩
      rintro e w8 ⟨rfl, rfl⟩
      gi_wp2_with fail
      have hka := (Kept.refl [] w7).alloc (.cells #[.slice none 0 0] 35)
      have hkb := hka.alloc (.cells #[.pointer (some ⟨tb, 0, none⟩)] 23)
      have bT0 := (Blk.new w7 #[.slice none 0 0] 35).alloc (.cells #[.pointer (some ⟨tb, 0, none⟩)] 23)
      have cS0 := (Blk.new (w7.alloc (.cells #[.slice none 0 0] 35)) #[.pointer (some ⟨tb, 0, none⟩)] 23).cell 0
      simp only [World.size_alloc] at cS0
      obtain ⟨X0, hX0⟩ : ∃ X0, (w7.alloc (.cells #[.slice none 0 0] 35)).alloc (.cells #[.pointer (some ⟨tb, 0, none⟩)] 23) = X0 := ⟨_, rfl⟩
      have hsX0 : X0.heap.size = w7.heap.size + 2 := by rw [← hX0]; simp
      rw [hX0] at hkb bT0 cS0 ⊢
      have hK8 := hK7.trans hkb
      have hs8 := hs7.keep hkb
      have ht8 := ht7.keep hkb
      obtain ⟨TW, hTW⟩ : ∃ TW, w7.heap.size = TW := ⟨_, rfl⟩
      rw [hTW] at bT0 cS0 hsX0 ⊢
      have hMl : M.length ≤ 16384 := by obtain ⟨_, _, h, _⟩ := ht8; exact h
      have hs70 := hK7.size
      have hF6l : ∀ z ∈ F6, z ≠ TW := fun z hz => by have := hs7.lt z hz; omega
      clear hX0 hka hkb hs7 ht7 hK7
      refine wpIn_rangeFunc_A (by omega) (gf := 32) (lb := #[.pointer (some ⟨TW + 1, 0, none⟩)]) rfl (enters_of Try.func32 (by kernel_rfl) rfl)
        (all1_gen KeptT 8 (by omega) (TW + 1) G7 tb 16384 M X0 ht8 cS0 (fun A B h => ⟨h.size, fun k cs _ hk => h.row k cs hk⟩)) KeptT.trans (fun W l o o' _ h hc _ => KeptT.putObj h hc) (Below.refl _ _) (fun _ => rfl)
        (Coll X0 TW) (StopLow a) (Coll.own X0 TW) (fun cc _ _ _ _ hs _ _ => hs) ⟨⟨_, bT0, World.ownsRow_nil _ _ _ _⟩, Kept.refl _ _⟩
        (fun T x a' X => ∃ Bx, TW + 1 < Bx ∧ Blk X Bx #[.int .i64 x.1, .int .i64 x.2.1] 29 ∧ a' = { tmps := (((T.setIfInBounds 57 (.agg #[.int .i64 x.1, .int .i64 x.2.1])).setIfInBounds 58 (.string x.2.2)).setIfInBounds 13 (.pointer (some ⟨Bx, 0, none⟩))).setIfInBounds 14 (.string x.2.2), defers := [] })
        (fun T x a' _ X Y row hs hg hr => by obtain ⟨Bx, h1, h2, h3⟩ := hs; exact ⟨Bx, h1, blk_turned h2 hg (fun r e => (hr r e).2), h3⟩) ?assign ?body ?done ?stop
      case assign =>
        rintro l2 pre x X K ⟨⟨vv, h1, h2⟩, h3⟩ hK
        have hsX := h3.size
        dsimp only [encT]
        gi_wp2
        have k1 := (Kept.refl [] X).alloc (.cells #[.int .i64 x.1, .int .i64 x.2.1] 29)
        refine hK _ _ (Kept.from k1 _ (by simp)) (KeptT.of k1 (by simp)) ⟨⟨vv, h1.alloc _, ownsRow_keep h2 k1 (by simp)⟩, h3.trans k1.nil⟩ ⟨X.heap.size, by omega, Blk.new X _ _, ?_⟩
        simp
      case body =>
        rintro l2 pre ⟨x1, x2, xt⟩ a' X hl2 ⟨rr, hrr⟩ ⟨⟨vv, h1, h2⟩, h3⟩ ⟨Bx, hBx, bX, rfl⟩ hlt
        simp only [List.setIfInBounds_toArray, List.set_cons_succ, List.set_cons_zero]
        obtain ⟨i0, z0, hi0, hz0, hz1, hz2, hz3⟩ := thingInfo
        obtain ⟨A9, c9, rfl⟩ := own_len h2
        have hsX := h3.size
        have d0 := (HB0.out.kept hK8 (by simp)).kept h3 (by simp; omega)
        have d1 := (HB1.out.kept hK8 (by simp)).kept h3 (by simp; omega)
        have d2 := (HB2.out.kept hK8 (by simp)).kept h3 (by simp; omega)
        have cT := h1.cell 0
        have cx0 := bX.cell 0
        have cx1 := bX.cell 1
        simp at cT cx0 cx1
        have hob : ∀ z, z < X0.heap.size ∨ z = Bx → z ∉ (Value.slice A9 pre.length c9).ownBlock.toList := fun z hz hz2 => by
          have hz3 : (Value.slice A9 pre.length c9).ownBlock = some z := by simpa using hz2
          rcases hz with hz | hz
          · have := (h2.lt z hz3).1; omega
          · rcases h2.2 with ⟨h0, _⟩ | ⟨g, cap, cur, hv, _, hg, _⟩
            · rw [h0] at hz3; cases hz3
            · rw [hv] at hz3
              have e : g = z := Option.some.inj hz3
              rw [e, hz] at hg
              unfold Blk at bX
              rw [bX] at hg
              cases hg
        have HOB := Lib.hid hob
        have HH1 := Lib.hid h1
        have HH2 := Lib.hid h2
        have HH3 := Lib.hid h3
        obtain ⟨pl, hpl⟩ : ∃ pl, pre.length = pl := ⟨_, rfl⟩
        have HPL := Lib.hid hpl
        rw [hpl] at cT hlt HOB HH1 HH2
        have HD0 := Lib.hid d0
        have HD1 := Lib.hid d1
        have HD2 := Lib.hid d2
        have HBX := Lib.hid bX
        clear hpl hob h1 h2 h3 d0 d1 d2 bX
        gi_wp2_with (gi_at_builtin; refine wpListIn_append_own _ rfl _ _ 35 rfl X0.heap.size 40 i0 z0 3 32 Try.underlying35 hi0 hz0 hz1 hz2 hz3 (by decide) (.slice A9 pl c9) pl (cellsT pre) rfl (ownsRow_keep HH2.out ((Kept.refl [] X).alloc _) (by simp)) ⟨X.heap.size, 0, none⟩ 1 1 [.int .i64 x1, .int .i64 x2, .string xt] rfl rfl (cell_three_new _ _ _ _ _) (by simp [Value.oneCell']) (by unfold maxLen; omega) (by omega) (by simp; omega) ?_; intro v' w1 hown' hgrow _; obtain ⟨A5, c5, rfl⟩ := own_len hown'; have hk1 := Kept.grownOwn (v := .slice A9 pl c9) ((Kept.refl [] X).alloc _) hgrow; have t1 := HH1.out.kept hk1 (HOB.out _ (.inl (by omega))); have u1 := t1.cell 0; have uf := t1.free 0; have v0 := ((HD0.out.kept hk1 (HOB.out _ (.inl (by omega)))).set_other (p := ⟨TW, 0, none⟩) (by simp; omega) (.slice A5 (pl + 1) c5)).cell 0; have v1 := ((HD1.out.kept hk1 (HOB.out _ (.inl (by omega)))).set_other (p := ⟨TW, 0, none⟩) (by simp; omega) (.slice A5 (pl + 1) c5)).cell 0; have v2 := ((HD2.out.kept hk1 (HOB.out _ (.inl (by omega)))).set_other (p := ⟨TW, 0, none⟩) (by simp; omega) (.slice A5 (pl + 1) c5)).cell 0; have vf := ((HD2.out.kept hk1 (HOB.out _ (.inl (by omega)))).set_other (p := ⟨TW, 0, none⟩) (by simp; omega) (.slice A5 (pl + 1) c5)).free 0; have v3 := ((HBX.out.kept hk1 (HOB.out _ (.inr rfl))).set_other (p := ⟨TW, 0, none⟩) (by simp; omega) (.slice A5 (pl + 1) c5)).cell 0; simp at u1 v0 v1 v2 v3; have HOWN := Lib.hid hown'; have HK1 := Lib.hid hk1; clear hown' hgrow hk1 t1)
        all_goals obtain ⟨q1, q2, q3, q4⟩ := coll_step (by omega) HH1.out HH2.out HH3.out HK1.out (x := (x1, x2, xt)) HOWN.out HPL.out
        · refine ⟨(q2 _).trans ((KeepsOthers.setCell _ _ _).from _), rfl, (x1, x2, xt), by simp, ?_⟩
          dsimp only
          omega
        · exact ⟨q2 _, q3, q4⟩
      case stop =>
        rintro D cc pre X hD hpre ⟨rfl, x, hx, hlt⟩ hK
        have := HGE.out x (hpre.subset hx)
        omega
      case done =>
        rintro D ys X hD rfl ⟨⟨vv, h1, h2⟩, h3⟩ hK
        have cT := h1.cell 0
        simp at cT
        have hsX := hs8.kept h3 (fun z hz => by simpa using hF6l z hz)
        have hrd := (RdT.of_own h2 hMl).1
        have d2 := (HB2.out.kept hK8 (by simp)).kept h3 (by simp; omega)
        have hKX : Kept [] W0 X := hK8.after h3 (by simp; omega)
        have HRD := Lib.hid hrd
        have HD2 := Lib.hid d2
        have HDK := Lib.hid hK
        obtain ⟨A9, c9, rfl⟩ := own_len h2
        clear h1 h2 h3 hrd d2 hs8 ht8 hK
        have hmo : Try.prog.follows .mixedOrders = true := by kernel_rfl
        gi_wp2_with fail
        refine wpIn_mono (Q := onlyNormal _) ?_ onlyNormal_imp
        gi_region_with_o (first
          | (refine ⟨trivial, ?_⟩; gi_at_call 11; refine (callsIn_wide.2 (all_any F6 sb 16384 _ _ (hsX.keep (by first | exact Kept.refl [] X | exact (Kept.refl [] X).drew | exact (Kept.refl [] X).drewN _)))).mono ?_; rintro e w9 ⟨v9, rfl, hit9, hk9⟩; have hk9' : Kept [] X w9 := Kept.trans (by first | exact Kept.refl [] X | exact (Kept.refl [] X).drew | exact (Kept.refl [] X).drewN _) hk9; have cT9 := hk9'.cell (by simp) cT; clear hk9)
          | (refine ⟨trivial, ?_⟩; gi_at_call 12; refine (callsIn_wide.2 (tells_any v9 _ _ 0 _ hit9 (HRD.out.keep hk9'))).mono ?_; rintro e w10 ⟨rfl, hk10⟩; have hk11 := hk9'.trans hk10; have r2 := (HD2.out.kept hk11 (by simp)).cell 0; have f2 := (HD2.out.kept hk11 (by simp)).free 0; simp at r2))
        all_goals unfold onlyNormal
        all_goals
          gi_wp2_with fail
          have hDl := (Array.getElem?_eq_some_iff.1 HDK.out).1
          have bR := (HD2.out.kept hk11 (by simp))
          have hK' := (KeepsOthers.setCell w10 ⟨w.heap.size + 1 + 1, 0, none⟩ (.bool true)).same D _ ((hk11.block D hDl (by simp)).trans HDK.out) rfl
          refine ⟨by simp, .inl ⟨_, _, rfl, run_takeDeferred hK', ?_⟩⟩
          have hc5 := cell_kept ((show Boxed w10 _ _ _ from bR).set (.bool true)).cell (grownBy_putObj' _ D (.deferred none)) (fun r e => by cases e; exact ⟨_, hK', rfl⟩)
          have hKF := (((hK0.trans hKX).trans hk11).setCell (p := ⟨w.heap.size + 1 + 1, 0, none⟩) (.inr (by simp; omega)) (.bool true))
          refine ⟨.bool true, ?_, rfl, Kept.of_below (hKF.below.trans (belowK_b (w := w) (Nat.le_refl _) _ D _ _ (by omega) hK' rfl rfl))⟩
          simp [results, Try.f3, go_sem, hc5]

theorem shelfClears_walk (w : World) (A : Option Addr) (n cap : Nat) (x : List Opn) (hx : (Rk.slice opR).K w x [.slice A n cap]) (a : Int) (wa : (Lit.int .i64 a).wf = true) (b : Int) (wb : (Lit.int .i64 b).wf = true) :
    Calls Try.prog 3 #[.slice A n cap, .int .i64 a, .int .i64 b] w fun e w' => e = .returned (.bool true) ∧ Below w.heap.size w w' := by
  have hr := RdO.of_rk hx
  rcases Int.lt_trichotomy a b with h | h | h
  · exact (shelfClears_lt w _ x a b h hr).mono fun _ _ ⟨he, hk⟩ => ⟨he, hk.below⟩
  · subst h
    exact (shelfClears_eq w _ x a trivial hr).mono fun _ _ ⟨he, hk⟩ => ⟨he, hk.below⟩
  · exact (shelfClears_gt w _ x a b h hr).mono fun _ _ ⟨he, hk⟩ => ⟨he, hk.below⟩

end Go.Proofs.Ytdboipjbpkhacaa
