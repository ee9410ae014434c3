/- such: the iterator over an iterator; Ending, Beginning. -/
import Derived.Test.YtdboipjbpkhacaaS6
set_option linter.unusedVariables false
set_option linter.unusedSimpArgs false
set_option linter.unnecessarySimpa false
namespace Go.Proofs.Ytdboipjbpkhacaa
open Go.RowKit Go.Shelf
attribute [local go_sem] Oper.semAt_some

theorem round_any {n n' l l' : Nat} {P : Program} {f : FuncId} {tmps : Array Value} {a b : Code} {w : World} {R : Ending → World → Prop} (h : RoundIn Fence.wide n P l f tmps a b w R) : RoundIn (Fence.wide.inRound l') n' P l f tmps a b w R :=
  ⟨trivial, fun c cs _ => h.2 c cs (fun d hd => by cases hd)⟩
theorem calls_any {n l : Nat} {P : Program} {f : FuncId} {args : Array Value} {w : World} {R : Ending → World → Prop} (h : Calls P f args w R) : CallsIn (Fence.wide.inRound l) n P f args w R := CallsIn.inRound l (callsIn_wide.2 h)
theorem keptC_own {β : Type} (B : Nat) (S : List Nat) (W0 : World) : OwnFrom B (fun (_ : β) W => KeptC S W0 W) := fun s X Y row h hg hr =>
  ⟨hg.os.trans h.os, hg.tape.trans h.tape, hg.output.trans h.output, Nat.le_trans h.size hg.size, fun k o hk h1 h2 => by
    have hX := h.block k o hk h1 h2
    refine (hg.block k (Array.getElem?_eq_some_iff.1 hX).1 (fun e => ?_)).trans hX
    obtain ⟨_, o', ho, hc⟩ := hr k e.symm
    rw [hX] at ho
    cases ho
    rw [h2] at hc
    cases hc⟩
theorem KeptC.keepsFrom_no : True := trivial
theorem Kept.keepsFrom {W W' : World} (h : Go.Proofs.Ytdboipjbpkhacaa.Kept [] W W') (B : Nat) : KeepsFrom B W W' := ⟨h.size, fun k o _ hk _ => (h.block k (Array.getElem?_eq_some_iff.1 hk).1 (by simp)).trans hk⟩

theorem all_sharp (tp : Option Addr) (w : World) : Calls Try.prog 11 #[.pointer tp] w fun e w' => e = .returned (.func (.func 32) #[] #[.pointer (some ⟨w.heap.size, 0, none⟩)]) ∧ w' = w.alloc (.cells #[.pointer tp] 23) := by
  go_enter Try.func11, Try.ntmps11
  go_wp2_with fail
  go_ret
  exact ⟨rfl, rfl⟩

/-- What All of tp gives: L. -/
def Src (w : World) (tp : Option Addr) (L : List Th) : Prop :=
  ∀ (W0 : World) (bx m : Nat) (S : List Nat), 1 ≤ m → Kept [] w W0 → W0.cell? ⟨bx, 0, none⟩ = some (.pointer tp) → (∀ x ∈ S, x < W0.heap.size) → SeqStopsK Fence.wide m Try.prog 32 #[.pointer (some ⟨bx, 0, none⟩)] encT (KeptC S) (fun ys => ys = L) (fun pre => pre <+: L) 16384 W0
theorem Src.keep {w w' : World} {tp : Option Addr} {L : List Th} (h : Src w tp L) (hk : Kept [] w w') : Src w' tp L := fun W0 bx m S hm hk2 => h W0 bx m S hm (hk.trans hk2)
theorem Sh.src {w : World} {F : List Nat} {b : Nat} {mm : Int} {L : List Th} (h : Sh w F b mm L) : Src w (some ⟨b, 0, none⟩) L := fun W0 bx m S hm hk hc hS => all1_stops m hm bx F b mm L S W0 (h.keep hk) hc hS
theorem src_nil (w : World) : Src w none [] := fun W0 bx m S hm hk hc hS => all1_nil m hm bx S W0 hc

def textsOf (p : Int → Int → Bool) (L : List Th) : List ByteArray := (L.filter (fun x => p x.1 x.2.1)).map (fun x => x.2.2)
theorem texts_hit {p : Int → Int → Bool} {pre : List Th} {x1 x2 : Int} {xs : ByteArray} (h : p x1 x2 = true) : textsOf p (pre ++ [(x1, x2, xs)]) = textsOf p pre ++ [xs] := by
  unfold textsOf; rw [List.filter_append]; simp [h]
theorem texts_miss {p : Int → Int → Bool} {pre : List Th} {x1 x2 : Int} {xs : ByteArray} (h : p x1 x2 = false) : textsOf p (pre ++ [(x1, x2, xs)]) = textsOf p pre := by
  unfold textsOf; rw [List.filter_append]; simp [h]
theorem texts_le (p : Int → Int → Bool) (pre : List Th) : (textsOf p pre).length ≤ pre.length := by
  unfold textsOf; rw [List.length_map]; exact List.length_filter_le _ _
theorem texts_pre {p : Int → Int → Bool} {pre L : List Th} (h : pre <+: L) : textsOf p pre <+: textsOf p L := by
  obtain ⟨t, rfl⟩ := h
  unfold textsOf; rw [List.filter_append, List.map_append]; exact List.prefix_append _ _
def encS (s : ByteArray) : Array Value := #[.string s]

set_option maxRecDepth 100000 in
set_option maxHeartbeats 8000000 in
theorem such1_O (m : Nat) (hm : 3 ≤ m) (bs bf : Nat) (tp : Option Addr) (L : List Th) (gf : Nat) (cv : Value) (p : Int → Int → Bool) (S : List Nat) (w : World) (hsh : Src w tp L) (hbs : w.cell? ⟨bs, 0, none⟩ = some (.pointer tp))
    (hbf : w.cell? ⟨bf, 0, none⟩ = some (.func (.func gf) #[] #[cv])) (eg : ∀ args w, (callFunc gf args).run Try.prog w = .ok (.enter gf args) w) (hbS : bf ∉ S) (hS : ∀ x ∈ S, x < w.heap.size)
    (hp : ∀ (W : World) (x1 x2 : Int), KeptC S w W → Calls Try.prog gf #[.agg #[.int .i64 x1, .int .i64 x2], cv] W fun e W' => e = .returned (.bool (p x1 x2)) ∧ Kept [] W W') :
    SeqO m Try.prog 47 #[.pointer (some ⟨bs, 0, none⟩), .pointer (some ⟨bf, 0, none⟩)] encS (KeptC S) (fun ys => ys = textsOf p L) (fun pre => pre <+: textsOf p L) 16384 w := by
  intro l J Jx W hW hJ hJx hY h0
  have hsW := hW.size
  have hbl := World.block_lt_of_cell? w _ hbf
  have htW := (hW.cell (p := ⟨bs, 0, none⟩) (World.block_lt_of_cell? w _ hbs)).trans hbs
  have hfW := (hW.cell (p := ⟨bf, 0, none⟩) hbl).trans hbf
  have hshW := hsh.keep (Kept.of_below hW)
  have hKW : KeptC S w W := KeptC.nil (Kept.of_below hW)
  refine callsIn_of_wp_marks Try.func47 rfl trivial ?_ rfl
  simp only [Try.ntmps47, List.size_toArray, List.length_cons, List.length_nil, Nat.reduceAdd, Nat.reduceSub, Array.replicate_succ, Array.replicate_zero, List.push_toArray, List.append_toArray, List.nil_append, List.cons_append]
  have ka := (Kept.refl [] W).alloc (.cells #[.func (.yield l) #[] #[]] 92)
  have kb := ka.alloc (.cells #[.pointer tp] 23)
  have y0 := ((Boxed.new W 92 (.func (.yield l) #[] #[]))).alloc (.cells #[.pointer tp] 23)
  have s0 := (Blk.new (W.alloc (.cells #[.func (.yield l) #[] #[]] 92)) #[.pointer tp] 23).cell 0
  have hta := ka.cell (by simp) htW
  simp only [World.size_alloc] at s0
  gi_wp2_with fail
  refine ⟨trivial, fun h => (by cases h), (callsIn_wide.2 (all_sharp tp _)).mono ?_⟩
  rintro e w' ⟨rfl, rfl⟩
  gi_wp2_with fail
  obtain ⟨W0, hW0⟩ : ∃ W0, (W.alloc (.cells #[.func (.yield l) #[] #[]] 92)).alloc (.cells #[.pointer tp] 23) = W0 := ⟨_, rfl⟩
  have hs0 : W0.heap.size = W.heap.size + 2 := by rw [← hW0]; simp
  rw [hW0] at y0 s0 kb ⊢
  have hKW0 : KeptC S w W0 := hKW.trans (KeptC.nil kb)
  have hJ0 : J (textsOf p []) W0 := hJ _ W W0 none h0 kb.grownBy (fun r e => by cases e)
  have hsh0 := hshW.keep kb
  have hf0 := kb.cell (by simp) hfW
  have hyb0 := y0.cell
  have hyS : W.heap.size ∉ S := fun h => by have := hS _ h; omega
  clear hW0 ka hta y0
  refine wpIn_rangeFunc_ownH rfl (by omega) (gf := 32) (lb := #[.pointer (some ⟨W.heap.size + 1, 0, none⟩)]) rfl trivial (enters_of Try.func32 (by kernel_rfl) rfl)
    (hsh0 W0 (W.heap.size + 1) (m - 1) S (by omega) (Kept.refl _ _) s0 (fun x hx => by have := hS x hx; omega)) KeptC.trans (fun W l o o' _ h hc _ => KeptC.putObj h hc) (Below.refl _ _) (fun _ => rfl)
    (fun pre X => J (textsOf p pre) X ∧ KeptC S W0 X) (fun cc pre X => cc = .ret ∧ Jx (textsOf p pre) X)
    (fun s A B row hs hg hr => ⟨hJ _ A B row hs.1 hg (fun r e => ⟨by have := (hr r e).1; omega, (hr r e).2⟩), keptC_own (β := List Th) _ S W0 s A B row hs.2 hg hr⟩)
    (fun cc s A B row hs hg hr => ⟨hs.1, hJx _ A B row hs.2 hg (fun r e => ⟨by have := (hr r e).1; omega, (hr r e).2⟩)⟩)
    ⟨hJ0, KeptC.refl S W0⟩
    (fun x a' X => ∃ Bx, W0.heap.size ≤ Bx ∧ Blk X Bx #[.int .i64 x.1, .int .i64 x.2.1] 29 ∧ a' = { tmps := #[.func (.yield l) #[] #[], .pointer (some ⟨bs, 0, none⟩), .pointer (some ⟨bf, 0, none⟩), .pointer (some ⟨W.heap.size, 0, none⟩), .pointer (some ⟨Bx, 0, none⟩), .string x.2.2, .pointer tp, .func (.func 32) #[] #[.pointer (some ⟨W.heap.size + 1, 0, none⟩)], .agg #[.int .i64 x.1, .int .i64 x.2.1], .string x.2.2, undef, undef, undef, undef, undef, undef, undef, undef, undef], defers := [] })
    (fun x a' s X Y row hs hg hr => by
      obtain ⟨Bx, h1, h2, h3⟩ := hs
      refine ⟨Bx, h1, (hg.block Bx h2.lt (fun e => ?_)).trans h2, h3⟩
      obtain ⟨_, o', ho, hc⟩ := hr Bx e.symm
      rw [show X.heap[Bx]? = _ from h2] at ho
      cases ho
      cases hc) ?assign ?body ?done ?stop
  case assign =>
    rintro l2 pre x X K ⟨hj, hk⟩ hK
    dsimp only [encT]
    gi_wp2
    have k1 := (Kept.refl [] X).alloc (.cells #[.int .i64 x.1, .int .i64 x.2.1] 29)
    exact hK _ _ (k1.keepsFrom _) (KeptC.nil k1) ⟨hJ _ X _ none hj k1.grownBy (fun r e => by cases e), hk.trans (KeptC.nil k1)⟩ ⟨X.heap.size, hk.size, Blk.new X _ _, rfl⟩
  case body =>
    rintro l2 pre ⟨x1, x2, xs⟩ a' X hl2 ⟨rr, hrr⟩ ⟨hj, hk⟩ ⟨Bx, hBx, bX, rfl⟩ hlt
    have cf := hk.cell (by simpa using hbS) hf0
    have cy := hk.cell (by simpa using hyS) hyb0
    have cx0 := bX.cell 0
    have cx1 := bX.cell 1
    simp at cx0 cx1
    have hpc := hp X x1 x2 (hKW0.trans hk)
    have hszX := hk.size
    dsimp only
    gi_wp2_with fail
    refine ⟨trivial, fun h => (by cases h), (calls_any hpc).mono ?_⟩
    rintro e X1 ⟨rfl, hk1⟩
    have hJ1 := hJ _ X X1 none hj hk1.grownBy (fun r e => by cases e)
    have cy1 := hk1.cell (by simp) cy
    have hkX1 : KeptC S W0 X1 := hk.trans (KeptC.nil hk1)
    cases hpv : p x1 x2 with
    | false =>
      have hj2 : J (textsOf p (pre ++ [(x1, x2, xs)])) X1 := by rw [texts_miss hpv]; exact hJ1
      clear hpv hpc
      gi_wp2_with (refine ⟨fun _ h => (by cases h), ?_⟩)
      exact ⟨hk1.keepsFrom _, KeptC.nil hk1, hj2, hkX1⟩
    | true =>
      have HT : Hid (textsOf p (pre ++ [(x1, x2, xs)]) = textsOf p pre ++ [xs]) := texts_hit hpv
      clear hpv hpc
      obtain ⟨fn, tmps, assign, body, hy, hR⟩ := hY _ xs X1 hJ1 (Nat.lt_of_le_of_lt (texts_le p pre) hlt)
      dsimp only [encS] at hy
      gi_wp2_with fail
      refine ⟨fun h => (by cases h), (round_any hR).mono ?_⟩
      rintro e W3 ⟨hkf, (⟨rfl, hJ3, hk3⟩ | ⟨rfl, hJx3⟩)⟩
      · rw [← HT.out] at hJ3
        gi_wp2_with fail
        exact ⟨(hk1.keepsFrom _).trans (KeepsFrom.higher hkf (by omega)), (KeptC.nil hk1).trans hk3, hJ3, hkX1.trans hk3⟩
      · rw [← HT.out] at hJx3
        gi_wp2_with fail
        exact ⟨(hk1.keepsFrom _).trans (KeepsFrom.higher hkf (by omega)), rfl, hJx3⟩
  case done =>
    rintro D ys X hD rfl ⟨hj, hk⟩ hK
    gi_wp2_with fail
    refine ⟨by simp, .inl ⟨_, _, rfl, run_takeDeferred hK, ?_⟩⟩
    have hj2 := hJ.putObj (.deferred none) hj (by omega) hK rfl
    refine ⟨.tuple #[], ?_, ⟨_, rfl⟩, .inl ⟨_, rfl, hj2⟩⟩
    simp [results, Try.f47, go_sem]
  case stop =>
    rintro D cc pre X hD hpre ⟨rfl, hj⟩ hK
    gi_wp2_with fail
    refine ⟨by simp, .inl ⟨_, _, rfl, run_takeDeferred hK, ?_⟩⟩
    have hj2 := hJx.putObj (.deferred none) hj (by omega) hK rfl
    refine ⟨.tuple #[], ?_, ⟨_, rfl⟩, .inr ⟨_, texts_pre hpre, hj2⟩⟩
    simp [results, Try.f47, go_sem]

/-- v is an iterator of texts that gives xs. -/
def ItS (w : World) (v : Value) (xs : List ByteArray) : Prop :=
  ∃ (g : Nat) (lb : Array Value), v = .func (.func g) #[] lb ∧ (∀ args w, (callFunc g args).run Try.prog w = .ok (.enter g args) w) ∧
    ∀ (w' : World) (S : List Nat), Kept [] w w' → (∀ x ∈ S, w.heap.size ≤ x ∧ x < w'.heap.size) → ∀ m, 3 ≤ m → SeqO m Try.prog g lb encS (KeptC S) (fun ys => ys = xs) (fun pre => pre <+: xs) 16384 w'
theorem ItS.keep {w w' : World} {v : Value} {xs : List ByteArray} (h : Go.Proofs.Ytdboipjbpkhacaa.ItS w v xs) (hk : Kept [] w w') : ItS w' v xs := by
  obtain ⟨g, lb, rfl, eg, hseq⟩ := h
  exact ⟨g, lb, rfl, eg, fun w2 S hk2 hS m hm => hseq w2 S (hk.trans hk2) (fun x hx => ⟨Nat.le_trans hk.size (hS x hx).1, (hS x hx).2⟩) m hm⟩
def ItSPost (w : World) (xs : List ByteArray) (e : Ending) (w' : World) : Prop := ∃ v, e = .returned v ∧ ItS w' v xs ∧ Kept [] w w'

theorem ending1_any (hb : Nat) (h x1 x2 : Int) (w : World) (hc : w.cell? ⟨hb, 0, none⟩ = some (.int .i64 h)) :
    Calls Try.prog 43 #[.agg #[.int .i64 x1, .int .i64 x2], .pointer (some ⟨hb, 0, none⟩)] w fun e w' => e = .returned (.bool (decide (x2 < h))) ∧ Kept [] w w' := by
  have hl := World.block_lt_of_cell? w _ hc
  dsimp only at hl
  go_enter Try.func43, Try.ntmps43
  go_wp2_with fail
  go_ret
  exact ⟨rfl, (Kept.refl [] w).alloc _⟩
theorem beginning1_any (hb : Nat) (h x1 x2 : Int) (w : World) (hc : w.cell? ⟨hb, 0, none⟩ = some (.int .i64 h)) :
    Calls Try.prog 44 #[.agg #[.int .i64 x1, .int .i64 x2], .pointer (some ⟨hb, 0, none⟩)] w fun e w' => e = .returned (.bool (decide (h < x1))) ∧ Kept [] w w' := by
  have hl := World.block_lt_of_cell? w _ hc
  dsimp only at hl
  go_enter Try.func44, Try.ntmps44
  go_wp2_with fail
  go_ret
  exact ⟨rfl, (Kept.refl [] w).alloc _⟩

def SuchPost (w : World) (tp : Option Addr) (f : Value) (e : Ending) (w' : World) : Prop :=
  e = .returned (.func (.func 47) #[] #[.pointer (some ⟨w.heap.size, 0, none⟩), .pointer (some ⟨w.heap.size + 1, 0, none⟩)]) ∧ w' = (w.alloc (.cells #[.pointer tp] 23)).alloc (.cells #[f] 84)
theorem such_any (tp : Option Addr) (gf : Nat) (cv : Value) (w : World) : Calls Try.prog 42 #[.pointer tp, .func (.func gf) #[] #[cv]] w (SuchPost w tp (.func (.func gf) #[] #[cv])) := by
  go_enter Try.func42, Try.ntmps42
  go_wp2_with fail
  go_ret
  exact ⟨rfl, rfl⟩

def endsBelow (h : Int) (x1 x2 : Int) : Bool := decide (x2 < h)
def beginsAbove (h : Int) (x1 x2 : Int) : Bool := decide (h < x1)

/-- The iterator that such makes over a shelf, with a closure over one box. -/
theorem itS_such (gf : Nat) (p : Int → Int → Bool) (tp : Option Addr) (L : List Th) (h : Int) (w : World) (hsh : Src w tp L) (eg : ∀ args w, (callFunc gf args).run Try.prog w = .ok (.enter gf args) w)
    (hp : ∀ (hb : Nat) (x1 x2 : Int) (W : World), W.cell? ⟨hb, 0, none⟩ = some (.int .i64 h) → Calls Try.prog gf #[.agg #[.int .i64 x1, .int .i64 x2], .pointer (some ⟨hb, 0, none⟩)] W fun e W' => e = .returned (.bool (p x1 x2)) ∧ Kept [] W W') :
    ItS (((w.alloc (.cells #[.int .i64 h] 2)).alloc (.cells #[.pointer tp] 23)).alloc (.cells #[.func (.func gf) #[] #[.pointer (some ⟨w.heap.size, 0, none⟩)]] 84))
      (.func (.func 47) #[] #[.pointer (some ⟨w.heap.size + 1, 0, none⟩), .pointer (some ⟨w.heap.size + 1 + 1, 0, none⟩)]) (textsOf p L) := by
  have k1 := (Kept.refl [] w).alloc (.cells #[.int .i64 h] 2)
  have k2 := k1.alloc (.cells #[.pointer tp] 23)
  have k3 := k2.alloc (.cells #[.func (.func gf) #[] #[.pointer (some ⟨w.heap.size, 0, none⟩)]] 84)
  have c1 := (((Blk.new w #[.int .i64 h] 2).alloc (.cells #[.pointer tp] 23)).alloc (.cells #[.func (.func gf) #[] #[.pointer (some ⟨w.heap.size, 0, none⟩)]] 84)).cell 0
  have c2 := ((Blk.new (w.alloc (.cells #[.int .i64 h] 2)) #[.pointer tp] 23).alloc (.cells #[.func (.func gf) #[] #[.pointer (some ⟨w.heap.size, 0, none⟩)]] 84)).cell 0
  have c3 := (Blk.new ((w.alloc (.cells #[.int .i64 h] 2)).alloc (.cells #[.pointer tp] 23)) #[.func (.func gf) #[] #[.pointer (some ⟨w.heap.size, 0, none⟩)]] 84).cell 0
  simp only [World.size_alloc] at c2 c3
  obtain ⟨W, hW⟩ : ∃ W, ((w.alloc (.cells #[.int .i64 h] 2)).alloc (.cells #[.pointer tp] 23)).alloc (.cells #[.func (.func gf) #[] #[.pointer (some ⟨w.heap.size, 0, none⟩)]] 84) = W := ⟨_, rfl⟩
  have hs : W.heap.size = w.heap.size + 3 := by rw [← hW]; simp
  rw [hW] at k3 c1 c2 c3 ⊢
  refine ⟨_, _, rfl, enters_of Try.func47 (by kernel_rfl) rfl, fun w' S hk hS m hm => ?_⟩
  have hS0 : ∀ z, z < W.heap.size → z ∉ S := fun z hz hzS => by have := (hS z hzS).1; omega
  exact such1_O m hm (w.heap.size + 1) (w.heap.size + 1 + 1) tp L gf _ p S w' ((hsh.keep k3).keep hk) (hk.cell (by simp) c2) (hk.cell (by simp) c3) eg (hS0 _ (by omega)) (fun x hx => (hS x hx).2)
    (fun X x1 x2 hkX => hp w.heap.size x1 x2 X (hkX.cell (hS0 _ (by show w.heap.size < _; omega)) (hk.cell (by simp) c1)))

theorem ending_any (tp : Option Addr) (L : List Th) (h : Int) (w : World) (hsh : Src w tp L) :
    Calls Try.prog 21 #[.pointer tp, .int .i64 h] w (ItSPost w (textsOf (endsBelow h) L)) := by
  have IT := Lib.hid (itS_such 43 (endsBelow h) tp L h w hsh (enters_of Try.func43 (by kernel_rfl) rfl) (fun hb x1 x2 W hc => ending1_any hb h x1 x2 W hc))
  have HK := Lib.hid ((((Kept.refl [] w).alloc (.cells #[.int .i64 h] 2)).alloc (.cells #[.pointer tp] 23)).alloc (.cells #[.func (.func 43) #[] #[.pointer (some ⟨w.heap.size, 0, none⟩)]] 84))
  clear hsh
  go_enter Try.func21, Try.ntmps21
  go_wp2_with fail
  refine (such_any _ _ _ _).mono ?_
  rintro e w2 ⟨rfl, rfl⟩
  go_wp2_with fail
  go_ret
  exact ⟨_, rfl, by simpa using IT.out, HK.out⟩
theorem beginning_any (tp : Option Addr) (L : List Th) (h : Int) (w : World) (hsh : Src w tp L) :
    Calls Try.prog 22 #[.pointer tp, .int .i64 h] w (ItSPost w (textsOf (beginsAbove h) L)) := by
  have IT := Lib.hid (itS_such 44 (beginsAbove h) tp L h w hsh (enters_of Try.func44 (by kernel_rfl) rfl) (fun hb x1 x2 W hc => beginning1_any hb h x1 x2 W hc))
  have HK := Lib.hid ((((Kept.refl [] w).alloc (.cells #[.int .i64 h] 2)).alloc (.cells #[.pointer tp] 23)).alloc (.cells #[.func (.func 44) #[] #[.pointer (some ⟨w.heap.size, 0, none⟩)]] 84))
  clear hsh
  go_enter Try.func22, Try.ntmps22
  go_wp2_with fail
  refine (such_any _ _ _ _).mono ?_
  rintro e w2 ⟨rfl, rfl⟩
  go_wp2_with fail
  go_ret
  exact ⟨_, rfl, by simpa using IT.out, HK.out⟩

end Go.Proofs.Ytdboipjbpkhacaa
