/- A loop over an iterator that itself runs a loop over an iterator: what such an iterator is asked for, and the loop's law. -/
import Derived.Test.YtdboipjbpkhacaaS4
set_option linter.unusedVariables false
set_option linter.unusedSimpArgs false
set_option linter.unnecessarySimpa false
namespace Go.Proofs.Ytdboipjbpkhacaa
open Go.RowKit Go.Shelf

variable {P : Program} {n : Nat} {w : World}

theorem KeepsFrom.higher {B B' : Nat} {X Y : World} (h : KeepsFrom B X Y) (hB : B ≤ B') : KeepsFrom B' X Y := ⟨h.size, fun k o hk h1 h2 => h.same k o (Nat.le_trans hB hk) h1 h2⟩
theorem KeepsFrom.putLow {B l : Nat} (hl : l < B) (W : World) (o : Obj) : KeepsFrom B W (W.putObj l o) := ⟨by simp, fun k x hk hx _ => (World.putObj_heap_other (by omega)).trans hx⟩

/-- What an iterator is asked for that may lay and turn loops of its own: the caller's word abides whatever is turned that is no cells and was laid since; a round leaves alone what was laid since. -/
def SeqO {α : Type} (m : Nat) (P : Program) (g : Nat) (lb : Array Value) (encs : α → Array Value) (Kp : World → World → Prop) (S Sp : List α → Prop) (N : Nat) (w : World) : Prop :=
  ∀ (l : Nat) (J Jx : List α → World → Prop) (W : World), Below w.heap.size w W → OwnFrom W.heap.size J → OwnFrom W.heap.size Jx →
    (∀ pre x W1, J pre W1 → pre.length < N → YieldAt Fence.wide (m - 1) P l (encs x) W1 fun e W' => KeepsFrom W.heap.size W1 W' ∧
      ((e = .returned (.bool true) ∧ J (pre ++ [x]) W' ∧ Kp W1 W') ∨ (e = .returned (.bool false) ∧ Jx (pre ++ [x]) W'))) →
    J [] W →
    CallsIn Fence.wide m P g (#[.func (.yield l) #[] #[]] ++ lb) W fun e W' => (∃ v, e = .returned v) ∧ ((∃ xs, S xs ∧ J xs W') ∨ (∃ pre, Sp pre ∧ Jx pre W'))

/-- The loop's own two blocks. -/
def Book (d : Nat) (R : Loop) (W : World) : Prop := W.heap[d + 1]? = some (.loop R) ∧ W.heap[d]? = some (.deferred (some []))
theorem Book.turned {d : Nat} {R : Loop} {A B : World} {row : Option Nat} (h : Book d R A) (hg : A.grownBy B row) (hr : ∀ r, row = some r → d + 2 ≤ r) : Book d R B := by
  have h1 := (Array.getElem?_eq_some_iff.1 h.1).1
  have h2 := (Array.getElem?_eq_some_iff.1 h.2).1
  exact ⟨(hg.block _ h1 (fun e => by have := hr _ e.symm; omega)).trans h.1, (hg.block _ h2 (fun e => by have := hr _ e.symm; omega)).trans h.2⟩
theorem Book.from {d : Nat} {R : Loop} {A B : World} (h : Book d R A) (k : KeepsFrom d A B) : Book d R B := ⟨k.same _ _ (by omega) h.1 rfl, k.same _ _ (Nat.le_refl _) h.2 rfl⟩
theorem Book.put {d : Nat} {R R' : Loop} {A : World} (h : Book d R A) : Book d R' (A.putObj (d + 1) (.loop R')) := ⟨World.putObj_heap_same (Array.getElem?_eq_some_iff.1 h.1).1, (World.putObj_heap_other (by omega)).trans h.2⟩

theorem wpIn_rangeFunc_O {α : Type} {g : Operand} {ps : Array Tmp} {assign body : Code} {Q : Exit → Act → World → Prop} {a : Act} {w : World}
    (h1 : 1 ≤ n) {gf : Nat} {lb : Array Value} (hg : a.eval g = .func (.func gf) #[] lb) (eg : ∀ args w, (callFunc gf args).run P w = .ok (.enter gf args) w)
    {encs : α → Array Value} {Kp : World → World → Prop} {S Sp : List α → Prop} {N : Nat} {w0 : World} (hseq : SeqO (n - 1) P gf lb encs Kp S Sp N w0)
    (hKt : ∀ {A B C : World}, Kp A B → Kp B C → Kp A C) (hKb : ∀ (W : World) (l : Nat) (o o' : Obj), w.heap.size ≤ l → W.heap[l]? = some o → o.isCells = false → o.isWalk = false → Kp W (W.putObj l o')) (hb0 : Below w0.heap.size w0 w) (hps : ∀ x, (encs x).size = ps.size)
    (I : List α → World → Prop) (Ix : Code → List α → World → Prop) (hI : OwnFrom w.heap.size I) (hIx : ∀ c, OwnFrom w.heap.size (Ix c)) (h0 : I [] w) (Ax : α → Act → World → Prop) (hAx : ∀ x a', OwnFrom w.heap.size (fun (_ : Unit) W => Ax x a' W))
    (hassign : ∀ (l : Nat) (pre : List α) (x : α) (W : World) (K : Act → World → Prop), I pre W → (∀ a' W', KeepsFrom w.heap.size W W' → Kp W W' → I pre W' → Ax x a' W' → K a' W') →
      assign.wpIn (Fence.wide.inRound l) (n - 1 - 1) P (Exit.then K (fun _ _ _ => False)) { tmps := (ps.zip (encs x)).foldl (fun t (p, v) => t.setIfInBounds p v) a.tmps, defers := [] } W)
    (hbody : ∀ (l : Nat) (pre : List α) (x : α) (a' : Act) (W : World), w.heap.size ≤ l → (∃ r, W.heap[l]? = some (.loop r)) → I pre W → Ax x a' W → pre.length < N → body.wpIn (Fence.wide.inRound l) (n - 1 - 1) P (ownPostG w.heap.size Kp I Ix (pre ++ [x]) W) a' W)
    (hdone : ∀ (D : Nat) (xs : List α) (W : World), w.heap.size ≤ D → S xs → I xs W → W.heap[D]? = some (.deferred (some [])) → Q .normal { a with defers := { target := .collected D, args := #[] } :: a.defers } W)
    (hstop : ∀ (D : Nat) (c : Code) (pre : List α) (W : World), w.heap.size ≤ D → Sp pre → Ix c pre W → W.heap[D]? = some (.deferred (some [])) → c.wpIn Fence.wide n P Q { a with defers := { target := .collected D, args := #[] } :: a.defers } W) :
    (Code.rangeFunc g ps assign body).wpIn Fence.wide n P Q a w := by
  refine wpIn_rangeFunc fun fn hfn => ?_
  rw [show Fence.wide.round = none from rfl]
  generalize hR : (fun (st : LoopState) (pe : Option Code) => ({ state := st, pending := pe, fn, tmps := a.tmps, params := ps, assign, body, defers := w.heap.size } : Loop)) = R
  generalize hd : w.heap.size = d at *
  obtain ⟨W1, hW1⟩ : ∃ W1, (w.alloc (.deferred (some []))).alloc (.loop (R .ready none)) = W1 := ⟨_, rfl⟩
  have hs1 : W1.heap.size = d + 2 := by rw [← hW1]; simp [hd]
  have hBk : Book d (R .ready none) W1 := by
    rw [← hW1, ← hd]
    refine ⟨?_, (Below.heap_alloc _ _ _ (by simp)).trans (World.alloc_heap_new w _)⟩
    have := World.alloc_heap_new (w.alloc (.deferred (some []))) (.loop (R .ready none))
    rwa [World.size_alloc] at this
  have hI1 : I [] W1 := by rw [← hW1]; exact hI.alloc _ (hI.alloc _ h0)
  have hb1 : Below w0.heap.size w0 W1 := by
    rw [← hW1]; exact hb0.trans ((((Below.refl _ w).alloc (Nat.le_refl _) _).alloc (by simp) _).mono hb0.size)
  refine ⟨d + 1, [{ target := .collected d, args := #[] }], W1, { target := .fn (.func gf) lb, args := #[.func (.yield (d + 1)) #[] #[]] }, W1, gf, #[.func (.yield (d + 1)) #[] #[]] ++ lb, W1, ?_, ?_, ?_, ?_, fun _ => h1, ?_⟩
  · rw [← hW1, ← hR, ← hd]; exact run_enterLoop_outer _ _ _ _ _
  · simp only [resolve, hg]
    simp [go_sem]
  · intro f' hf'; simp [Target.leads] at hf'; subst hf'; trivial
  · simp [invoke, go_sem, eg]
  have up : ∀ {A : World} {row : Option Nat}, (∀ r, row = some r → W1.heap.size ≤ r ∧ ∃ o : Obj, A.heap[r]? = some o ∧ o.isCells = false) → (∀ r, row = some r → d ≤ r ∧ ∃ o : Obj, A.heap[r]? = some o ∧ o.isCells = false) ∧ (∀ r, row = some r → d + 2 ≤ r) :=
    fun hr => ⟨fun r e => ⟨by have := (hr r e).1; omega, (hr r e).2⟩, fun r e => by have := (hr r e).1; omega⟩
  refine (hseq (d + 1) (fun pre W => I pre W ∧ Book d (R .ready none) W) (fun pre W => ∃ c, Ix c pre W ∧ Book d (R .done (some c)) W) W1 hb1
    (fun s A B row hs hg' hr => ⟨hI s A B row hs.1 hg' (up hr).1, hs.2.turned hg' (up hr).2⟩)
    (fun s A B row ⟨c, hc, hb⟩ hg' hr => ⟨c, hIx c s A B row hc hg' (up hr).1, hb.turned hg' (up hr).2⟩) ?round ⟨hI1, hBk⟩).mono ?behind
  case round =>
    rintro pre x W ⟨hi, hb⟩ hlen
    have hy := run_yield (P := P) (args := encs x) hb.1 (by rw [← hR]; exact hps x)
    rw [← hR] at hy
    refine ⟨fn, _, assign, body, hy, roundIn_of_wpIn hfn (hassign _ pre x W _ hi ?_)⟩
    clear hy
    intro a' Wa hkf hkp hia hax
    have hba := hb.from hkf
    refine ⟨_, run_beginRound hba.1 (by rw [← hR]), ?_⟩
    have hb2 : Book d { R .ready none with state := .busy } (Wa.putObj (d + 1) (.loop { R .ready none with state := .busy })) := hba.put
    have hkf2 : KeepsFrom (d + 2) W (Wa.putObj (d + 1) (.loop { R .ready none with state := .busy })) := (KeepsFrom.higher hkf (by omega)).trans (KeepsFrom.putLow (by omega) _ _)
    have hkp2 : Kp W (Wa.putObj (d + 1) (.loop { R .ready none with state := .busy })) := hKt hkp (hKb _ _ _ _ (by omega) hba.1 rfl rfl)
    refine wpIn_mono (hbody _ pre x a' _ (by omega) ⟨_, hb2.1⟩ (hI.putObj _ hia (by omega) hba.1 rfl) ((hAx x a').putObj (s := ()) _ hax (by omega) hba.1 rfl) hlen) ?_
    generalize Wa.putObj (d + 1) (.loop { R .ready none with state := .busy }) = Wc at hb2 hkf2 hkp2
    have fin : ∀ (jump : Option Code) (W3 : World), KeepsFrom d Wc W3 → Book d { R .ready none with state := .busy } W3 ∧
        (Instr.endRound (d + 1) jump).run P W3 = .ok (.bool jump.isNone) (W3.putObj (d + 1) (.loop (R (if jump.isNone then .ready else .done) jump))) ∧ KeepsFrom W1.heap.size W (W3.putObj (d + 1) (.loop (R (if jump.isNone then .ready else .done) jump))) := fun jump W3 hk3 => by
      have hb3 := hb2.from hk3
      have := run_endRound (P := P) jump hb3.1
      rw [← hR] at this ⊢
      refine ⟨by rw [← hR] at hb3; exact hb3, this, ?_⟩
      rw [hs1]
      exact (hkf2.trans (KeepsFrom.higher hk3 (by omega))).trans (KeepsFrom.putLow (by omega) _ _)
    rintro e a3 W3 hp
    cases e with
    | normal =>
      obtain ⟨hk3, hkp3, hi3⟩ := hp
      obtain ⟨hb3, hr, hkk⟩ := fin none W3 hk3
      exact ⟨_, _, hr, hkk, .inl ⟨rfl, ⟨hI.putObj _ hi3 (by omega) hb3.1 rfl, hb3.put⟩, hKt (hKt hkp2 hkp3) (hKb _ _ _ _ (by omega) hb3.1 rfl rfl)⟩⟩
    | ret =>
      obtain ⟨hk3, hi3⟩ := hp
      obtain ⟨hb3, hr, hkk⟩ := fin (some .ret) W3 hk3
      exact ⟨_, _, hr, hkk, .inr ⟨rfl, .ret, (hIx _).putObj _ hi3 (by omega) hb3.1 rfl, hb3.put⟩⟩
    | exit id =>
      obtain ⟨hk3, hi3⟩ := hp
      obtain ⟨hb3, hr, hkk⟩ := fin (some (.exit id)) W3 hk3
      exact ⟨_, _, hr, hkk, .inr ⟨rfl, .exit id, (hIx _).putObj _ hi3 (by omega) hb3.1 rfl, hb3.put⟩⟩
    | goto t =>
      obtain ⟨hk3, hi3⟩ := hp
      obtain ⟨hb3, hr, hkk⟩ := fin (some (.goto t)) W3 hk3
      exact ⟨_, _, hr, hkk, .inr ⟨rfl, .goto t, (hIx _).putObj _ hi3 (by omega) hb3.1 rfl, hb3.put⟩⟩
    | panic ch => exact hp.elim
    | outgrown => exact hp.elim
  case behind =>
    rintro e W2 ⟨⟨v, rfl⟩, (⟨xs, hS, hi, hb⟩ | ⟨pre, hSp, c, hi, hb⟩)⟩
    · exact ⟨none, _, by have := run_endLoop (P := P) hb.1 (by rw [← hR]; simp); rw [← hR] at this; exact this, hdone _ xs _ (Nat.le_refl _) hS (hI.putObj _ hi (by omega) hb.1 rfl) ((World.putObj_heap_other (by omega)).trans hb.2)⟩
    · exact ⟨some c, _, by have := run_endLoop (P := P) hb.1 (by rw [← hR]; simp); rw [← hR] at this; exact this, hstop _ c pre _ (Nat.le_refl _) hSp ((hIx c).putObj _ hi (by omega) hb.1 rfl) ((World.putObj_heap_other (by omega)).trans hb.2)⟩

end Go.Proofs.Ytdboipjbpkhacaa
