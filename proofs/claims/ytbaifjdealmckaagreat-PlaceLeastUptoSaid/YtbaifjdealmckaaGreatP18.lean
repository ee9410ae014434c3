/- A pattern's plan, made as the document says: an operator that is not there is put behind the others. -/
import Derived.Deep.RegionHeld3
import Derived.Deep.AppendLies
import Derived.Deep.RegionLaw
import Derived.Test.YtbaifjdealmckaaGreatRows
import Derived.WalkKit
import Derived.WalkSpells
import Derived.WalkLawsBesides
import Derived.Deep.QuietTactic
import Derived.BigQuiet
import Derived.Lib.Hide
import Derived.BigRegion
import Derived.Shelf.Abstract
import Derived.Lib.ConvBytes
import Derived.Laws.CopyRow
import Derived.Laws.MakeOwn
import Derived.StillTailTactics
import Derived.Laws.AppendOwnNone
import Derived.Deep.Slices
import Derived.ProofKit
import Derived.SizedLaws
import Derived.Test.YtbaifjdealmckaaGreatKq
import Derived.Test.YtbaifjdealmckaaGreatP7
set_option linter.unusedVariables false
set_option linter.unusedSimpArgs false
set_option linter.unnecessarySimpa false
namespace Go.Proofs.YtbaifjdealmckaaGreat
open Go.RowKit Go.Shelf
attribute [local go_sem] Oper.semAt_some

/-- An operator without tests or conditions: kind, variable, type, window, inputs. -/
abbrev BareD := Int × ByteArray × ByteArray × Int × Int
def bareC (o : BareD) : List Value := [.int .i64 o.1, .string o.2.1, .string o.2.2.1, .slice none 0 0, .slice none 0 0, .int .i64 o.2.2.2.1, .int .i64 o.2.2.2.2]
def bareA (o : BareD) : Value := .agg #[.int .i64 o.1, .string o.2.1, .string o.2.2.1, .slice none 0 0, .slice none 0 0, .int .i64 o.2.2.2.1, .int .i64 o.2.2.2.2]
def differ (a b : BareD) : Prop := a.1 ≠ b.1 ∨ (a.1 = b.1 ∧ a.2.1.toList ≠ b.2.1.toList)

set_option maxRecDepth 100000 in
set_option maxHeartbeats 2000000 in
theorem sameop_ne (a b : BareD) (h : differ a b) (w : World) : Calls Tryz.prog 58 #[bareA a, bareA b] w fun e w' => e = .returned (.bool false) ∧ Kept [] w w' := by
  obtain ⟨k, v, t, x, i⟩ := a
  obtain ⟨k', v', t', x', i'⟩ := b
  have HK := Lib.hid (((Kept.refl [] w).alloc (.cells #[.int .i64 k, .string v, .string t, .slice none 0 0, .slice none 0 0, .int .i64 x, .int .i64 i] 88)).alloc (.cells #[.int .i64 k', .string v', .string t', .slice none 0 0, .slice none 0 0, .int .i64 x', .int .i64 i'] 88))
  unfold bareA
  by_cases hk : k = k'
  · subst hk
    have hv : v.toList ≠ v'.toList := by rcases h with h | h; exact absurd rfl h; exact h.2
    have hv' : (v.toList == v'.toList) = false := by rw [beq_eq_false_iff_ne]; exact hv
    clear h hv
    go_enter Tryz.func58, Tryz.ntmps58
    go_wp2_with fail
    go_ret
    exact ⟨rfl, HK.out⟩
  · have hk' : (k == k') = false := by rw [beq_eq_false_iff_ne]; exact hk
    clear h hk
    go_enter Tryz.func58, Tryz.ntmps58
    go_wp2_with fail
    go_ret
    exact ⟨rfl, HK.out⟩

/-- All is as it was below B but the plan at xb; from B on all but rows of operators and of rows. -/
structure KT (B xb : Nat) (w w' : World) : Prop where
  os : w'.os = w.os
  tape : w'.tape = w.tape
  output : w'.output = w.output
  size : w.heap.size ≤ w'.heap.size
  low : ∀ k, k < B → k ≠ xb → k < w.heap.size → w'.heap[k]? = w.heap[k]?
  typ : ∀ (k : Nat) (cs : Array Value) (t : TypeId) (fr : Nat × Nat), B ≤ k → k ≠ xb → w.heap[k]? = some (.cells cs t fr) → t ≠ 88 → t ≠ 22 → w'.heap[k]? = some (.cells cs t fr)
theorem KT.of {B xb : Nat} {w w' : World} (h : Kept [] w w') : KT B xb w w' :=
  ⟨h.os, h.tape, h.output, h.size, fun k _ _ hk => h.block k hk (by simp), fun k cs t fr _ _ hc _ _ => by rw [h.block k (Array.getElem?_eq_some_iff.1 hc).1 (by simp)]; exact hc⟩
theorem KT.trans {B xb : Nat} {a b c : World} (h : KT B xb a b) (k : KT B xb b c) : KT B xb a c :=
  ⟨k.os.trans h.os, k.tape.trans h.tape, k.output.trans h.output, Nat.le_trans h.size k.size, fun i hi hx hs => (k.low i hi hx (Nat.lt_of_lt_of_le hs h.size)).trans (h.low i hi hx hs), fun i cs t fr hi hx hc h1 h2 => k.typ i cs t fr hi hx (h.typ i cs t fr hi hx hc h1 h2) h1 h2⟩
theorem KT.mono {B B' xb : Nat} {a b : World} (h : KT B' xb a b) (hB : B ≤ B') : KT B xb a b :=
  ⟨h.os, h.tape, h.output, h.size, fun k hk hx hs => h.low k (by omega) hx hs, fun k cs t fr hk hx hc h1 h2 => by
    by_cases hkB : k < B'
    · rw [h.low k hkB hx (Array.getElem?_eq_some_iff.1 hc).1]; exact hc
    · exact h.typ k cs t fr (by omega) hx hc h1 h2⟩
theorem KT.own {B xb : Nat} {w w' : World} {v : Value} {n : Nat} {xs : List Value} {e : TypeId} (hxB : xb < B) (h : KT B xb w w') (ho : w.ownsRow B e 1 v n xs) (h1 : e ≠ 88) (h2 : e ≠ 22) : w'.ownsRow B e 1 v n xs := by
  refine ⟨ho.1, ?_⟩
  rcases ho.2 with h0 | ⟨g, cap, cur, rfl, hb, hg, h3⟩
  · exact .inl h0
  · exact .inr ⟨g, cap, cur, rfl, hb, h.typ g cur _ _ hb (by omega) hg h1 h2, h3⟩
theorem KT.kept {B xb : Nat} {w0 w w' : World} (h0 : Kept [] w0 w) (hx : w0.heap.size ≤ xb) (hB : xb < B) (h : KT B xb w w') : Kept [] w0 w' :=
  ⟨h.os.trans h0.os, h.tape.trans h0.tape, h.output.trans h0.output, Nat.le_trans h0.size h.size, fun k hk hs => (h.low k (by omega) (by omega) (Nat.lt_of_lt_of_le hk h0.size)).trans (h0.block k hk hs)⟩
theorem KT.below {B xb : Nat} {w w' : World} (h : KT B xb w w') (hB : w.heap.size ≤ B) : Kept [xb] w w' :=
  ⟨h.os, h.tape, h.output, h.size, fun k hk hs => h.low k (by omega) (by simpa using hs) hk⟩

/-- The plan that is made at xb; its rows lie from B on. -/
def PA (B : Nat) (N : Nat → Prop) (w : World) (xb : Nat) (ops : List BareD) (rows : List (List Int)) : Prop :=
  ∃ ov fv fs, Blk w xb #[ov, fv] 26 ∧ w.ownsRow B 88 7 ov ops.length (ops.flatMap bareC) ∧ w.ownsRow B 22 1 fv ops.length fs ∧ fs.length = rows.length ∧
    (∀ (i : Nat) (v : Value) (row : List Int), fs[i]? = some v → rows[i]? = some row → w.ownsRow B 3 1 v row.length (row.map (.int .i64))) ∧ (∀ v ∈ fs, ∀ b, v.ownBlock = some b → N b)
def PutPost (B : Nat) (N : Nat → Prop) (w : World) (xb : Nat) (ops : List BareD) (rows : List (List Int)) (k : Nat) : Ending → World → Prop := fun e w' => e = .returned (.int .i64 k) ∧ PA B N w' xb ops rows ∧ KT B xb w w'

theorem infoOp : (Tryz.prog.info? 88).map (fun i => (i.zero, i.size, i.bytes)) = some (some (.agg #[.int .i64 0, .string { data := #[] }, .string { data := #[] }, .slice none 0 0, .slice none 0 0, .int .i64 0, .int .i64 0]), 7, 104) := by kernel_rfl
theorem infoRow : (Tryz.prog.info? 22).map (fun i => (i.zero, i.size, i.bytes)) = some (some (.slice none 0 0), 1, 24) := by kernel_rfl

theorem flat7 : ∀ (ops : List BareD) (k : Nat) (o : BareD) (j : Nat) (u : Value), ops[k]? = some o → (bareC o)[j]? = some u → (ops.flatMap bareC)[k * 7 + j]? = some u
  | [], k, o, j, u, h, _ => by simp at h
  | a :: ops, 0, o, j, u, h, hu => by
    injection h with h
    subst h
    have hj : j < (bareC a).length := (List.getElem?_eq_some_iff.1 hu).1
    rw [List.flatMap_cons, List.getElem?_append_left (by omega), Nat.zero_mul, Nat.zero_add]
    exact hu
  | a :: ops, k + 1, o, j, u, h, hu => by
    have ih := flat7 ops k o j u (by simpa using h) hu
    rw [List.flatMap_cons, List.getElem?_append_right (by show 7 ≤ _; omega)]
    have : (k + 1) * 7 + j - (bareC a).length = k * 7 + j := by show (k + 1) * 7 + j - 7 = _; omega
    rw [this]
    exact ih
theorem own_cell7 {w : World} {base : Nat} {e : TypeId} {A : Option Addr} {n c : Nat} {ops : List BareD} (h : w.ownsRow base e 7 (.slice A n c) n (ops.flatMap bareC)) {k : Nat} {o : BareD} (hk : ops[k]? = some o) :
    ∃ g, A = some ⟨g, 0, none⟩ ∧ base ≤ g ∧ ∀ j u, (bareC o)[j]? = some u → w.cell? ⟨g, k * 7 + j, none⟩ = some u := by
  rcases h.2 with ⟨_, h0⟩ | ⟨g, cap, cur, he, hb, _⟩
  · exfalso
    have h1 := h.1
    have h2 := (List.getElem?_eq_some_iff.1 (flat7 ops k o 0 _ hk rfl)).1
    omega
  · injection he with he1 he2 he3
    subst he1 he3
    refine ⟨g, rfl, hb, fun j u hu => ?_⟩
    have := h.cells (g := g) rfl (k * 7 + j) u (flat7 ops k o j u hk hu)
    have ha : (⟨g, 0, none⟩ : Addr).add (k * 7 + j) = ⟨g, k * 7 + j, none⟩ := by unfold Addr.add; split <;> simp_all
    rwa [ha] at this

theorem own_apart {w : World} {base base' : Nat} {e e' : TypeId} {z z' n n' : Nat} {v v' : Value} {xs xs' : List Value} (h : w.ownsRow base e z v n xs) (h' : w.ownsRow base' e' z' v' n' xs') (hne : e ≠ e') (b : Nat) (hb : v.ownBlock = some b) : v'.ownBlock ≠ some b := by
  intro hb'
  rcases h.2 with ⟨rfl, _⟩ | ⟨g, cap, cur, rfl, _, hg, _⟩
  · cases hb
  · rcases h'.2 with ⟨rfl, _⟩ | ⟨g', cap', cur', rfl, _, hg', _⟩
    · cases hb'
    · injection hb with hb
      injection hb' with hb'
      simp at hb hb'
      subst hb hb'
      rw [hg] at hg'
      injection hg' with hg'
      injection hg' with _ h2
      exact hne h2
theorem grown_kept {w w' : World} {v : Value} (hg : w.grownBy w' v.ownBlock) : Kept v.ownBlock.toList w w' := (Kept.refl _ w).grown hg (fun k hk => .inl (by rw [hk]; simp))
theorem KT.grown {B xb : Nat} {w a b : World} {v : Value} {n z : Nat} {xs : List Value} {e : TypeId} (h : KT B xb w a) (ho : a.ownsRow B e z v n xs) (he : e = 88 ∨ e = 22) (hg : a.grownBy b v.ownBlock) : KT B xb w b := by
  have hk := grown_kept hg
  refine ⟨hk.os.trans h.os, hk.tape.trans h.tape, hk.output.trans h.output, Nat.le_trans h.size hk.size, fun k hk1 hx hs => ?_, fun k cs t fr hk1 hx hc h1 h2 => ?_⟩
  · refine (hk.block k (Nat.lt_of_lt_of_le hs h.size) (fun hm => ?_)).trans (h.low k hk1 hx hs)
    have := (ho.lt k (by simpa using hm)).1
    omega
  · have hc' := h.typ k cs t fr hk1 hx hc h1 h2
    rw [hk.block k (Array.getElem?_eq_some_iff.1 hc').1 (fun hm => ?_)]
    · exact hc'
    · have hm' : v.ownBlock = some k := by simpa using hm
      rcases ho.2 with ⟨rfl, _⟩ | ⟨g, cap, cur, rfl, _, hg2, _⟩
      · cases hm'
      · injection hm' with hm'
        simp at hm'
        subst hm'
        rw [hg2] at hc'
        injection hc' with hc'
        injection hc' with _ h3
        rcases he with he | he
        · exact h1 (h3 ▸ he)
        · exact h2 (h3 ▸ he)
theorem KT.set {B xb : Nat} {w a : World} (h : KT B xb w a) (i : Nat) (v : Value) : KT B xb w (a.setCell ⟨xb, i, none⟩ v) := by
  have hk : Kept [xb] a (a.setCell ⟨xb, i, none⟩ v) := (Kept.refl [xb] a).setCell (.inl (by simp)) v
  refine ⟨hk.os.trans h.os, hk.tape.trans h.tape, hk.output.trans h.output, Nat.le_trans h.size hk.size, fun k hk1 hx hs => ?_, fun k cs t fr hk1 hx hc h1 h2 => ?_⟩
  · exact (hk.block k (Nat.lt_of_lt_of_le hs h.size) (by simpa using hx)).trans (h.low k hk1 hx hs)
  · have hc' := h.typ k cs t fr hk1 hx hc h1 h2
    rw [hk.block k (Array.getElem?_eq_some_iff.1 hc').1 (by simpa using hx)]
    exact hc'
theorem cells_at8 (w : World) (b : Nat) (cs : Array Value) (t : TypeId) (hb : b = w.heap.size) : ∀ j u, cs.toList[j]? = some u → (w.alloc (.cells cs t)).cell? ((⟨b, 0, none⟩ : Addr).add j) = some u := by
  subst hb
  intro j u hu
  have ha : (⟨w.heap.size, 0, none⟩ : Addr).add j = ⟨w.heap.size, j, none⟩ := by unfold Addr.add; split <;> simp_all
  rw [ha, (Blk.new w cs t).cell j]
  rwa [Array.getElem?_toList] at hu
theorem cells_drew8 {w : World} {a : Addr} {xs : List Value} (h : ∀ j u, xs[j]? = some u → w.cell? (a.add j) = some u) : ∀ j u, xs[j]? = some u → w.drew.cell? (a.add j) = some u := h
theorem cells_drewN8 {w : World} {a : Addr} {xs : List Value} {n : Nat} (h : ∀ j u, xs[j]? = some u → w.cell? (a.add j) = some u) : ∀ j u, xs[j]? = some u → (w.drewN n).cell? (a.add j) = some u := h
theorem step_guard8 {P : Program} {ops : Array Oper} {o : Oper} {a : Act} {w : World} {K : Act → World → Prop} {Q : Exit → Act → World → Prop} {E : Prop} (s x : Operand) (t : TypeId) (ho : o.op = .call { callee := .builtin .append, args := #[s, x], argTypes := #[t, t] })
    (h : if Region.wanted o (yielded ops a.tmps) = true then Oper.wp P o a w K Q else E) : if Region.wanted o (yielded ops a.tmps) = true then Oper.wp P o a w K Q else E := h

theorem Blk.grown {w w' : World} {b : Nat} {cs : Array Value} {t : TypeId} {v : Value} (h : Blk w b cs t) (hg : w.grownBy w' v.ownBlock) (hb : v.ownBlock ≠ some b) : Blk w' b cs t :=
  h.kept (grown_kept hg) (fun hm => hb (by simpa using hm))
theorem own_ne {w : World} {B xb : Nat} {e : TypeId} {z n : Nat} {v : Value} {xs : List Value} (hxB : xb < B) (h : w.ownsRow B e z v n xs) : v.ownBlock ≠ some xb := fun hb => by
  have := (h.lt xb hb).1
  omega
theorem own_set {w : World} {B xb i : Nat} {e : TypeId} {z n : Nat} {v : Value} {xs : List Value} (hxB : xb < B) (h : w.ownsRow B e z v n xs) (u : Value) : (w.setCell ⟨xb, i, none⟩ u).ownsRow B e z v n xs :=
  ownsRow_keep h ((Kept.refl [xb] w).setCell (.inl (by simp)) u) (fun b hb hm => by
    simp at hm
    subst hm
    exact own_ne hxB h hb)
theorem own_grown {w w' : World} {base base' : Nat} {e e' : TypeId} {z z' n n' : Nat} {v v' : Value} {xs xs' : List Value} (h : w.ownsRow base e z v n xs) (h' : w.ownsRow base' e' z' v' n' xs') (hne : e ≠ e') (hg : w.grownBy w' v'.ownBlock) : w'.ownsRow base e z v n xs :=
  ownsRow_keep h (grown_kept hg) (fun b hb hm => own_apart h h' hne b hb (by simpa using hm))
theorem put_done {B xb k : Nat} {N : Nat → Prop} {ops : List BareD} {rows : List (List Int)} {o : BareD} {row : List Int} {w wr V w5 w7 : World} {A F ov v7 v : Value} {fs : List Value} {X : Obj}
    (hl : ops.length = k) (hr : k = rows.length) (hxB : xb < B) (hxl : xb < w.heap.size) (hk : Kept [] w wr) (hV : Kept [] wr V) (hov : w.ownsRow B 88 7 A k (ops.flatMap bareC)) (hfv : w.ownsRow B 22 1 F k fs) (hfl : fs.length = rows.length)
    (hfs : ∀ (i : Nat) (v : Value) (row : List Int), fs[i]? = some v → rows[i]? = some row → w.ownsRow B 3 1 v row.length (row.map (.int .i64))) (hv : w.ownsRow B 3 1 v row.length (row.map (.int .i64))) (hfn : ∀ v ∈ fs, ∀ b, v.ownBlock = some b → N b) (hvn : ∀ b, v.ownBlock = some b → N b)
    (hB : Blk w xb #[A, F] 26) (g5 : V.grownBy w5 A.ownBlock) (o5 : w5.ownsRow B 88 7 ov (k + 1) (ops.flatMap bareC ++ bareC o))
    (g7 : ((w5.setCell ⟨xb, 0, none⟩ ov).alloc X).grownBy w7 F.ownBlock) (o7 : w7.ownsRow B 22 1 v7 (k + 1) (fs ++ [v])) :
    Blk w7 xb #[ov, F] 26 ∧ PA B N (w7.setCell ⟨xb, 1, none⟩ v7) xb (ops ++ [o]) (rows ++ [row]) ∧ KT B xb w (w7.setCell ⟨xb, 1, none⟩ v7) := by
  have kV := hk.trans hV
  have ovV := ownsRow_keep hov kV (by simp)
  have fvV := ownsRow_keep hfv kV (by simp)
  have bV := hB.kept kV (by simp)
  have b5 := bV.grown g5 (own_ne hxB ovV)
  have fv5 := own_grown fvV ovV (by decide) g5
  have b6 : Blk ((w5.setCell ⟨xb, 0, none⟩ ov).alloc X) xb #[ov, F] 26 := by
    have := (b5.set 0 ov).alloc X
    simpa using this
  have ov6 := (own_set (i := 0) hxB o5 ov).alloc X
  have fv6 := (own_set (i := 0) hxB fv5 ov).alloc X
  have b7 := b6.grown g7 (own_ne hxB fv6)
  have ov7 := own_grown ov6 fv6 (by decide) g7
  have xV : xb < V.heap.size := bV.lt
  have k5 := (KT.of (B := B) (xb := xb) kV).grown ovV (.inl rfl) g5
  have k6 := (k5.set 0 ov).trans (KT.of ((Kept.refl [] _).alloc X))
  have k7 := k6.grown fv6 (.inr rfl) g7
  have k8 := k7.set 1 v7
  refine ⟨b7, ⟨ov, v7, fs ++ [v], ?_, ?_, ?_, by simp [hfl], ?_, fun u hu b hb => by
    rcases List.mem_append.1 hu with h | h
    · exact hfn u h b hb
    · simp at h
      subst h
      exact hvn b hb⟩, k8⟩
  · have := b7.set 1 v7
    simpa using this
  · rw [List.length_append, hl, List.flatMap_append]
    simpa using own_set (i := 1) hxB ov7 v7
  · rw [List.length_append, hl]
    exact own_set (i := 1) hxB o7 v7
  · intro i u r hu hri
    rcases Nat.lt_trichotomy i k with h | h | h
    · rw [List.getElem?_append_left (by omega)] at hu hri
      exact KT.own hxB k8 (hfs i u r hu hri) (by decide) (by decide)
    · subst h
      rw [List.getElem?_append_right (by omega), hfl, hr, Nat.sub_self] at hu
      rw [List.getElem?_append_right (by omega), hr, Nat.sub_self] at hri
      simp at hu hri
      subst hu hri
      exact KT.own hxB k8 hv (by decide) (by decide)
    · rw [List.getElem?_eq_none (by simp; omega)] at hu
      cases hu

set_option maxRecDepth 100000 in
set_option maxHeartbeats 4000000 in
theorem put_any (B : Nat) (N : Nat → Prop) (xb : Nat) (ops : List BareD) (rows : List (List Int)) (o : BareD) (row : List Int) (v : Value) (w : World) (hxB : xb < B) (hBw : B ≤ w.heap.size) (hP : PA B N w xb ops rows) (hvn : ∀ b, v.ownBlock = some b → N b) (hv : w.ownsRow B 3 1 v row.length (row.map (.int .i64)))
    (hl : ops.length = rows.length) (hn : ops.length ≤ 8) (hd : ∀ a ∈ ops, differ a o) :
    Calls Tryz.prog 35 #[.pointer (some ⟨xb, 0, none⟩), bareA o, v] w (PutPost B N w xb (ops ++ [o]) (rows ++ [row]) ops.length) := by
  obtain ⟨i0, hi0, hz0, hz1, hz2⟩ := info_parts infoOp
  obtain ⟨j0, hj0, hy0, hy1, hy2⟩ := info_parts infoRow
  obtain ⟨ov, fv, fs, hB, hov, hfv, hfl, hfs, hfn⟩ := hP
  obtain ⟨OA, oc, rfl⟩ := own_len hov
  obtain ⟨FA, fc, rfl⟩ := own_len hfv
  obtain ⟨VA, vc, rfl⟩ := own_len hv
  have HOV := Lib.hid hov
  have HFV := Lib.hid hfv
  have HV := Lib.hid hv
  have HFS := Lib.hid hfs
  have HFN := Lib.hid hfn
  have HVN := Lib.hid hvn
  have HB := Lib.hid hB
  have HDF := Lib.hid hd
  have cx0 := hB.cell 0
  have cx1 := hB.cell 1
  have fx0 := hB.free 0
  have fx1 := hB.free 1
  simp at cx0 cx1
  have hxl := hB.lt
  obtain ⟨n, hnn⟩ : ∃ n, ops.length = n := ⟨_, rfl⟩
  rw [hnn] at hn HOV HFV HB cx0 cx1 hl ⊢
  have HN := Lib.hid hnn
  have HL := Lib.hid hl
  have HFL := Lib.hid hfl
  obtain ⟨o0, o1, o2, o5, o6⟩ := o
  have HBX := Lib.hid (Blk.new w #[.int .i64 o0, .string o1, .string o2, .slice none 0 0, .slice none 0 0, .int .i64 o5, .int .i64 o6] 88)
  unfold bareA
  clear hB hov hfv hfl hfs hfn hvn hv hnn hl hd
  go_enter Tryz.func35, Tryz.ntmps35
  go_wp2_with fail
  obtain ⟨w1, hw1⟩ : ∃ w1, w.alloc (.cells #[.int .i64 o0, .string o1, .string o2, .slice none 0 0, .slice none 0 0, .int .i64 o5, .int .i64 o6] 88) = w1 := ⟨_, rfl⟩
  have HK1 : Hid (Kept [] w w1) := by show Kept [] w w1; rw [← hw1]; exact (Kept.refl [] w).alloc _
  have hs1 : w1.heap.size = w.heap.size + 1 := by rw [← hw1]; simp
  rw [hw1] at HBX
  have HW1 := Lib.hid hw1
  clear hw1
  go_loopw [7] (fun ii wr => ∃ k : Nat, k ≤ n ∧ ii = .int .i64 k ∧ Kept [] w1 wr) (fun ii _ => n - (intOf ii).toNat)
  case atStart => exact ⟨0, by omega, rfl, by rw [HW1.out]; exact Kept.refl _ _⟩
  case round =>
    obtain ⟨k, hk, rfl, hK⟩ := hrel
    have HK := Lib.hid hK
    have HKW := Lib.hid (HK1.out.trans hK)
    have c0 := HKW.out.cell (by simp) cx0
    have c1 := HKW.out.cell (by simp) cx1
    clear cx0 cx1 fx0 fx1 hK
    by_cases hlt : k < n
    · obtain ⟨a, ha⟩ : ∃ a, ops[k]? = some a := ⟨_, List.getElem?_eq_getElem (by rw [HN.out]; exact hlt)⟩
      have hda := HDF.out a (List.mem_of_getElem? ha)
      obtain ⟨g, rfl, hgb, hcell⟩ := own_cell7 HOV.out ha
      obtain ⟨a0, a1, a2, a5, a6⟩ := a
      have HSO := Lib.hid (fun (W : World) (_ : Kept [] wr W) => sameop_ne (a0, a1, a2, a5, a6) (o0, o1, o2, o5, o6) hda W)
      unfold bareA at HSO
      have ca0 : ∀ s : SW (Kept [] wr), s.to.cell? ⟨xb, 0, none⟩ = some (.slice (some ⟨g, 0, none⟩) n oc) := fun s => s.ok.cell (by simp) c0
      have cg0 : ∀ s : SW (Kept [] wr), s.to.cell? ⟨g, k * 7, none⟩ = some (.int .i64 a0) := fun s => (HKW.out.trans s.ok).cell (by simp) (hcell 0 _ rfl)
      have cg1 : ∀ s : SW (Kept [] wr), s.to.cell? ⟨g, k * 7 + 1, none⟩ = some (.string a1) := fun s => (HKW.out.trans s.ok).cell (by simp) (hcell 1 _ rfl)
      have cg2 : ∀ s : SW (Kept [] wr), s.to.cell? ⟨g, k * 7 + 2, none⟩ = some (.string a2) := fun s => (HKW.out.trans s.ok).cell (by simp) (hcell 2 _ rfl)
      have cg3 : ∀ s : SW (Kept [] wr), s.to.cell? ⟨g, k * 7 + 3, none⟩ = some (.slice none 0 0) := fun s => (HKW.out.trans s.ok).cell (by simp) (hcell 3 _ rfl)
      have cg4 : ∀ s : SW (Kept [] wr), s.to.cell? ⟨g, k * 7 + 4, none⟩ = some (.slice none 0 0) := fun s => (HKW.out.trans s.ok).cell (by simp) (hcell 4 _ rfl)
      have cg5 : ∀ s : SW (Kept [] wr), s.to.cell? ⟨g, k * 7 + 5, none⟩ = some (.int .i64 a5) := fun s => (HKW.out.trans s.ok).cell (by simp) (hcell 5 _ rfl)
      have cg6 : ∀ s : SW (Kept [] wr), s.to.cell? ⟨g, k * 7 + 6, none⟩ = some (.int .i64 a6) := fun s => (HKW.out.trans s.ok).cell (by simp) (hcell 6 _ rfl)
      have HBR := Lib.hid (HBX.out.kept HK.out (by simp))
      have cb0 : ∀ s : SW (Kept [] wr), s.to.cell? ⟨w.heap.size, 0, none⟩ = some (.int .i64 o0) := fun s => s.ok.cell (by simp) (HBR.out.cell 0)
      have cb1 : ∀ s : SW (Kept [] wr), s.to.cell? ⟨w.heap.size, 1, none⟩ = some (.string o1) := fun s => s.ok.cell (by simp) (HBR.out.cell 1)
      have cb2 : ∀ s : SW (Kept [] wr), s.to.cell? ⟨w.heap.size, 2, none⟩ = some (.string o2) := fun s => s.ok.cell (by simp) (HBR.out.cell 2)
      have cb3 : ∀ s : SW (Kept [] wr), s.to.cell? ⟨w.heap.size, 3, none⟩ = some (.slice none 0 0) := fun s => s.ok.cell (by simp) (HBR.out.cell 3)
      have cb4 : ∀ s : SW (Kept [] wr), s.to.cell? ⟨w.heap.size, 4, none⟩ = some (.slice none 0 0) := fun s => s.ok.cell (by simp) (HBR.out.cell 4)
      have cb5 : ∀ s : SW (Kept [] wr), s.to.cell? ⟨w.heap.size, 5, none⟩ = some (.int .i64 o5) := fun s => s.ok.cell (by simp) (HBR.out.cell 5)
      have cb6 : ∀ s : SW (Kept [] wr), s.to.cell? ⟨w.heap.size, 6, none⟩ = some (.int .i64 o6) := fun s => s.ok.cell (by simp) (HBR.out.cell 6)
      have hk0 : (0 : Int) ≤ (k : Int) := by omega
      have hkn : (k : Int) < (n : Int) := by omega
      clear ha hda hcell
      go_wp2_with fail
      refine wp_region_sw (Kept [] wr) (stays_kept wr) (Kept.refl [] wr) (by kernel_rfl) (by kernel_rfl) (fun hne => ?_)
      repeat (go_big_quiet_step ((go_at_call 58; exact SW.calls_of (stays_kept wr) HSO.out)))
      refine wpQuiet_nil ?_
      intro w4 hk4
      have HK4 := Lib.hid hk4
      clear hk4
      go_wp2_with fail
      go_roundw
      case rel => exact ⟨k + 1, by omega, by go_num, HK.out.trans HK4.out⟩
      case measure => simp [intOf]; omega
    · have hkn : k = n := by omega
      subst hkn
      have HBR := Lib.hid (HBX.out.kept HK.out (by simp))
      have b0 := HBR.out.cell 0
      have b1 := HBR.out.cell 1
      have b2 := HBR.out.cell 2
      have b3 := HBR.out.cell 3
      have b4 := HBR.out.cell 4
      have b5 := HBR.out.cell 5
      have b6 := HBR.out.cell 6
      simp at b0 b1 b2 b3 b4 b5 b6
      have HOVW : Hid (∀ W, Kept [] wr W → W.ownsRow B 88 7 (.slice OA k oc) k (ops.flatMap bareC)) := fun W hk => ownsRow_keep (HOV.out) (HKW.out.trans hk) (by simp)
      have hszr := HK.out.size
      have hxr : xb < wr.heap.size := by omega
      have HGK : Hid (∀ V W, Kept [] wr V → V.grownBy W (Value.slice OA k oc).ownBlock → Kept (Value.slice OA k oc).ownBlock.toList w W) := fun V W hk hg => (HKW.out.trans hk).nil.trans (grown_kept hg)
      have HNB : Hid (xb ∉ (Value.slice OA k oc).ownBlock.toList) := fun hm => by
        have := (HOV.out.lt xb (by simpa using hm)).1
        omega
      have HBG : Hid (∀ V W, Kept [] wr V → V.grownBy W (Value.slice OA k oc).ownBlock → Blk W xb #[.slice OA k oc, .slice FA k fc] 26 ∧ W.cell? ⟨xb, 0, none⟩ = some (.slice OA k oc) ∧ W.cell? ⟨xb, 1, none⟩ = some (.slice FA k fc) ∧ W.frozen? ⟨xb, 0, none⟩ = false ∧ W.frozen? ⟨xb, 1, none⟩ = false ∧ xb < W.heap.size) := fun V W hk hg => by
        have hb := HB.out.kept (HGK.out V W hk hg) HNB.out
        exact ⟨hb, (hb.cell 0).trans rfl, (hb.cell 1).trans rfl, hb.free 0, hb.free 1, hb.lt⟩
      have HFG : Hid (∀ V W u, Kept [] wr V → V.grownBy W (Value.slice OA k oc).ownBlock → (W.setCell ⟨xb, 0, none⟩ u).ownsRow B 22 1 (.slice FA k fc) k fs) := fun V W u hk hg => by
        refine ownsRow_keep (S := [xb]) (ownsRow_keep HFV.out (HGK.out V W hk hg) (fun b hb hm => own_apart HOV.out HFV.out (by decide) b (by simpa using hm) hb)) ((Kept.refl [xb] W).setCell (.inl (by simp)) u) (fun b hb hm => ?_)
        have := (HFV.out.lt b hb).1
        simp at hm
        omega
      go_wp2_with fail
      go_region_law ((refine step_guard8 _ _ 23 (by rfl) ?_; refine step_append_lies _ (by rfl) _ _ 23 (by rfl) B 88 i0 (.agg #[.int .i64 0, .string { data := #[] }, .string { data := #[] }, .slice none 0 0, .slice none 0 0, .int .i64 0, .int .i64 0]) 7 104 Tryz.underlying23 hi0 hz0 hz1 hz2 (by rfl) (by decide) (.slice OA k oc) k (ops.flatMap bareC) (by rfl) (HOVW.out _ (by (repeat (first | exact Kept.refl _ _ | assumption | refine Kept.drewN ?_ _ | refine Kept.drew ?_ | refine Kept.alloc ?_ _)))) ⟨wr.heap.size, 0, none⟩ 1 1 [.int .i64 o0, .string o1, .string o2, .slice none 0 0, .slice none 0 0, .int .i64 o5, .int .i64 o6] (by rfl) (by rfl) (by (repeat (first | exact cells_at8 _ _ _ _ rfl | exact cells_at8 _ _ _ _ (by simp) | refine cells_drew8 ?_ | refine cells_drewN8 ?_))) (by simp [Value.oneCell']) (by decide) (by unfold maxLen; omega) (by omega) (by simp; omega) (wr.heap.size + 1) (by simp) ?_; intro gg cap w5 hown5 hgrow5 hat5 hlt5; obtain ⟨hb5, x50, x51, z50, z51, l5⟩ := HBG.out _ _ (by (repeat (first | exact Kept.refl _ _ | assumption | refine Kept.drewN ?_ _ | refine Kept.drew ?_ | refine Kept.alloc ?_ _))) hgrow5))
      all_goals
        have HG5 : Hid (∃ V, Kept [] wr V ∧ V.grownBy w5 (Value.slice OA k oc).ownBlock) := ⟨_, by (repeat (first | exact Kept.refl _ _ | assumption | refine Kept.drewN ?_ _ | refine Kept.drew ?_ | refine Kept.alloc ?_ _)), hgrow5⟩
        have HFV6 : Hid (∀ u, (w5.setCell ⟨xb, 0, none⟩ u).ownsRow B 22 1 (.slice FA k fc) k fs) := fun u => HFG.out _ _ u (by (repeat (first | exact Kept.refl _ _ | assumption | refine Kept.drewN ?_ _ | refine Kept.drew ?_ | refine Kept.alloc ?_ _))) hgrow5
        have hB5 : B ≤ w5.heap.size := by
          have h9 := hgrow5.size
          simp at h9
          omega
        have HOWN5 := Lib.hid hown5
        have HB5 := Lib.hid hb5
        clear hown5 hgrow5 hat5 hlt5 hb5
        go_wp2_with (at_builtin; refine wpList_append_own_at _ rfl _ _ 24 rfl B 22 j0 (.slice none 0 0) 1 24 Tryz.underlying24 hj0 hy0 hy1 hy2 rfl (by decide) _ k fs rfl (World.ownsRow.alloc (HFV6.out _) _) ⟨w5.heap.size, 0, none⟩ 1 1 [.slice VA row.length vc] rfl rfl (by (repeat (first | exact cells_at8 _ _ _ _ rfl | exact cells_at8 _ _ _ _ (by simp) | refine cells_drew8 ?_ | refine cells_drewN8 ?_))) (by simp [Value.oneCell']) (by unfold maxLen; omega) (by omega) (by simp; omega) ?_)
        intro v7 w7 hown7 hgrow7 _ hat7
        obtain ⟨VF, vf, rfl⟩ := own_len hown7
        obtain ⟨V, hkV, hgV⟩ := HG5.out
        obtain ⟨hb7, hpa, hkt⟩ := put_done (o := (o0, o1, o2, o5, o6)) HN.out HL.out hxB hxl HKW.out hkV HOV.out HFV.out HFL.out HFS.out HV.out HFN.out HVN.out HB.out hgV HOWN5.out hgrow7 hown7
        have HPA := Lib.hid hpa
        have HKT := Lib.hid hkt
        have y0 := hb7.cell 0
        have y1 := hb7.cell 1
        have z0 := hb7.free 0
        have z1 := hb7.free 1
        have yl := hb7.lt
        simp at y0 y1
        clear hpa hkt hown7 hgrow7 hat7 hb7 hkV hgV
        go_wp2_with fail
        go_ret
        exact ⟨by first | rfl | (refine ret_int ?_; omega) | (refine ret_int ?_; simp), HPA.out, HKT.out⟩

end Go.Proofs.YtbaifjdealmckaaGreat
